/- The law's sane (printed by tools/gen143.py). -/
import Derived.Test.YtpnfpdkoeednhaaAP6
import Derived.Deep.DeepCutAuto
import Derived.Deep.CutBlock
import Derived.Deep.CutRange
import Derived.Deep.RegionHeld3
import Derived.BigRegion
namespace Go.Proofs.Ytpnfpdkoeednhaa
open Go.RowKit Go.Shelf Go.Sort

theorem all_any (st : Fst) (s : Ps) (v : Int) (w : World) (hs : FlS st s w) (hlen : (allB st.ps st.roots v).length ≤ 1000000) :
    Calls Try.prog 19 #[psVal s, .int .i64 v] w fun e w' => ∃ A n c, e = .returned (.tuple #[.slice A n c, .int .i64 (errP (verB st.ps st.roots v))]) ∧ fSl w' w'.heap.size A n c (allB st.ps st.roots v) ∧ Below w.heap.size w w' := by
  have h := pgAll_any s v w hs.inn.inn hs.inn.slim (by rw [allV_eq, hs.ps, hs.roots]; exact hlen)
  rw [allV_eq, verOk_eq, hs.ps, hs.roots] at h
  exact h
theorem reach_any (st : Fst) (s : Ps) (v : Int) (w : World) (hs : FlS st s w) (hlen : (reachB st.ps st.roots v).length ≤ 1000000) :
    Calls Try.prog 21 #[psVal s, .int .i64 v] w fun e w' => ∃ A n c, e = .returned (.tuple #[.slice A n c, .int .i64 (errP (verB st.ps st.roots v))]) ∧ iSl w' w'.heap.size A n c (reachB st.ps st.roots v) ∧ Below w.heap.size w w' := by
  have h := pgReach_any s v w hs.inn.inn hs.inn.slim (by rw [reachV_eq, hs.ps, hs.roots]; exact hlen)
  rw [reachV_eq, verOk_eq, hs.ps, hs.roots] at h
  exact h
theorem at_any (st : Fst) (s : Ps) (v : Int) (k : Ky) (term known : Int) (w : World) (hs : FlS st s w) (hlen : (allB st.ps st.roots v).length ≤ 1000000) :
    Calls Try.prog 25 #[psVal s, .int .i64 v, .agg #[.int .i64 k.kind, .int .i64 k.subj, .int .i64 k.obj], .int .i64 term, .int .i64 known] w fun e w' =>
      e = .returned (.tuple #[.int .i64 ((atF (allB st.ps st.roots v) k term known).getD 0), .bool (atF (allB st.ps st.roots v) k term known).isSome, .int .i64 (errP (verB st.ps st.roots v))]) ∧ Below w.heap.size w w' := by
  have h := pgAt_any s v k term known w hs.inn.inn hs.inn.slim (by rw [allV_eq, hs.ps, hs.roots]; exact hlen)
  rw [allV_eq, verOk_eq, hs.ps, hs.roots] at h
  exact h
theorem check_any (st : Fst) (s : Ps) (w : World) (hs : FlS st s w) :
    Calls Try.prog 14 #[psVal s] w fun e w' => e = .returned (.int .i64 (errP (checkP st.ps st.roots))) ∧ Below w.heap.size w w' := by
  have h := pgCheck_any s w hs.inn.inn hs.inn.slim
  rw [hs.ps, hs.roots] at h
  exact h
theorem check_empty (w : World) : Calls Try.prog 14 #[.agg #[.slice none 0 0, .slice none 0 0]] w fun e w' => e = .returned (.int .i64 470) ∧ Below w.heap.size w w' := by
  have h := pgCheck_any ⟨none, 0, 0, [], none, 0, 0, []⟩ w ⟨Rows.nil (by show (0 : Nat) ≤ _; omega), (fun g hg => by cases hg), Rows.nil (by show (0 : Nat) ≤ _; omega)⟩ (fun g hg => by cases hg)
  exact h
/-- The box that bears the example's pages. -/
structure SnB (st : Fst) (s : Ps) (b : Nat) (w0 w : World) : Prop where
  st : FlS st s w
  box : w.heap[b]? = some (.cells #[.slice s.pA s.pn s.pc, .slice s.rA s.rn s.rc] 25 (0, 0))
  far : ∀ x, PsBl s x → x ≠ b
  below : Below w0.heap.size w0 w
theorem SnB.later {st : Fst} {s : Ps} {b : Nat} {w0 w w' : World} (h : SnB st s b w0 w) (hb : Below w.heap.size w w') : SnB st s b w0 w' :=
  ⟨h.st.later hb, (hb.block _ (lt_of_heap h.box)).trans h.box, h.far, h.below.trans (hb.mono h.below.size)⟩
set_option maxRecDepth 100000 in
set_option maxHeartbeats 8000000 in
theorem sane_any (w : World) : Calls Try.prog 10 #[] w fun e w' => e = .returned (.bool true) ∧ Below w.heap.size w w' := by
  go_enter Try.func10, Try.ntmps10
  go_wp2_with fail
  refine (pgNew_any w).mono ?_
  rintro e w1 ⟨s, rfl, hs, hps, hroots, hb1, -⟩
  obtain ⟨b, hb⟩ : ∃ b, w1.heap.size = b := ⟨_, rfl⟩
  obtain ⟨W1, hW1⟩ : ∃ W, w1.alloc (.cells #[.slice s.pA s.pn s.pc, .slice s.rA s.rn s.rc] 25) = W := ⟨_, rfl⟩
  have c1 : Below w1.heap.size w1 W1 := hW1 ▸ (Below.refl _ w1).alloc (Nat.le_refl _) _
  have g1 : W1.heap[b]? = some (.cells #[.slice s.pA s.pn s.pc, .slice s.rA s.rn s.rc] 25 (0, 0)) := by rw [← hW1, ← hb]; exact World.alloc_heap_new _ _
  have hfl : FlS fst0 s W1 := ⟨hs.later c1, hps, hroots⟩
  have hf0 : ∀ x, PsBl s x → x < b := fun x hx => by have := hx.lt hs.inn; omega
  have HS1 := hidp hfl
  have HF0 := hidp hf0
  have HG1 := hidp g1
  have HB1 := hidp (hb1.trans (c1.mono hb1.size))
  have HBs := hidp hb
  have hbw : w.heap.size ≤ b := by have := hb1.size; omega
  have hW1z : W1.heap.size = b + 1 := by rw [← hW1]; simp [hb]
  have x0 := cell_of_heap (o := 0) g1
  have x1 := cell_of_heap (o := 1) g1
  have x2 := lt_of_heap g1
  simp only [List.getElem?_toArray, List.getElem?_cons_zero, List.getElem?_cons_succ] at x0 x1
  clear hs hps hroots hb1 c1 g1 hfl hf0
  go_wp2_with fail
  refine (all_any fst0 s 0 W1 HS1.out (by decide +kernel)).mono ?_
  rintro e w2 ⟨A2, n2, c2, rfl, hl2, hb2⟩
  have HS2 := hidp (HS1.out.later hb2)
  have HG2 := hidp ((hb2.block b x2).trans HG1.out)
  have HB2 := hidp (HB1.out.trans (hb2.mono (by omega)))
  have hn2 : n2 = 0 := hl2.1.trans (by rw [show allB fst0.ps fst0.roots 0 = [] from ex_zero.2.2.2.1]; rfl)
  have e2 : errP (verB fst0.ps fst0.roots 0) = 0 := by rw [show verB fst0.ps fst0.roots 0 = true from ex_zero.2.1]; rfl
  rw [e2, hn2]
  clear x0 x1 x2 hl2 hb2 hn2 e2
  have x0 := cell_of_heap (o := 0) HG2.out
  have x1 := cell_of_heap (o := 1) HG2.out
  have x2 := lt_of_heap HG2.out
  simp only [List.getElem?_toArray, List.getElem?_cons_zero, List.getElem?_cons_succ] at x0 x1
  go_wp2_with fail
  refine (all_any fst0 s 1 w2 HS2.out (by decide +kernel)).mono ?_
  rintro e w3 ⟨A3, n3, c3, rfl, hl3, hb3⟩
  have HS3 := hidp (HS2.out.later hb3)
  have HG3 := hidp ((hb3.block b x2).trans HG2.out)
  have HB3 := hidp (HB2.out.trans (hb3.mono (by have := HB2.out.size; omega)))
  have e3 : errP (verB fst0.ps fst0.roots 1) = 470 := by rw [show verB fst0.ps fst0.roots 1 = false from ex_zero.2.2.1]; rfl
  rw [e3]
  clear x0 x1 x2 hl3 hb3 e3
  have x0 := cell_of_heap (o := 0) HG3.out
  have x1 := cell_of_heap (o := 1) HG3.out
  have x2 := lt_of_heap HG3.out
  simp only [List.getElem?_toArray, List.getElem?_cons_zero, List.getElem?_cons_succ] at x0 x1
  go_wp2_with fail
  refine (reach_any fst0 s 0 w3 HS3.out (by rw [show (reachB fst0.ps fst0.roots 0).length = 1 from ex_reach0]; omega)).mono ?_
  rintro e w4 ⟨A4, n4, c4, rfl, hl4, hb4⟩
  have HS4 := hidp (HS3.out.later hb4)
  have HG4 := hidp ((hb4.block b x2).trans HG3.out)
  have HB4 := hidp (HB3.out.trans (hb4.mono (by have := HB3.out.size; omega)))
  have hn4 : n4 = 1 := hl4.1.trans ex_reach0
  have e4 : errP (verB fst0.ps fst0.roots 0) = 0 := by rw [show verB fst0.ps fst0.roots 0 = true from ex_zero.2.1]; rfl
  rw [e4, hn4]
  clear x0 x1 x2 hl4 hb4 e4 hn4
  have x0 := cell_of_heap (o := 0) HG4.out
  have x1 := cell_of_heap (o := 1) HG4.out
  have x2 := lt_of_heap HG4.out
  simp only [List.getElem?_toArray, List.getElem?_cons_zero, List.getElem?_cons_succ] at x0 x1
  go_wp2_with fail
  refine (check_any fst0 s w4 HS4.out).mono ?_
  rintro e w5 ⟨rfl, hb5⟩
  have HS5 := hidp (HS4.out.later hb5)
  have HG5 := hidp ((hb5.block b x2).trans HG4.out)
  have HB5 := hidp (HB4.out.trans (hb5.mono (by have := HB4.out.size; omega)))
  have e5 : errP (checkP fst0.ps fst0.roots) = 0 := by rw [show checkP fst0.ps fst0.roots = true from ex_zero.1]; rfl
  rw [e5]
  clear x0 x1 x2 hb5 e5
  have x0 := cell_of_heap (o := 0) HG5.out
  have x1 := cell_of_heap (o := 1) HG5.out
  have x2 := lt_of_heap HG5.out
  simp only [List.getElem?_toArray, List.getElem?_cons_zero, List.getElem?_cons_succ] at x0 x1
  go_wp2_with fail
  refine (check_empty w5).mono ?_
  rintro e w6 ⟨rfl, hb6⟩
  have HS6 := hidp (HS5.out.later hb6)
  have HG6 := hidp ((hb6.block b x2).trans HG5.out)
  have HB6 := hidp (HB5.out.trans (hb6.mono (by have := HB5.out.size; omega)))
  have hrn : s.rn = 1 := HS6.out.inn.inn.roots.1.trans (by rw [HS6.out.roots]; rfl)
  have hrn' : ((s.rn : Int) != 1) = false := by rw [hrn]; rfl
  clear x0 x1 x2 hb6 hrn
  have x0 := cell_of_heap (o := 0) HG6.out
  have x1 := cell_of_heap (o := 1) HG6.out
  have x2 := lt_of_heap HG6.out
  simp only [List.getElem?_toArray, List.getElem?_cons_zero, List.getElem?_cons_succ] at x0 x1
  go_wp2_with fail
  have hst6 : SnB (exP 0) s b w w6 := ⟨HS6.out, HG6.out, fun x hx e => by have := HF0.out x hx; omega, HB6.out⟩
  have HSt := hidp hst6
  clear hst6 hrn' x0 x1 x2
  go_loopw [8, 9, 10] (fun i x e wr => ∃ (k : Nat) (vx ve : Value), k ≤ 5 ∧ i = .int .i64 (5 - (k : Int)) ∧ x = vx ∧ e = ve ∧ ∃ s1, SnB (exP k) s1 b w wr) (fun i _ _ _ => (intOf i).toNat)
  case atStart => exact ⟨0, _, _, by omega, rfl, rfl, rfl, s, HSt.out⟩
  case round =>
  obtain ⟨k, vx, ve, hk, rfl, rfl, rfl, s1, hst⟩ := hrel
  have HSt1 := hidp hst
  have hbz := lt_of_heap hst.box
  have x0 := cell_of_heap (o := 0) hst.box
  have x1 := cell_of_heap (o := 1) hst.box
  have x2 := lt_of_heap hst.box
  simp only [List.getElem?_toArray, List.getElem?_cons_zero, List.getElem?_cons_succ] at x0 x1
  have x3 := frozen_of_heap (o := 0) hst.box
  have x4 := frozen_of_heap (o := 1) hst.box
  clear hst
  by_cases hk5 : k < 5
  · have hki : (1 : Int) ≤ 5 - (k : Int) := by omega
    have hwr : IntKind.i64.wrap (10 + (5 - (k : Int))) = 10 + (5 - (k : Int)) := IntWalk.i64_in _ (by omega)
    have he := ex_step k hk5
    have hf : exFact (5 - k) (15 - k) = exFact (5 - (k : Int)) (10 + (5 - (k : Int))) := by rw [show (15 : Int) - k = 10 + (5 - (k : Int)) by omega]
    rw [hf] at he
    have HE := hidp he
    have HSuc := hidp (ex_succ k hk5)
    have HFe := hidp hf
    have hgs : s1.gs.length ≤ 100000 ∧ s1.roots.length ≤ 100000 := by
      have h1 := congrArg List.length HSt1.out.st.ps
      rw [psV_len] at h1
      have h2 := ex_size k hk
      rw [HSt1.out.st.roots]; omega
    have HCall : Hid (∀ W, Below wr.heap.size wr W → Calls Try.prog 12 #[.agg #[.slice s1.pA s1.pn s1.pc, .slice s1.rA s1.rn s1.rc], .agg #[.int .i64 5, .int .i64 4, .int .i64 (5 - (k : Int)), .int .i64 (10 + (5 - (k : Int))), .int .i64 0, .int .i64 9, .int .i64 (10 + (5 - (k : Int))), .int .i64 0]] W fun e w' => ∃ s', e = .returned (.tuple #[psVal s', .int .i64 0]) ∧ PutRes (exP k).ps (exP k).roots (exFact (5 - (k : Int)) (10 + (5 - (k : Int)))) s' w' ∧ Below W.heap.size W w' ∧ ∀ x, PsBl s' x → (∃ g ∈ s1.gs, PgBl g x) ∨ W.heap.size ≤ x) := fun W hW => by
      have h := put_any s1 (exFact (5 - (k : Int)) (10 + (5 - (k : Int)))) wr.heap.size W (HSt1.out.st.inn.inn.keep (Nat.le_refl _) hW.block) hW.size HSt1.out.st.inn.slim hgs
      rw [HSt1.out.st.ps, HSt1.out.st.roots, HE.out] at h
      exact h
    clear he hf
    go_upto_region 10 with fail
    go_cut [9, 10] (fun s9 s10 wx => ∃ s2 X, s9 = .pointer (some ⟨X, 0, none⟩) ∧ s10 = .int .i64 0 ∧ PutRes (exP k).ps (exP k).roots (exFact (5 - (k : Int)) (10 + (5 - (k : Int)))) s2 wx ∧ wx.heap[X]? = some (.cells #[.slice s2.pA s2.pn s2.pc, .slice s2.rA s2.rn s2.rc] 25 (0, 0)) ∧ Below wr.heap.size wr wx ∧ wr.heap.size ≤ X ∧ ∀ x, PsBl s2 x → (∃ g ∈ s1.gs, PgBl g x) ∨ wr.heap.size ≤ x)
    case first =>
      go_region_held3 (fun w' => w'.cell? ⟨b, 0, none⟩ = some (.slice s1.pA s1.pn s1.pc) ∧ w'.cell? ⟨b, 1, none⟩ = some (.slice s1.rA s1.rn s1.rc))
        (first | (refine ⟨cellB ?_ x0, cellB ?_ x1⟩ <;> (repeat (first | exact HB8.out | exact HB7.out | exact Below.refl _ _ | refine Below.drew ?_ | refine Below.alloc ?_ (by first | omega | (simp <;> omega) | simp) _ | refine Below.setCell ?_ (by first | omega | (simp <;> omega) | simp) _))))
        (first
          | (go_at_call 33; (try rw [hwr]); refine (fact_any (5 - (k : Int)) (10 + (5 - (k : Int))) _).mono ?_; rintro e w7 ⟨rfl, hb7⟩; have hB7 : Below wr.heap.size wr w7 := Below.trans (by repeat (first | exact Below.refl _ _ | refine Below.drew ?_ | refine Below.alloc ?_ (by simp) _)) (hb7.mono (by simp)); have HB7 := hidp hB7; have hz7 := hB7.size; have hz7b := hb7.size; (try (have g7 := (hb7.block wr.heap.size (by simp)).trans (World.alloc_heap_new wr _); have HG7 := hidp g7; clear g7)); clear hb7 hB7)
          | (go_at_call 12; refine (HCall.out _ (by repeat (first | exact HB7.out | exact Below.refl _ _ | refine Below.drew ?_ | refine Below.alloc ?_ (by first | omega | (simp <;> omega) | simp) _))).mono ?_; rintro e w8 ⟨s2, rfl, hr, hb8, hsep⟩; have HSep := hidp hsep; have hB8 : Below wr.heap.size wr w8 := Below.trans (by repeat (first | exact HB7.out | exact Below.refl _ _ | refine Below.drew ?_ | refine Below.alloc ?_ (by first | omega | (simp <;> omega) | simp) _)) (hb8.mono (by first | omega | (simp <;> omega))); have HB8 := hidp hB8; have hz8 := hB8.size; have HR8 := hidp hr; (try (have g8 := (hb8.block wr.heap.size (lt_of_heap HG7.out)).trans HG7.out; have HG8 := hidp g8; have g0 := cell_of_heap (o := 0) g8; have g1 := cell_of_heap (o := 1) g8; have g2 := frozen_of_heap (o := 0) g8; have g3 := frozen_of_heap (o := 1) g8; have g4 := lt_of_heap g8; clear g8)); (try (have g8 := (hb8.block w7.heap.size (by simp)).trans (World.alloc_heap_new w7 _); have HG8 := hidp g8; have g0 := cell_of_heap (o := 0) g8; have g1 := cell_of_heap (o := 1) g8; have g2 := frozen_of_heap (o := 0) g8; have g3 := frozen_of_heap (o := 1) g8; have g4 := lt_of_heap g8; clear g8)); clear hr hb8 hB8 hsep))
      · go_wp2_with fail
        go_meet
        exact ⟨s2, _, rfl, rfl, HR8.out.later ((Below.refl _ _).alloc (Nat.le_refl _) _), World.alloc_heap_new _ _, HB8.out.alloc hz8 _, hz8, fun x hx => (HSep.out x hx).imp id fun h => by omega⟩
      · go_wp2_with fail
        go_meet
        have hO : Only w7.heap.size w8 ((w8.setCell ⟨w7.heap.size, 0, none⟩ (.slice s2.pA s2.pn s2.pc)).setCell ⟨w7.heap.size, 1, none⟩ (.slice s2.rA s2.rn s2.rc)) := (Only.setCell _ _ _ _).trans (Only.setCell _ _ _ _)
        refine ⟨s2, w7.heap.size, rfl, rfl, HR8.out.only hO (fun x hx e => ?_), ?_, ?_, hz7, fun x hx => (HSep.out x hx).imp id fun h => by simp at h; omega⟩
        · rcases HSep.out x hx with ⟨g, hg, h⟩ | h
          · have := h.lt (HSt1.out.st.inn.inn.each g hg)
            omega
          · simp at h; omega
        · have := heap_setN (heap_setN HG8.out 0 (.slice s2.pA s2.pn s2.pc)) 1 (.slice s2.rA s2.rn s2.rc)
          simpa using this
        · exact (HB8.out.setCell (p := ⟨w7.heap.size, 0, none⟩) hz7 _).setCell (p := ⟨w7.heap.size, 1, none⟩) hz7 _
      · go_wp2_with fail
        go_meet
        have hO : Only wr.heap.size w8 ((w8.setCell ⟨wr.heap.size, 0, none⟩ (.slice s2.pA s2.pn s2.pc)).setCell ⟨wr.heap.size, 1, none⟩ (.slice s2.rA s2.rn s2.rc)) := (Only.setCell _ _ _ _).trans (Only.setCell _ _ _ _)
        have hz7c : wr.heap.size + 1 ≤ w7.heap.size := by simpa using hz7b
        refine ⟨s2, wr.heap.size, rfl, rfl, HR8.out.only hO (fun x hx e => ?_), ?_, ?_, Nat.le_refl _, fun x hx => (HSep.out x hx).imp id fun h => by omega⟩
        · rcases HSep.out x hx with ⟨g, hg, h⟩ | h
          · have := h.lt (HSt1.out.st.inn.inn.each g hg)
            omega
          · omega
        · have := heap_setN (heap_setN HG8.out 0 (.slice s2.pA s2.pn s2.pc)) 1 (.slice s2.rA s2.rn s2.rc)
          simpa using this
        · exact (HB8.out.setCell (p := ⟨wr.heap.size, 0, none⟩) (Nat.le_refl _) _).setCell (p := ⟨wr.heap.size, 1, none⟩) (Nat.le_refl _) _
    case rest =>
    obtain ⟨s2, X, rfl, rfl, hres, hx8, hb8, hX8, hsep⟩ := hcut
    rename World => wc
    have HRes := hidp hres
    have HSep := hidp hsep
    have HB8 := hidp hb8
    have gb := (hb8.block b hbz).trans HSt1.out.box
    have HGb := hidp gb
    have r0 := cell_of_heap (o := 0) hx8
    have r1 := cell_of_heap (o := 1) hx8
    have r2 := lt_of_heap hx8
    clear x0 x1 x2 x3 x4
    have x0 := cell_of_heap (o := 0) gb
    have x1 := cell_of_heap (o := 1) gb
    have x2 := lt_of_heap gb
    have x3 := frozen_of_heap (o := 0) gb
    have x4 := frozen_of_heap (o := 1) gb
    simp only [List.getElem?_toArray, List.getElem?_cons_zero, List.getElem?_cons_succ] at r0 r1 x0 x1
    clear hres hx8 hb8 gb hsep
    go_wp2_with fail
    have hO : Only b wc ((wc.setCell ⟨b, 0, none⟩ (.slice s2.pA s2.pn s2.pc)).setCell ⟨b, 1, none⟩ (.slice s2.rA s2.rn s2.rc)) := (Only.setCell _ _ _ _).trans (Only.setCell _ _ _ _)
    have hfar : ∀ x, PsBl s2 x → x ≠ b := fun x hx e => by
      rcases HSep.out x hx with ⟨g, hg, h⟩ | h
      · exact HSt1.out.far x (.inr (.inr ⟨g, hg, h⟩)) e
      · omega
    have hres := HRes.out.only hO hfar
    have hbx := heap_setN (heap_setN HGb.out 0 (.slice s2.pA s2.pn s2.pc)) 1 (.slice s2.rA s2.rn s2.rc)
    have hstf : exP (k + 1) = ⟨(putW (exP k).ps (lastR (exP k).roots) (exFact (5 - (k : Int)) (10 + (5 - (k : Int))))).1, (exP k).roots ++ [((putW (exP k).ps (lastR (exP k).roots) (exFact (5 - (k : Int)) (10 + (5 - (k : Int))))).2 : Int)], (exP k).acc ++ [exFact (5 - (k : Int)) (10 + (5 - (k : Int)))]⟩ := by
      rw [HSuc.out, HFe.out]; unfold stepF; rw [if_pos HE.out]
    go_roundw
    case rel =>
      refine ⟨k + 1, _, _, by omega, by go_num, rfl, rfl, s2, ?_⟩
      rw [hstf]
      refine ⟨⟨hres.1, (hres.2.1 HE.out).1, (hres.2.1 HE.out).2⟩, by simpa using hbx, hfar, ?_⟩
      exact (((HSt1.out.below.trans (HB8.out.mono HSt1.out.below.size)).setCell (p := ⟨b, 0, none⟩) hbw _).setCell (p := ⟨b, 1, none⟩) hbw _)
    case measure => simp [intOf]; omega
  · have hk6 : k = 5 := by omega
    subst hk6
    have hki : ¬ ((1 : Int) ≤ 5 - ((5 : Nat) : Int)) := by omega
    go_wp2_with fail
    have HF1 := hidp HSt1.out.st
    refine (reach_any (exP 5) s1 5 wr HF1.out (by rw [ex_reach5]; omega)).mono ?_
    rintro e wa ⟨A6, n6, c6, rfl, hl6, hb6⟩
    have HStA := hidp (HSt1.out.later hb6)
    have hn6 : n6 = 3 := hl6.1.trans ex_reach5
    have e6 : errP (verB (exP 5).ps (exP 5).roots 5) = 0 := by rw [ex_end.1]; rfl
    rw [e6, hn6]
    clear x0 x1 x2 x3 x4 hl6 hb6 hn6 e6
    have HSA := hidp HStA.out.st
    have hfd : ∀ W : World, (Instr.field 31 (.agg #[.int .i64 5, .int .i64 4, .int .i64 3, .int .i64 0, .int .i64 0, .int .i64 9, .int .i64 0, .int .i64 0]) 0).run Try.prog W = .ok (.agg #[.int .i64 5, .int .i64 4, .int .i64 3]) W := fun W => by kernel_rfl
    have x0 := cell_of_heap (o := 0) HStA.out.box
    have x1 := cell_of_heap (o := 1) HStA.out.box
    have x2 := lt_of_heap HStA.out.box
    simp only [List.getElem?_toArray, List.getElem?_cons_zero, List.getElem?_cons_succ] at x0 x1
    go_upto_region 15 with fail
    go_region_held3 (fun w' => w'.cell? ⟨b, 0, none⟩ = some (.slice s1.pA s1.pn s1.pc) ∧ w'.cell? ⟨b, 1, none⟩ = some (.slice s1.rA s1.rn s1.rc))
      (first | (refine ⟨cellB ?_ x0, cellB ?_ x1⟩ <;> (repeat (first | exact HB8.out | exact HB7.out | exact Below.refl _ _ | refine Below.drew ?_ | refine Below.alloc ?_ (by first | omega | (simp <;> omega) | simp) _ | refine Below.setCell ?_ (by first | omega | (simp <;> omega) | simp) _))))
      (first
        | (go_at_call 33; refine (fact_any 3 0 _).mono ?_; rintro e w7 ⟨rfl, hb7⟩; have hB7 : Below wa.heap.size wa w7 := Below.trans (by repeat (first | exact Below.refl _ _ | refine Below.drew ?_)) (hb7.mono (by simp)); have HB7 := hidp hB7; have HS7 := hidp (HSA.out.later hB7); clear hb7 hB7)
        | (go_at_call 25; refine (at_any (exP 5) s1 5 ⟨5, 4, 3⟩ 4 99 _ HS7.out (by rw [ex_end.2.2.1]; omega)).mono ?_; rintro e w8 ⟨rfl, hb8⟩; rw [ex_end.2.2.2.2.1, ex_end.1]; (try rw [show errP true = 0 from rfl]); have hB8 : Below wa.heap.size wa w8 := HB7.out.trans (hb8.mono HB7.out.size); have HB8 := hidp hB8; clear hb8 hB8))
    have hst9 := HStA.out.later HB8.out
    clear x0 x1 x2 HB7 HB8 HS7
    rename World => wb2
    have HStb := hidp hst9
    clear hst9
    have HSwb2 := hidp HStb.out.st
    have x0 := cell_of_heap (o := 0) HStb.out.box
    have x1 := cell_of_heap (o := 1) HStb.out.box
    have x2 := lt_of_heap HStb.out.box
    simp only [List.getElem?_toArray, List.getElem?_cons_zero, List.getElem?_cons_succ] at x0 x1
    go_upto_region 16 with fail
    go_region_held3 (fun w' => w'.cell? ⟨b, 0, none⟩ = some (.slice s1.pA s1.pn s1.pc) ∧ w'.cell? ⟨b, 1, none⟩ = some (.slice s1.rA s1.rn s1.rc))
      (first | (refine ⟨cellB ?_ x0, cellB ?_ x1⟩ <;> (repeat (first | exact HB8.out | exact HB7.out | exact Below.refl _ _ | refine Below.drew ?_ | refine Below.alloc ?_ (by first | omega | (simp <;> omega) | simp) _ | refine Below.setCell ?_ (by first | omega | (simp <;> omega) | simp) _))))
      (first
        | (go_at_call 33; refine (fact_any 3 0 _).mono ?_; rintro e w7 ⟨rfl, hb7⟩; have hB7 : Below wb2.heap.size wb2 w7 := Below.trans (by repeat (first | exact Below.refl _ _ | refine Below.drew ?_)) (hb7.mono (by simp)); have HB7 := hidp hB7; have HS7 := hidp (HSwb2.out.later hB7); clear hb7 hB7)
        | (go_at_call 25; refine (at_any (exP 5) s1 2 ⟨5, 4, 3⟩ 4 99 _ HS7.out (by rw [ex_end.2.2.2.1]; omega)).mono ?_; rintro e w8 ⟨rfl, hb8⟩; rw [ex_end.2.2.2.2.2.1, ex_end.2.1]; (try rw [show errP true = 0 from rfl]); have hB8 : Below wb2.heap.size wb2 w8 := HB7.out.trans (hb8.mono HB7.out.size); have HB8 := hidp hB8; clear hb8 hB8))
    have hst9 := HStb.out.later HB8.out
    clear x0 x1 x2 HB7 HB8 HS7
    rename World => wc2
    have HStc := hidp hst9
    clear hst9
    have HSwc2 := hidp HStc.out.st
    have x0 := cell_of_heap (o := 0) HStc.out.box
    have x1 := cell_of_heap (o := 1) HStc.out.box
    have x2 := lt_of_heap HStc.out.box
    simp only [List.getElem?_toArray, List.getElem?_cons_zero, List.getElem?_cons_succ] at x0 x1
    have hrn6 : Hid (s1.rn = 6) := hidp (HStc.out.st.inn.inn.roots.1.trans (by rw [HStc.out.st.roots]; exact ex_end.2.2.2.2.2.2.2.1))
    have hgs : s1.gs.length ≤ 100000 ∧ s1.roots.length ≤ 100000 := by
      have h1 := congrArg List.length HStc.out.st.ps
      rw [psV_len] at h1
      have h2 := ex_size 5 (by omega)
      rw [HStc.out.st.roots]; omega
    obtain ⟨vf, hvf⟩ : ∃ v : Value, v = .agg #[.int .i64 5, .int .i64 4, .int .i64 3, .int .i64 13, .int .i64 0, .int .i64 9, .int .i64 13, .int .i64 0] := ⟨_, rfl⟩
    have HFact : Hid (∀ W, Calls Try.prog 33 #[.int .i64 3, .int .i64 13] W fun e w' => e = .returned vf ∧ Below W.heap.size W w') := fun W => by
      rw [hvf]; exact fact_any 3 13 W
    have HCall : Hid (∀ W, Below wc2.heap.size wc2 W → Calls Try.prog 12 #[.agg #[.slice s1.pA s1.pn s1.pc, .slice s1.rA s1.rn s1.rc], vf] W fun e w' => ∃ s', e = .returned (.tuple #[psVal s', .int .i64 470]) ∧ Below W.heap.size W w') := fun W hW => by
      rw [hvf]
      have h := put_any s1 (exFact 3 13) wc2.heap.size W (HStc.out.st.inn.inn.keep (Nat.le_refl _) hW.block) hW.size HStc.out.st.inn.slim hgs
      rw [HStc.out.st.ps, HStc.out.st.roots, ex_end.2.2.2.2.2.2.1] at h
      exact h.mono fun _ _ ⟨s', h1, _, h3, _⟩ => ⟨s', h1, h3⟩
    clear hvf
    go_upto_region 17 with fail
    go_cut [18, 19] from 109 to 114 (fun s18 s19 wx => (∃ v18 : Value, s18 = v18) ∧ s19 = .int .i64 470 ∧ Below wc2.heap.size wc2 wx)
    case first =>
      go_region_held3 (fun w' => w'.cell? ⟨b, 0, none⟩ = some (.slice s1.pA s1.pn s1.pc) ∧ w'.cell? ⟨b, 1, none⟩ = some (.slice s1.rA s1.rn s1.rc))
        (first | (refine ⟨cellB ?_ x0, cellB ?_ x1⟩ <;> (repeat (first | exact HB8.out | exact HB7.out | exact Below.refl _ _ | refine Below.drew ?_ | refine Below.alloc ?_ (by first | omega | (simp <;> omega) | simp) _ | refine Below.setCell ?_ (by first | omega | (simp <;> omega) | simp) _))))
        (first
          | (go_at_call 33; refine (HFact.out _).mono ?_; rintro e w7 ⟨rfl, hb7⟩; have hB7 : Below wc2.heap.size wc2 w7 := Below.trans (by repeat (first | exact Below.refl _ _ | refine Below.drew ?_ | refine Below.alloc ?_ (by simp) _)) (hb7.mono (by simp)); have HB7 := hidp hB7; have hz7 := hB7.size; have hz7b := hb7.size; (try (have g7 := (hb7.block wc2.heap.size (by simp)).trans (World.alloc_heap_new wc2 _); have HG7 := hidp g7; clear g7)); clear hb7 hB7)
          | (go_at_call 12; refine (HCall.out _ (by repeat (first | exact HB7.out | exact Below.refl _ _ | refine Below.drew ?_ | refine Below.alloc ?_ (by first | omega | (simp <;> omega) | simp) _))).mono ?_; rintro e w8 ⟨s2, rfl, hb8⟩; have hB8 : Below wc2.heap.size wc2 w8 := Below.trans (by repeat (first | exact HB7.out | exact Below.refl _ _ | refine Below.drew ?_ | refine Below.alloc ?_ (by first | omega | (simp <;> omega) | simp) _)) (hb8.mono (by first | omega | (simp <;> omega))); have HB8 := hidp hB8; have hz8 := hB8.size; (try (have g8 := (hb8.block wc2.heap.size (lt_of_heap HG7.out)).trans HG7.out; have HG8 := hidp g8; have g0 := cell_of_heap (o := 0) g8; have g1 := cell_of_heap (o := 1) g8; have g2 := frozen_of_heap (o := 0) g8; have g3 := frozen_of_heap (o := 1) g8; have g4 := lt_of_heap g8; clear g8)); (try (have g8 := (hb8.block w7.heap.size (by simp)).trans (World.alloc_heap_new w7 _); have HG8 := hidp g8; have g0 := cell_of_heap (o := 0) g8; have g1 := cell_of_heap (o := 1) g8; have g2 := frozen_of_heap (o := 0) g8; have g3 := frozen_of_heap (o := 1) g8; have g4 := lt_of_heap g8; clear g8)); clear hb8 hB8))
      · go_wp2_with fail
        go_meet
        exact ⟨⟨_, rfl⟩, rfl, HB8.out.alloc hz8 _⟩
      · go_wp2_with fail
        go_meet
        exact ⟨⟨_, rfl⟩, rfl, (HB8.out.setCell (p := ⟨w7.heap.size, 0, none⟩) hz7 _).setCell (p := ⟨w7.heap.size, 1, none⟩) hz7 _⟩
      · go_wp2_with fail
        go_meet
        exact ⟨⟨_, rfl⟩, rfl, (HB8.out.setCell (p := ⟨wc2.heap.size, 0, none⟩) (Nat.le_refl _) _).setCell (p := ⟨wc2.heap.size, 1, none⟩) (Nat.le_refl _) _⟩
    case rest =>
    obtain ⟨⟨v18, rfl⟩, rfl, hb9⟩ := hcut
    rename World => wz
    have HStz := hidp (HStc.out.later hb9)
    have hr6 : ((s1.rn : Int) == 6) = true := by rw [hrn6.out]; rfl
    clear x0 x1 x2 hb9
    have x0 := cell_of_heap (o := 0) HStz.out.box
    have x1 := cell_of_heap (o := 1) HStz.out.box
    have x2 := lt_of_heap HStz.out.box
    simp only [List.getElem?_toArray, List.getElem?_cons_zero, List.getElem?_cons_succ] at x0 x1
    go_wp2_with fail
    go_ret
    exact ⟨rfl, HStz.out.below⟩
end Go.Proofs.Ytpnfpdkoeednhaa

