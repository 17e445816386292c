/- Several texts in one: Clip ClipR J21 J22 JN A0 A1 A2. -/
import Derived.Test.YtbegdcjofnfkiaaGreatDoorQ3
import Derived.Test.YtbegdcjofnfkiaaGreatDoorQ5
import Derived.Test.YtbegdcjofnfkiaaGreatDoorQ2
import Derived.Test.YtbegdcjofnfkiaaGreatDoorQ7
import Derived.Test.YtbegdcjofnfkiaaGreatDoorQ6
import Derived.Test.YtbegdcjofnfkiaaGreatDoorQ14
import Derived.Test.YtbegdcjofnfkiaaGreatDoorJ17
import Derived.Test.YtbegdcjofnfkiaaGreatDoorQ1
import Derived.Recover
import Derived.Laws.Pointers
namespace Go.Proofs.YtbegdcjofnfkiaaGreatDoor
section
open Go.RowKit
theorem rows_cells {α : Type} {k : Nat} {enc : α → List Value} {w : World} {n₀ n c : Nat} {ad : Addr} {s : List α} (hk : ∀ x, (enc x).length = k) (h0 : 0 < k) (hs : Rows k (Rep.flat enc) w n₀ (some ad) n c s) : ∀ j u, (s.flatMap enc)[j]? = some u → w.cell? (ad.add j) = some u := by
 intro j u hj
 obtain ⟨x, hx, hu⟩ := flat_at hk h0 s j u hj
 have hm : 0 < n := by
  rw [hs.1]
  exact Nat.lt_of_le_of_lt (Nat.zero_le _) (List.getElem?_eq_some_iff.1 hx).1
 obtain ⟨b, off, he, _, hx'⟩ := hs.2.2.2 hm
 obtain ⟨cs, rfl, hc⟩ := hx' _ _ hx
 injection he with he
 subst he
 rw [addr_add]
 have := hc _ _ hu
 rwa [Nat.add_assoc, Nat.div_add_mod'] at this
theorem run_append_clip {α : Type} {k : Nat} {e : TypeId} {enc : α → List Value} {w : World} {P : Program} {t ty : TypeId} {i : TypeInfo} {z : Value} {bytes n₀ n₁ n m c c' : Nat} {A A' : Option Addr} {l s : List α} (ht : P.underlying t = some (.slice e)) (hi : P.info? e = some i) (hz : i.zero = some z) (hsize : i.size = k) (hby : i.bytes = bytes) (hzs : z.cells.size = k)
  (hk : ∀ x, (enc x).length = k) (h0 : 0 < k) (h1 : ∀ x, ∀ u ∈ enc x, u.oneCell' = true) (hl : Rows k (Rep.flat enc) w n₀ A n c l) (hs : Rows k (Rep.flat enc) w n₁ A' m c' s) (hm : 0 < m)
  (hn : (n + m) * bytes ≤ 140737488355328) (hnm : n + m ≤ 9223372036854775807) :
  ∃ v' w', (Builtin.append_ #[t, t] ty #[.slice A n n, .slice A' m c']).run P w = .ok v' w' ∧ w'.ownsRow w.heap.size e k v' (n + m) ((l ++ s).flatMap enc) ∧ Below w.heap.size w w' := by
 obtain ⟨b, off, rfl, _, _⟩ := hs.2.2.2 hm
 rcases A with _ | ad
 ·have hn0 : n = 0 := by
   rcases Nat.eq_zero_or_pos n with h | h
   ·exact h
   ·obtain ⟨_, _, he, _⟩ := hl.2.2.2 h
    cases he
  subst hn0
  have hl0 : l = [] := List.eq_nil_of_length_eq_zero hl.1.symm
  subst hl0
  obtain ⟨v', w', hrun, h2, h3, _, h5⟩ := run_append_own_at (P := P) w w.heap.size t ty e i z k bytes ht hi hz hsize hby hzs h0 (.slice none 0 0) 0 [] (World.ownsRow_nil _ _ _ _) ⟨b, off, none⟩ m c' (s.flatMap enc)
   (by rw [flat_len hk, hs.1]) (rows_cells hk h0 hs) (fun u hu => by obtain ⟨x, _, hx⟩ := List.mem_flatMap.1 hu; exact h1 x u hx) (by unfold maxLen; omega) hn (Nat.le_refl _)
  refine ⟨v', w', hrun, by simpa using h2, (Below.refl _ _).grown h3 (Nat.le_refl _) (fun q hq => by simp [Value.ownBlock] at hq)⟩
 ·subst hsize hby
  have hlen : (l.flatMap enc).length = n * i.size := by rw [flat_len hk, hl.1]
  have hlen' : (s.flatMap enc).length = m * i.size := by rw [flat_len hk, hs.1]
  have hr := run_append_grow (P := P) w t ty e i z ht hi hz ad n n (l.flatMap enc) hlen (rows_cells hk h0 hl) ⟨b, off, none⟩ m c' (s.flatMap enc) hlen' (rows_cells hk h0 hs) (by omega) (by omega) (growslice_fits (by omega) hn)
  have hge := grownCap_ge w (n + m) n e
  have hcm : grownCap w (n + m) n e ≤ maxLen := grownCap_le_maxLen w (n + m) n e (by unfold maxLen; omega)
  refine ⟨_, _, hr, ⟨by rw [flat_len hk, List.length_append, ← hl.1, ← hs.1], .inr ⟨w.heap.size, _, _, rfl, Nat.le_refl _, heap_alloc_new w.drew _, hge, hcm, ?_, ?_⟩⟩, ⟨rfl, rfl, rfl, by simp, fun q hq => heap_alloc_old w.drew _ q hq⟩⟩
  ·simp only [Array.size_append, List.size_toArray, size_zeroCells, hzs, hlen, hlen', ← Nat.add_mul]
   congr 1
   omega
  ·simp only [Array.toList_append, List.flatMap_append]
   have : (l.flatMap enc ++ s.flatMap enc).length = (n + m) * i.size := by rw [List.length_append, hlen, hlen', Nat.add_mul]
   rw [← this]
   exact List.take_left
end
section
open Go.RowKit
theorem run_append_none {P : Program} {w : World} {t ty e : TypeId} {i : TypeInfo} {A A' : Option Addr} {n c c' : Nat} (ht : P.underlying t = some (.slice e)) (hi : P.info? e = some i) (hA : A = none → n = 0) (hc : n ≤ c) :
  (Builtin.append_ #[t, t] ty #[.slice A n c, .slice A' 0 c']).run P w = .ok (.slice A n c) w := by
 have hld : ∀ a : Addr, (loadCells a 0).run P w = .ok #[] w := fun a => by simp [loadCells, loadCellsFrom]
 rcases A with _ | a
 ·obtain rfl := hA rfl
  cases A' <;> simp [Builtin.append_, run_underlying ht, sizeOf, typeInfo, hi, Builtin.lenOf, Builtin.firstCells, hc, hld]
 ·cases A' <;> simp [Builtin.append_, run_underlying ht, sizeOf, typeInfo, hi, Builtin.lenOf, Builtin.firstCells, storeCells, hc, hld]
theorem run_append_clipR {α : Type} {k : Nat} {e : TypeId} {enc : α → List Value} {w : World} {P : Program} {t ty : TypeId} {i : TypeInfo} {z : Value} {bytes n₀ n₁ n m c c' : Nat} {A A' : Option Addr} {l s : List α} (ht : P.underlying t = some (.slice e)) (hi : P.info? e = some i) (hz : i.zero = some z) (hsize : i.size = k) (hby : i.bytes = bytes) (hzs : z.cells.size = k)
  (hk : ∀ x, (enc x).length = k) (h0 : 0 < k) (h1 : ∀ x, ∀ u ∈ enc x, u.oneCell' = true) (hl : Rows k (Rep.flat enc) w n₀ A n c l) (hn₀ : n₀ ≤ w.heap.size) (hs : Rows k (Rep.flat enc) w n₁ A' m c' s)
  (hn : (n + m) * bytes ≤ 140737488355328) (hnm : n + m ≤ 9223372036854775807) :
  ∃ A2 c2 w', (Builtin.append_ #[t, t] ty #[.slice A n n, .slice A' m c']).run P w = .ok (.slice A2 (n + m) c2) w' ∧ Rows k (Rep.flat enc) w' w'.heap.size A2 (n + m) c2 (l ++ s) ∧ Below w.heap.size w w' := by
 rcases Nat.eq_zero_or_pos m with hm | hm
 ·subst hm
  have hs0 : s = [] := List.eq_nil_of_length_eq_zero hs.1.symm
  subst hs0
  refine ⟨A, n, w, run_append_none ht hi (fun hA => ?_) (Nat.le_refl _), ?_, Below.refl _ _⟩
  ·rcases Nat.eq_zero_or_pos n with h | h
   ·exact h
   ·obtain ⟨_, _, he, _⟩ := hl.2.2.2 h
    rw [hA] at he; cases he
  ·rw [List.append_nil]
   have := hl.keep (Rep.flat_stable enc) hn₀ (fun _ _ => rfl)
   exact ⟨this.1, Nat.le_refl _, by have := hl.2.1; have := hl.2.2.1; omega, this.2.2.2⟩
 ·obtain ⟨v', w', hrun, hown, hb⟩ := run_append_clip (P := P) (ty := ty) ht hi hz hsize hby hzs hk h0 h1 hl hs hm hn hnm
  obtain ⟨A2, c2, rfl, hr⟩ := own_rows hk h0 hown
  exact ⟨A2, c2, w', hrun, hr, hb⟩
end
section
open Go.RowKit Go.Shelf Go.Sort
def IPostJ (l : List Int) (w : World) (e : Ending) (w' : World) : Prop := ∃ A n c, e = .returned (.slice A n c) ∧ iSl w' w'.heap.size A n c l ∧ Below w.heap.size w w'
def LtUpJ (l : List Int) (k : Int) (q : Nat) : Prop := ∀ (i : Nat) (x : Int), i < q → l[i]? = some x → x < k
theorem LtUpJ.step {l : List Int} {k x : Int} {q : Nat} (h : LtUpJ l k q) (hx : l[q]? = some x) (hl : x < k) : LtUpJ l k (q + 1) := by
 intro i y hi hy
 rcases Nat.lt_or_ge i q with h1 | h1
 ·exact h i y h1 hy
 ·obtain rfl : i = q := by omega
  rw [hx] at hy; cases hy; exact hl
theorem withJ_neg {n : Int} (l : List Int) (h : n < 0) : withJ l n = l := by unfold withJ; rw [if_pos h]
theorem withJ_found {n : Int} {l : List Int} {q : Nat} (hu : LtUpJ l n q) (hx : l[q]? = some n) (hq : q ≤ l.length) : withJ l n = l := by
 unfold withJ
 split
 ·rfl
 ·rw [ins_at n l q (fun j y hj hy => by unfold ltJ; rw [decide_eq_true]; exact hu j y hj hy) (fun y hy => by rw [hx] at hy; cases hy; exact linJ.irr n) hq, if_pos hx]
theorem withJ_new {n : Int} {l : List Int} {q : Nat} (h0 : 0 ≤ n) (hu : LtUpJ l n q) (hy : ∀ y, l[q]? = some y → n < y) (hq : q ≤ l.length) : withJ l n = l.take q ++ ([n] ++ l.drop q) := by
 unfold withJ
 rw [if_neg (by omega), ins_at n l q (fun j y hj hy => by unfold ltJ; rw [decide_eq_true]; exact hu j y hj hy) (fun y h => by have := hy y h; unfold ltJ; rw [decide_eq_false]; omega) hq, if_neg]
 ·rfl
 ·intro h; have := hy n h; omega
set_option maxRecDepth 100000 in
set_option maxHeartbeats 4000000 in
theorem with_any (A : Option Addr) (m c : Nat) (l : List Int) (n : Int) (w : World) (hl : iSl w w.heap.size A m c l) (hm : m ≤ 1000000) :
  Calls Tryz.prog 31 #[.slice A m c, .int .i64 n] w (IPostJ (withJ l n) w) := by
 obtain ⟨i0, hi, hz, hs, hbb⟩ := info_parts iInfo
 have HN := hidp hl.1
 have hcap := hl.2.2.1
 have hlen := hl.2.1
 go_enter Tryz.func31, Tryz.ntmps31
 go_wp2_with fail
 go_loopw [5] (fun j wr => ∃ q : Nat, q ≤ m ∧ j = .int .i64 q ∧ LtUpJ l n q ∧ w = wr) (fun j _ => m - (intOf j).toNat)
 case atStart => exact ⟨0, by omega, rfl, fun i y h => by omega, rfl⟩
 case round =>
  obtain ⟨q, hq, rfl, hup, rfl⟩ := hrel
  have HU := hidp hup
  clear hup
  by_cases hqm : q < m
  ·obtain ⟨b, off, y, rfl, hb, hzy, c0⟩ := iSl.get hl hqm
   have HY := hidp hzy
   have hl2 := lt_of_cell c0
   have hqm' : (q : Int) < m := by omega
   clear hzy
   by_cases hyn : y < n
   ·go_wp2_with fail
    go_roundw
    case rel => exact ⟨q + 1, by omega, by go_num, HU.out.step HY.out hyn, trivial⟩
    case measure => simp [intOf]; omega
   ·have hyn' : n ≤ y := by omega
    clear hyn
    by_cases h0 : n < 0
    ·have HW : Hid (withJ l n = l) := withJ_neg l h0
     go_wp2_with fail
     go_ret
     exact ⟨_, m, c, rfl, by rw [HW.out]; exact hl, Below.refl _ _⟩
    ·have h0' : 0 ≤ n := by omega
     clear h0
     by_cases he : y = n
     ·have HW : Hid (withJ l n = l) := withJ_found HU.out (by rw [HY.out, he]) (by rw [← HN.out]; omega)
      have heq : (y == n) = true := by simp [he]
      have HE := hidp he
      clear he
      go_wp2_with fail
      go_ret
      exact ⟨_, m, c, rfl, by rw [HW.out]; exact hl, Below.refl _ _⟩
     ·have heq : (y == n) = false := by simp [he]
      have HW : Hid (withJ l n = l.take q ++ ([n] ++ l.drop q)) := withJ_new h0' HU.out (fun z hz => by rw [HY.out] at hz; cases hz; omega) (by rw [← HN.out]; omega)
      clear he
      have hcut := fun W => run_cut_low (P := Tryz.prog) W Tryz.underlying23 hi (some (⟨b, off, none⟩ : Addr)) m c q .i64 (q : Int) rfl hq
      rw [hs] at hcut
      have hqc : q ≤ c := by omega
      have hrc := hl.cut (m := q) hq
      have hrt := hl.take (m := q) hq
      generalize cutA (some (⟨b, off, none⟩ : Addr)) c q 1 = A2 at hcut hrc
      obtain ⟨W1, hW1⟩ : ∃ W1, w.alloc (.cells #[.int .i64 n] 3) = W1 := ⟨_, rfl⟩
      have hb1 : Below w.heap.size w W1 := by rw [← hW1]; exact (Below.refl _ _).alloc (Nat.le_refl _) _
      have h1 : W1.heap[w.heap.size]? = some (.cells #[.int .i64 n] 3 (0, 0)) := by rw [← hW1]; exact World.alloc_heap_new _ _
      have r5 : iSl W1 W1.heap.size (some ⟨w.heap.size, 0, none⟩) 1 1 [n] := rows_of_heap (l := [n]) iEnc_len h1 (Nat.le_refl _) (by decide) rfl
      obtain ⟨A6, c6, w6, hrun6, r6, hb6⟩ := run_append_clipR (P := Tryz.prog) (ty := 23) Tryz.underlying23 hi hz hs hbb rfl iEnc_len (by decide) iEnc_one r5 (Nat.le_refl _) (hrc.keep (Rep.flat_stable _) hb1.size hb1.block) (by omega) (by omega)
      have hn6 : 1 + (m - q) ≤ 1000001 := by omega
      obtain ⟨A8, c8, w8, hrun8, r8, hb8⟩ := run_append_clipR (P := Tryz.prog) (ty := 23) Tryz.underlying23 hi hz hs hbb rfl iEnc_len (by decide) iEnc_one ((hrt.keep (Rep.flat_stable _) hb1.size hb1.block).keep (Rep.flat_stable _) hb6.size hb6.block) (Nat.le_refl _) r6 (by omega) (by omega)
      have HR6 := hidp hrun6
      have HR8 := hidp hrun8
      have HO8 := hidp r8
      have HB8 := hidp (hb1.trans ((hb6.mono hb1.size).trans (hb8.mono (Nat.le_trans hb1.size hb6.size))))
      have hcl6 := r6.2.2.1
      have hcn6 := r6.2.1
      have HW1 := hidp hW1
      clear hrun6 hrun8 r8 r6 r5 h1 hb1 hrc hrt hW1
      go_wp2_with (at_builtin; (try rw [HW1.out]); first | refine wpList_append_known rfl (.tmp 39) (.tmp 42) 23 rfl rfl rfl HR6.out ?_ | refine wpList_append_known rfl (.tmp 47) (.tmp 48) 23 rfl rfl rfl HR8.out ?_)
      go_ret
      exact ⟨A8, _, c8, rfl, by rw [HW.out]; exact HO8.out, HB8.out⟩
  ·obtain rfl : q = m := by omega
   have hkk : ¬ ((q : Int) < q) := by omega
   by_cases h0 : n < 0
   ·have HW : Hid (withJ l n = l) := withJ_neg l h0
    go_wp2_with fail
    go_ret
    exact ⟨_, q, c, rfl, by rw [HW.out]; exact hl, Below.refl _ _⟩
   ·have h0' : 0 ≤ n := by omega
    clear h0
    have HW : Hid (withJ l n = l.take q ++ ([n] ++ l.drop q)) := withJ_new h0' HU.out (fun z hz => by rw [List.getElem?_eq_none (by rw [← HN.out]; omega)] at hz; cases hz) (by rw [← HN.out]; omega)
    have hcut := fun W => run_cut_low (P := Tryz.prog) W Tryz.underlying23 hi A q c q .i64 (q : Int) rfl hq
    rw [hs] at hcut
    have hqc : q ≤ c := by omega
    have hrc := hl.cut (m := q) hq
    have hrt := hl.take (m := q) hq
    simp only [Nat.sub_self] at hcut hrc
    generalize cutA A c q 1 = A2 at hcut hrc
    obtain ⟨W1, hW1⟩ : ∃ W1, w.alloc (.cells #[.int .i64 n] 3) = W1 := ⟨_, rfl⟩
    have hb1 : Below w.heap.size w W1 := by rw [← hW1]; exact (Below.refl _ _).alloc (Nat.le_refl _) _
    have h1 : W1.heap[w.heap.size]? = some (.cells #[.int .i64 n] 3 (0, 0)) := by rw [← hW1]; exact World.alloc_heap_new _ _
    have r5 : iSl W1 W1.heap.size (some ⟨w.heap.size, 0, none⟩) 1 1 [n] := rows_of_heap (l := [n]) iEnc_len h1 (Nat.le_refl _) (by decide) rfl
    obtain ⟨A6, c6, w6, hrun6, r6, hb6⟩ := run_append_clipR (P := Tryz.prog) (ty := 23) Tryz.underlying23 hi hz hs hbb rfl iEnc_len (by decide) iEnc_one r5 (Nat.le_refl _) (hrc.keep (Rep.flat_stable _) hb1.size hb1.block) (by omega) (by omega)
    simp only [Nat.add_zero] at hrun6 r6
    obtain ⟨A8, c8, w8, hrun8, r8, hb8⟩ := run_append_clipR (P := Tryz.prog) (ty := 23) Tryz.underlying23 hi hz hs hbb rfl iEnc_len (by decide) iEnc_one ((hrt.keep (Rep.flat_stable _) hb1.size hb1.block).keep (Rep.flat_stable _) hb6.size hb6.block) (Nat.le_refl _) r6 (by omega) (by omega)
    have HR6 := hidp hrun6
    have HR8 := hidp hrun8
    have HO8 := hidp r8
    have HB8 := hidp (hb1.trans ((hb6.mono hb1.size).trans (hb8.mono (Nat.le_trans hb1.size hb6.size))))
    have hcl6 := r6.2.2.1
    have hcn6 := r6.2.1
    have HW1 := hidp hW1
    clear hrun6 hrun8 r8 r6 r5 h1 hb1 hrc hrt hW1
    go_wp2_with (at_builtin; (try rw [HW1.out]); first | refine wpList_append_known rfl (.tmp 39) (.tmp 42) 23 rfl rfl rfl HR6.out ?_ | refine wpList_append_known rfl (.tmp 47) (.tmp 48) 23 rfl rfl rfl HR8.out ?_)
    go_ret
    exact ⟨A8, _, c8, rfl, by rw [HW.out]; exact HO8.out, HB8.out⟩
theorem domW_len : ∀ (l : List Fc) (s : List Int), (l.foldl domW s).length ≤ s.length + 3 * l.length := by
  have hw : ∀ (s : List Int) (n : Int), (withJ s n).length ≤ s.length + 1 := by
    intro s n; unfold withJ; split
    · omega
    · exact ins_len _ _
  intro l
  induction l with
  | nil => intro s; simp
  | cons f l ih =>
    intro s
    have h1 := ih (domW s f)
    have h2 := hw s f.key.subj
    have h3 := hw (withJ s f.key.subj) f.key.obj
    have h4 := hw (withJ (withJ s f.key.subj) f.key.obj) f.val
    rw [List.foldl_cons, List.length_cons]
    unfold domW at h1 ⊢
    omega
theorem domR_step {l : List Fc} {k : Nat} {f : Fc} (h : l[k]? = some f) : domR (l.take (k + 1)) = withJ (withJ (withJ (domR (l.take k)) f.key.subj) f.key.obj) f.val := by
 rw [take_snoc h]; unfold domR; rw [List.foldl_append]; rfl
set_option maxRecDepth 100000 in
set_option maxHeartbeats 4000000 in
theorem rDomain_any (A : Option Addr) (n c : Nat) (l : List Fc) (w : World) (hl : fSl w w.heap.size A n c l) (hn : n ≤ 100000) :
  Calls Tryz.prog 12 #[.slice A n c] w (IPostJ (domR l) w) := by
 have HL := hidp hl
 have hnc := hl.2.1
 have hcc := hl.2.2.1
 have HN := hidp hl.1
 clear hl
 go_enter Tryz.func12, Tryz.ntmps12
 go_wp2_with fail
 go_loopw [3, 4] (fun v i wr => ∃ (k m cc : Nat) (B : Option Addr), k ≤ n ∧ i = .int .i64 k ∧ v = .slice B m cc ∧ iSl wr wr.heap.size B m cc (domR (l.take k)) ∧ Below w.heap.size w wr) (fun _ i _ => n - (intOf i).toNat)
 case atStart => exact ⟨0, 0, 0, _, by omega, rfl, rfl, ⟨rfl, Nat.le_refl _, by decide, fun h => by simp at h⟩, by first | exact Below.refl _ _ | exact (Below.refl _ _).alloc (Nat.le_refl _) _⟩
 case round =>
  obtain ⟨k, m, cc, B, hk, rfl, rfl, hr, hbe⟩ := hrel
  have hmm : m ≤ 300000 := by
   have h1 := domW_len (l.take k) []
   have h2 : (l.take k).length ≤ k := List.length_take_le _ _
   have h3 := hr.1
   unfold domR at h3
   rw [h3]
   simp only [List.length_nil] at h1
   omega
  have hmc := hr.2.1
  have hcm := hr.2.2.1
  have HR := hidp hr
  have HB := hidp hbe
  clear hr hbe
  by_cases hkn : k < n
  ·have hkn' : (k : Int) < n := by omega
   obtain ⟨b, off, f, rfl, hb, hf, c0, c1, c2, c3, c4, c5, c6, c7⟩ := fSl.get (HL.out.keep (Rep.flat_stable _) HB.out.size HB.out.block) hkn
   have lb := lt_of_cell c0
   have HF := hidp hf
   clear hf
   go_wp2_with fail
   refine (with_any _ _ _ _ f.key.subj _ HR.out (by omega)).mono ?_
   rintro e w5 ⟨A5, n5, c5', rfl, r5, hb5⟩
   have hz5 := hb5.size
   have hn5 : n5 ≤ 300001 := by
    have h1 := r5.1
    have h2 : (withJ (domR (l.take k)) f.key.subj).length ≤ (domR (l.take k)).length + 1 := by unfold withJ; split; omega; exact ins_len _ _
    have h3 := HR.out.1
    omega
   have d0 := (bcell hb5).1 _ (off + k * 8) lb |>.trans c0
   have d2 := (bcell hb5).1 _ (off + k * 8 + 2) lb |>.trans c2
   have d3 := (bcell hb5).1 _ (off + k * 8 + 3) lb |>.trans c3
   have R5 := hidp r5
   have HB5 := hidp (HB.out.trans (hb5.mono HB.out.size))
   clear c0 c1 c2 c3 c4 c5 c6 c7 lb r5 hb5 hz5
   have lb := lt_of_cell d0
   go_wp2_with fail
   refine (with_any _ _ _ _ f.key.obj _ R5.out (by omega)).mono ?_
   rintro e w6 ⟨A6, n6, c6', rfl, r6, hb6⟩
   have hn6 : n6 ≤ 300002 := by
    have h1 := r6.1
    have h2 : (withJ (withJ (domR (l.take k)) f.key.subj) f.key.obj).length ≤ (withJ (domR (l.take k)) f.key.subj).length + 1 := by
     generalize withJ (domR (l.take k)) f.key.subj = s
     unfold withJ; split; omega; exact ins_len _ _
    have h3 := R5.out.1
    omega
   have e3 := (bcell hb6).1 _ (off + k * 8 + 3) lb |>.trans d3
   have R6 := hidp r6
   have HB6 := hidp (HB5.out.trans (hb6.mono HB5.out.size))
   clear d0 d2 d3 lb r6 hb6
   have lb := lt_of_cell e3
   go_wp2_with fail
   refine (with_any _ _ _ _ f.val _ R6.out (by omega)).mono ?_
   rintro e w7 ⟨A7, n7, c7', rfl, r7, hb7⟩
   have R7 := hidp r7
   have HB7 := hidp (HB6.out.trans (hb7.mono HB6.out.size))
   clear e3 lb r7 hb7
   go_wp2_with fail
   go_roundw
   case rel => exact ⟨k + 1, n7, c7', A7, by omega, by go_num, rfl, by rw [domR_step HF.out]; exact R7.out, HB7.out⟩
   case measure => simp [intOf]; omega
  ·obtain rfl : k = n := by omega
   have hkk : ¬ ((k : Int) < k) := by omega
   have HT : Hid (l.take k = l) := List.take_of_length_le (by rw [← HN.out]; omega)
   go_wp2_with fail
   go_ret
   exact ⟨B, m, cc, rfl, by have := HR.out; rw [HT.out] at this; exact this, HB.out⟩
end
section
open Go.RowKit Go.Shelf Go.Sort
def fewJ (q : Qu) (l : List Fc) : Bool := decide (l.length ≤ 10) && decide (q.names.length ≤ 4) && decide (q.shows.length ≤ 8) && decide (q.atoms.length ≤ 6) && decide (q.tests.length ≤ 6) && decide ((domR l).length ^ q.names.length ≤ 4096)
theorem domR_len (l : List Fc) : (domR l).length ≤ 3 * l.length := by
 have := domW_len l []
 simpa [domR] using this
theorem pow_le30 {d k : Nat} (hd : d ≤ 30) (hk : k ≤ 4) : d ^ k ≤ 810000 := by
 have h1 : d ^ k ≤ 30 ^ k := Nat.pow_le_pow_left hd k
 have h2 : (30 : Nat) ^ k ≤ 30 ^ 4 := Nat.pow_le_pow_right (by omega) hk
 have h3 : (30 : Nat) ^ 4 = 810000 := by decide
 omega
set_option maxRecDepth 100000 in
set_option maxHeartbeats 4000000 in
theorem few_any (q : Qu) (FA : Option Addr) (fn fc : Nat) (l : List Fc) (w : World) (hq : QuIn q w w.heap.size) (hl : fSl w w.heap.size FA fn fc l) :
  Calls Tryz.prog 7 #[.agg #[.slice q.nA q.nn q.nc, .slice q.sA q.sn q.sc, .slice q.aA q.an q.ac, .slice q.tA q.tn q.tc], .slice FA fn fc] w fun e w' => e = .returned (.bool (fewJ q l)) ∧ Below w.heap.size w w' := by
 have HFa : Hid (∀ W, Below w.heap.size w W → fSl W W.heap.size FA fn fc l) := fun W h => hl.keep (Rep.flat_stable _) h.size h.block
 have HN := hidp hl.1
 have HLen : Hid (q.nn = q.names.length ∧ q.sn = q.shows.length ∧ q.an = q.atoms.length ∧ q.tn = q.tests.length) := ⟨hq.1.1, hq.2.1.1, hq.2.2.1.1, hq.2.2.2.1⟩
 obtain ⟨W0, hW0⟩ : ∃ W0, w.alloc (.cells #[.slice q.nA q.nn q.nc, .slice q.sA q.sn q.sc, .slice q.aA q.an q.ac, .slice q.tA q.tn q.tc] 27) = W0 := ⟨_, rfl⟩
 have hBW : Below w.heap.size w W0 := hW0 ▸ (Below.refl _ w).alloc (Nat.le_refl _) _
 have hb0 : QBox q w.heap.size W0 := ⟨hW0 ▸ World.alloc_heap_new _ _⟩
 have HBW := hidp hBW
 have HB0 := hidp hb0
 have HW0 := hidp hW0
 obtain ⟨x0, x1, x2, x3, l0⟩ := hb0.cells
 have hno : ∀ b : Bool, b = false → fewJ q l = b → Ending.returned (.bool b) = Ending.returned (.bool (fewJ q l)) := fun b _ h => by rw [h]
 have HNo := hidp hno
 clear hBW hb0 hq hl hno hW0
 go_enter Tryz.func7, Tryz.ntmps7
 by_cases h1 : 10 < fn
 ·have HF : Hid (fewJ q l = false) := by
   have := HN.out
   show _ = _
   unfold fewJ
   rw [decide_eq_false (p := l.length ≤ 10) (by omega)]; rfl
  have i1 : (10 : Int) < fn := by omega
  go_wp2_with fail
  rw [HW0.out]
  go_wp2_with fail
  go_ret
  exact ⟨ret_bool HF.out.symm, HBW.out⟩
 have i1 : ¬ ((10 : Int) < fn) := by omega
 by_cases h2 : 4 < q.nn
 ·have HF : Hid (fewJ q l = false) := by
   have := HLen.out.1
   show _ = _
   unfold fewJ
   rw [decide_eq_false (p := q.names.length ≤ 4) (by omega)]; simp
  have i2 : (4 : Int) < q.nn := by omega
  go_wp2_with fail
  rw [HW0.out]
  go_wp2_with fail
  go_ret
  exact ⟨ret_bool HF.out.symm, HBW.out⟩
 have i2 : ¬ ((4 : Int) < q.nn) := by omega
 by_cases h3 : 8 < q.sn
 ·have HF : Hid (fewJ q l = false) := by
   have := HLen.out.2.1
   show _ = _
   unfold fewJ
   rw [decide_eq_false (p := q.shows.length ≤ 8) (by omega)]; simp
  have i3 : (8 : Int) < q.sn := by omega
  go_wp2_with fail
  rw [HW0.out]
  go_wp2_with fail
  go_ret
  exact ⟨ret_bool HF.out.symm, HBW.out⟩
 have i3 : ¬ ((8 : Int) < q.sn) := by omega
 by_cases h4 : 6 < q.an
 ·have HF : Hid (fewJ q l = false) := by
   have := HLen.out.2.2.1
   show _ = _
   unfold fewJ
   rw [decide_eq_false (p := q.atoms.length ≤ 6) (by omega)]; simp
  have i4 : (6 : Int) < q.an := by omega
  go_wp2_with fail
  rw [HW0.out]
  go_wp2_with fail
  go_ret
  exact ⟨ret_bool HF.out.symm, HBW.out⟩
 have i4 : ¬ ((6 : Int) < q.an) := by omega
 by_cases h5 : 6 < q.tn
 ·have HF : Hid (fewJ q l = false) := by
   have := HLen.out.2.2.2
   show _ = _
   unfold fewJ
   rw [decide_eq_false (p := q.tests.length ≤ 6) (by omega)]; simp
  have i5 : (6 : Int) < q.tn := by omega
  go_wp2_with fail
  rw [HW0.out]
  go_wp2_with fail
  go_ret
  exact ⟨ret_bool HF.out.symm, HBW.out⟩
 have i5 : ¬ ((6 : Int) < q.tn) := by omega
 have hD : (domR l).length ≤ 30 := by have := domR_len l; have := HN.out; omega
 obtain ⟨d, hd⟩ : ∃ d, (domR l).length = d := ⟨_, rfl⟩
 rw [hd] at hD
 have HD := hidp hd
 have HFew : Hid (fewJ q l = decide ((d : Int) ^ q.nn ≤ 4096)) := by
  show _ = _
  obtain ⟨e1, e2, e3, e4⟩ := HLen.out
  have e0 := HN.out
  unfold fewJ
  rw [decide_eq_true (p := l.length ≤ 10) (by omega), decide_eq_true (p := q.names.length ≤ 4) (by omega), decide_eq_true (p := q.shows.length ≤ 8) (by omega), decide_eq_true (p := q.atoms.length ≤ 6) (by omega), decide_eq_true (p := q.tests.length ≤ 6) (by omega), hd, ← e1]
  rw [Bool.eq_iff_iff]
  simp only [Bool.true_and, decide_eq_true_eq]
  rw [← Int.natCast_pow]
  omega
 clear hd
 go_wp2_with fail
 rw [HW0.out]
 clear x0 x1 x2 x3 l0
 go_wp2_with fail
 go_loopw [5, 6] (fun z i wr => ∃ k zz : Nat, k ≤ q.nn ∧ i = .int .i64 k ∧ z = .int .i64 zz ∧ zz = d ^ k ∧ QBox q w.heap.size wr ∧ Below w.heap.size w wr) (fun _ i _ => q.nn - (intOf i).toNat)
 case atStart => exact ⟨0, 1, by omega, rfl, rfl, by simp, HB0.out, HBW.out⟩
 case round =>
  obtain ⟨k, zz, hk, rfl, rfl, hzz, hqb, hbe⟩ := hrel
  have hzb : zz ≤ 810000 := by rw [hzz]; exact pow_le30 hD (by omega)
  have HZ := hidp hzz
  have HQB := hidp hqb
  have HBe := hidp hbe
  obtain ⟨x0, x1, x2, x3, l0⟩ := hqb.cells
  clear hzz hqb hbe
  by_cases hlt : k < q.nn
  ·have hkn : (k : Int) < q.nn := by omega
   go_wp2_with fail
   refine (rDomain_any FA fn fc l _ (HFa.out _ HBe.out) (by omega)).mono ?_
   rintro e w5 ⟨A5, n5, c5, rfl, r5, hb5⟩
   obtain rfl : n5 = d := by have h := r5.1; have h2 := HD.out; omega
   have hq5 := HQB.out.later hb5
   have HQ5 := hidp hq5
   have HB5 := hidp (HBe.out.trans (hb5.mono HBe.out.size))
   have hmul : IntKind.i64.wrap ((zz : Int) * n5) = ((zz * n5 : Nat) : Int) := by
    have h1 : zz * n5 ≤ 810000 * 30 := Nat.mul_le_mul hzb hD
    rw [← Int.natCast_mul]
    exact IntWalk.i64_in _ (by omega)
   have hp : zz * n5 = n5 ^ (k + 1) := by rw [HZ.out, Nat.pow_succ]
   obtain ⟨z2, hz2⟩ : ∃ z2, zz * n5 = z2 := ⟨_, rfl⟩
   rw [hz2] at hmul hp
   have HP := hidp hp
   clear hz2 hp hq5 hb5 r5 x0 x1 x2 x3 l0
   go_wp2_with fail
   go_roundw
   case rel => exact ⟨k + 1, z2, by omega, by go_num, rfl, HP.out, HQ5.out, HB5.out⟩
   case measure => simp [intOf]; omega
  ·obtain rfl : k = q.nn := by omega
   go_wp2_with fail
   go_ret
   refine ⟨ret_bool ?_, HBe.out⟩
   rw [HFew.out, HZ.out, Int.natCast_pow]
end
section
open Go.RowKit Go.Shelf Go.Sort
theorem few_ful {q y : Qu} {l : List Fc} (hp : (domR l).length ^ q.names.length ≤ 4096) (hn : y.names.length = q.names.length) : (fulJ y l).length ≤ 65535 := by
 have h1 := fulF_len l (domR l) (cndsJ y) y.names.length []
 rw [hn] at h1
 unfold fulJ
 rw [hn]
 omega
end
section
open Go.RowKit
structure Pv where
 (facts : List Fc)
 (kids : List Int)
instance : DecidableEq Pv := fun a b => decidable_of_iff (a.facts = b.facts ∧ a.kids = b.kids) ⟨fun ⟨h1, h2⟩ => by cases a; cases b; simp_all, fun h => by subst h; exact ⟨rfl, rfl⟩⟩
instance : Inhabited Pv := ⟨⟨[], []⟩⟩
def ltP (a b : Fc) : Bool := a.key.lt b.key || (decide (a.key = b.key) && a.bef b)
def cmpP (a b : Fc) : Int := orI [cmpI a.key.kind b.key.kind, cmpI a.key.subj b.key.subj, cmpI a.key.obj b.key.obj, cmpI a.known b.known, cmpI a.no b.no]
theorem keyP_eq (a b : Fc) : a.key = b.key ↔ a.key.kind = b.key.kind ∧ a.key.subj = b.key.subj ∧ a.key.obj = b.key.obj :=
 ⟨fun h => by rw [h]; exact ⟨rfl, rfl, rfl⟩, fun ⟨h1, h2, h3⟩ => Ky.ext' h1 h2 h3⟩
theorem ltP_iff (a b : Fc) : ltP a b = true ↔ a.key.kind < b.key.kind ∨ (a.key.kind = b.key.kind ∧ (a.key.subj < b.key.subj ∨ (a.key.subj = b.key.subj ∧ (a.key.obj < b.key.obj ∨ (a.key.obj = b.key.obj ∧ (a.known < b.known ∨ (a.known = b.known ∧ a.no < b.no))))))) := by
 unfold ltP Ky.lt Fc.bef
 simp only [Bool.or_eq_true, Bool.and_eq_true, decide_eq_true_eq, keyP_eq]
 omega
theorem cmpP_cases (a b : Fc) : (cmpP a b = -1 ∧ ltP a b = true) ∨ (cmpP a b = 0 ∧ ltP a b = false ∧ ltP b a = false) ∨ (cmpP a b = 1 ∧ ltP b a = true) := by
 have ha := ltP_iff a b
 have hb := ltP_iff b a
 unfold cmpP
 rw [orI_cons, orI_cons, orI_cons, orI_cons, orI_cons, orI_nil]
 have fa : ∀ {x : Bool}, x = false ↔ ¬ x = true := fun {x} => by cases x <;> simp
 rw [fa, fa]
 rcases cmpI_cases a.key.kind b.key.kind with ⟨h1, e1⟩ | ⟨h1, e1⟩ | ⟨h1, e1⟩ <;> rw [e1] <;> simp <;> try (first | exact .inl (ha.2 (by omega)) | exact hb.2 (by omega) | exact ha.2 (by omega))
 rcases cmpI_cases a.key.subj b.key.subj with ⟨h2, e2⟩ | ⟨h2, e2⟩ | ⟨h2, e2⟩ <;> rw [e2] <;> simp <;> try (first | exact .inl (ha.2 (by omega)) | exact hb.2 (by omega) | exact ha.2 (by omega))
 rcases cmpI_cases a.key.obj b.key.obj with ⟨h3, e3⟩ | ⟨h3, e3⟩ | ⟨h3, e3⟩ <;> rw [e3] <;> simp <;> try (first | exact .inl (ha.2 (by omega)) | exact hb.2 (by omega) | exact ha.2 (by omega))
 rcases cmpI_cases a.known b.known with ⟨h4, e4⟩ | ⟨h4, e4⟩ | ⟨h4, e4⟩ <;> rw [e4] <;> simp <;> try (first | exact .inl (ha.2 (by omega)) | exact hb.2 (by omega) | exact ha.2 (by omega))
 rcases cmpI_cases a.no b.no with ⟨h5, e5⟩ | ⟨h5, e5⟩ | ⟨h5, e5⟩ <;> rw [e5] <;> simp <;> try (first | exact .inl (ha.2 (by omega)) | exact hb.2 (by omega) | exact ha.2 (by omega))
 have h1' : ¬ ltP a b = true := fun h => by have := ha.1 h; omega
 have h2' : ¬ ltP b a = true := fun h => by have := hb.1 h; omega
 simp at h1' h2'
 exact ⟨h1', h2'⟩
theorem ltP_irr (a : Fc) : ltP a a = false := by
 rw [Bool.eq_false_iff]; intro h; have := (ltP_iff a a).1 h; omega
theorem ltP_tr (a b c : Fc) (h1 : ltP a b = true) (h2 : ltP b c = true) : ltP a c = true := by
 have h1 := (ltP_iff a b).1 h1
 have h2 := (ltP_iff b c).1 h2
 exact (ltP_iff a c).2 (by omega)
theorem cmpP_neg {a b : Fc} : decide (cmpP a b < 0) = ltP a b := by
 rcases cmpP_cases a b with ⟨h1, h2⟩ | ⟨h1, h2, _⟩ | ⟨h1, h2⟩
 ·rw [h1, h2]; rfl
 ·rw [h1, h2]; rfl
 ·rw [h1]
  have : ltP a b = false := by
   rw [Bool.eq_false_iff]; intro h
   have := ltP_tr _ _ _ h h2
   rw [ltP_irr] at this; cases this
  rw [this]; rfl
def lastLt : Option Fc → Fc → Bool
 | none, _ => true
 | some a, f => ltP a f
def nextOk (last : Option Fc) (f : Fc) : Bool := f.ok && lastLt last f
def pgOk (root : Bool) (g : Pv) : Bool := decide (g.facts.length ≤ 4) && (root || decide (2 ≤ g.facts.length)) && (decide (g.kids.length = 0) || (decide (g.kids.length = g.facts.length + 1) && decide (1 ≤ g.facts.length)))
def subW (sub : Int → List Fc → Option (List Fc × Nat)) (g : Pv) (i : Nat) (s : List Fc × Nat) : Option (List Fc × Nat) :=
 if g.kids.length = 0 then some s else (sub (g.kids.getD i 0) s.1).bind fun r => if i = 0 ∨ r.2 = s.2 then some r else none
def factW (g : Pv) (i : Nat) (s : List Fc × Nat) : Option (List Fc × Nat) :=
 match g.facts[i]? with
 | none => some s
 | some f => if nextOk s.1.getLast? f = true then some (s.1 ++ [f], s.2) else none
def stepW (sub : Int → List Fc → Option (List Fc × Nat)) (g : Pv) (s : Option (List Fc × Nat)) (i : Nat) : Option (List Fc × Nat) := s.bind fun s => (subW sub g i s).bind (factW g i)
def loopW (sub : Int → List Fc → Option (List Fc × Nat)) (g : Pv) (l : List Fc) (n : Nat) : Option (List Fc × Nat) := (List.range n).foldl (stepW sub g) (some (l, 0))
theorem loopW_zero (sub : Int → List Fc → Option (List Fc × Nat)) (g : Pv) (l : List Fc) : loopW sub g l 0 = some (l, 0) := rfl
theorem loopW_succ (sub : Int → List Fc → Option (List Fc × Nat)) (g : Pv) (l : List Fc) (n : Nat) : loopW sub g l (n + 1) = stepW sub g (loopW sub g l n) n := by
 unfold loopW; rw [List.range_succ, List.foldl_append]; rfl
theorem loopW_none {sub : Int → List Fc → Option (List Fc × Nat)} {g : Pv} {l : List Fc} {n : Nat} (h : loopW sub g l n = none) : ∀ m, n ≤ m → loopW sub g l m = none := by
  intro m hm
  induction m with
  | zero => obtain rfl : n = 0 := by omega
            exact h
  | succ m ih =>
    rcases Nat.lt_or_ge m n with h1 | h1
    · obtain rfl : n = m + 1 := by omega
      exact h
    · rw [loopW_succ, ih h1]; rfl
def walkW (ps : List Pv) : Nat → Nat → Bool → List Fc → Option (List Fc × Nat)
  | 0, _, _, _ => none
  | n + 1, p, root, l =>
    match ps[p]? with
    | none => none
    | some g => if pgOk root g = true then (loopW (fun kid m => if 0 ≤ kid ∧ kid < p then walkW ps n kid.toNat false m else none) g l (g.facts.length + 1)).map fun s => (s.1, s.2 + 1) else none
theorem loopW_congr {sub sub' : Int → List Fc → Option (List Fc × Nat)} (h : ∀ k m, sub k m = sub' k m) (g : Pv) (l : List Fc) (n : Nat) : loopW sub g l n = loopW sub' g l n := by
 have : sub = sub' := by funext k m; exact h k m
 rw [this]
theorem walkW_fuel (ps : List Pv) : ∀ (n m p : Nat) (root : Bool) (l : List Fc), p < n → p < m → walkW ps n p root l = walkW ps m p root l
  | 0, _, _, _, _, h, _ => by omega
  | _ + 1, 0, _, _, _, _, h => by omega
  | n + 1, m + 1, p, root, l, _, _ => by
    unfold walkW
    split
    · rfl
    · rename_i g _
      split
      · rw [loopW_congr (fun kid l' => ?_) g l (g.facts.length + 1)]
        split
        · rename_i hk
          exact walkW_fuel ps n m kid.toNat false l' (by omega) (by omega)
        · rfl
      · rfl
def walkP (ps : List Pv) (p : Nat) (root : Bool) (l : List Fc) : Option (List Fc × Nat) := walkW ps (p + 1) p root l
def kidW (ps : List Pv) (p : Nat) (kid : Int) (l : List Fc) : Option (List Fc × Nat) := if 0 ≤ kid ∧ kid < p then walkP ps kid.toNat false l else none
theorem walkP_eq {ps : List Pv} {p : Nat} {g : Pv} (hg : ps[p]? = some g) (root : Bool) (l : List Fc) :
  walkP ps p root l = if pgOk root g = true then (loopW (kidW ps p) g l (g.facts.length + 1)).map fun s => (s.1, s.2 + 1) else none := by
 unfold walkP walkW
 rw [hg]
 dsimp only
 split
 ·rw [loopW_congr (fun kid l' => ?_) g l (g.facts.length + 1)]
  unfold kidW
  split
  ·rename_i hk
   exact walkW_fuel ps p (kid.toNat + 1) kid.toNat false l' (by omega) (by omega)
  ·rfl
 ·rfl
theorem walkP_no {ps : List Pv} {p : Nat} (h : ps[p]? = none) (root : Bool) (l : List Fc) : walkP ps p root l = none := by
 unfold walkP walkW; rw [h]
def rootP (ps : List Pv) (r : Int) : Bool := decide (0 ≤ r) && decide (r < ps.length) && (walkP ps r.toNat true []).isSome
def checkP (ps : List Pv) (roots : List Int) : Bool := decide (0 < roots.length) && roots.all (rootP ps)
def placeP (l : List Fc) (f : Fc) : Nat := (l.takeWhile fun x => ltP x f).length
def insAt {α : Type} (l : List α) (k : Nat) (a : α) : List α := l.take k ++ a :: l.drop k
def splitP (ps : List Pv) (g : Pv) : List Pv × Nat × Option (Fc × Nat) :=
 if g.facts.length ≤ 4 then (ps ++ [g], ps.length, none)
 else (ps ++ [⟨g.facts.take 2, g.kids.take 3⟩, ⟨g.facts.drop 3, g.kids.drop 3⟩], ps.length, some (g.facts.getD 2 default, ps.length + 1))
def insW (f : Fc) : Nat → List Pv → Nat → List Pv × Nat × Option (Fc × Nat)
  | 0, ps, _ => (ps, 0, none)
  | n + 1, ps, p =>
    let g := ps.getD p default
    let k := placeP g.facts f
    if g.kids.length = 0 then splitP ps ⟨insAt g.facts k f, []⟩
    else
      let r := insW f n ps (g.kids.getD k 0).toNat
      match r.2.2 with
      | none => splitP r.1 ⟨g.facts, g.kids.set k r.2.1⟩
      | some (m, b) => splitP r.1 ⟨insAt g.facts k m, insAt (g.kids.set k r.2.1) (k + 1) b⟩
def putW (ps : List Pv) (root : Nat) (f : Fc) : List Pv × Nat :=
 let r := insW f (root + 1) ps root
 match r.2.2 with
 | none => (r.1, r.2.1)
 | some (m, b) => (r.1 ++ [⟨[m], [(r.2.1 : Int), (b : Int)]⟩], r.1.length)
def errP (b : Bool) : Int := if b = true then 0 else 470
def lastR (roots : List Int) : Nat := (roots.getLast?.getD 0).toNat
end
section
open Go.RowKit Go.Sort RelD
set_option maxRecDepth 100000 in
set_option maxHeartbeats 4000000 in
theorem pgcmp_any (a b : Fc) (w : World) : Calls Tryz.prog 43 #[.agg (fEnc a).toArray, .agg (fEnc b).toArray] w fun e w' => e = .returned (.int .i64 (cmpP a b)) ∧ BelowD w.heap.size w w' := by
 show Calls Tryz.prog 43 #[.agg #[.int .i64 a.key.kind, .int .i64 a.key.subj, .int .i64 a.key.obj, .int .i64 a.val, .int .i64 a.fr, .int .i64 a.to, .int .i64 a.known, .int .i64 a.no], .agg #[.int .i64 b.key.kind, .int .i64 b.key.subj, .int .i64 b.key.obj, .int .i64 b.val, .int .i64 b.fr, .int .i64 b.to, .int .i64 b.known, .int .i64 b.no]] w _
 have hB : BelowD w.heap.size w ((w.alloc (.cells (fEnc a).toArray 54)).alloc (.cells (fEnc b).toArray 54)) := ((BelowD.refl _ w).alloc (Nat.le_refl _) _).alloc (by simp) _
 have h1 : ((w.alloc (.cells (fEnc a).toArray 54)).alloc (.cells (fEnc b).toArray 54)).heap[w.heap.size]? = some (.cells (fEnc a).toArray 54 (0, 0)) := (Below.heap_alloc _ _ _ (by simp)).trans (World.alloc_heap_new _ _)
 have h2 : ((w.alloc (.cells (fEnc a).toArray 54)).alloc (.cells (fEnc b).toArray 54)).heap[w.heap.size + 1]? = some (.cells (fEnc b).toArray 54 (0, 0)) := by
  have := World.alloc_heap_new (w.alloc (.cells (fEnc a).toArray 54)) (.cells (fEnc b).toArray 54)
  rwa [World.size_alloc] at this
 have hB' := hidp hB
 have h1' := hidp h1
 have h2' := hidp h2
 clear hB h1 h2
 go_enter Tryz.func43, Tryz.ntmps43
 go_wp2_with fail
 generalize hwr : (w.alloc (.cells #[.int .i64 a.key.kind, .int .i64 a.key.subj, .int .i64 a.key.obj, .int .i64 a.val, .int .i64 a.fr, .int .i64 a.to, .int .i64 a.known, .int .i64 a.no] 54)).alloc (.cells #[.int .i64 b.key.kind, .int .i64 b.key.subj, .int .i64 b.key.obj, .int .i64 b.val, .int .i64 b.fr, .int .i64 b.to, .int .i64 b.known, .int .i64 b.no] 54) = wr
 have hBr : BelowD w.heap.size w wr := hwr ▸ hB'.out
 have g1 : wr.heap[w.heap.size]? = some (.cells (fEnc a).toArray 54 (0, 0)) := hwr ▸ h1'.out
 have g2 : wr.heap[w.heap.size + 1]? = some (.cells (fEnc b).toArray 54 (0, 0)) := hwr ▸ h2'.out
 clear hwr hB' h1' h2'
 have hcell : ∀ w9, BelowD wr.heap.size wr w9 → w9.cell? ⟨w.heap.size, 0, none⟩ = some (.int .i64 a.key.kind) ∧ w9.cell? ⟨w.heap.size + 1, 0, none⟩ = some (.int .i64 b.key.kind) ∧ w9.cell? ⟨w.heap.size, 1, none⟩ = some (.int .i64 a.key.subj) ∧ w9.cell? ⟨w.heap.size + 1, 1, none⟩ = some (.int .i64 b.key.subj) ∧ w9.cell? ⟨w.heap.size, 2, none⟩ = some (.int .i64 a.key.obj) ∧ w9.cell? ⟨w.heap.size + 1, 2, none⟩ = some (.int .i64 b.key.obj) ∧ w9.cell? ⟨w.heap.size, 6, none⟩ = some (.int .i64 a.known) ∧ w9.cell? ⟨w.heap.size + 1, 6, none⟩ = some (.int .i64 b.known) ∧ w9.cell? ⟨w.heap.size, 7, none⟩ = some (.int .i64 a.no) ∧ w9.cell? ⟨w.heap.size + 1, 7, none⟩ = some (.int .i64 b.no) := by
  intro w9 h9
  have i1 := (h9.block _ (lt_of_heap g1)).trans g1
  have i2 := (h9.block _ (lt_of_heap g2)).trans g2
  exact ⟨cell_of_heap i1, cell_of_heap i2, cell_of_heap i1, cell_of_heap i2, cell_of_heap i1, cell_of_heap i2, cell_of_heap i1, cell_of_heap i2, cell_of_heap i1, cell_of_heap i2⟩
 have HC := hidp hcell
 clear hcell g1 g2
 refine RelD.wp_region_rel wr.heap.size (fun _ => false) (fun _ => true) (Nat.le_refl _) (by kernel_rfl) (by kernel_rfl) (by kernel_rfl) ?_
 iterate 6
  try dsimp only [naL, caL]
  apply RelD.rel_det
  ·repeat (first | refine RelD.obl_skip (by rfl) ?_ | refine RelD.obl_det (by rfl) ?_ | refine RelD.obl_var (by rfl) fun _ => ?_)
   intro w9 hw9
   refine RelD.relAt_wanted (by rfl) ?_
   obtain ⟨c0a, c0b, c1a, c1b, c2a, c2b, c3a, c3b, c4a, c4b⟩ := HC.out w9 hw9
   go_simp
   exact ⟨BelowD.refl _ _, rfl⟩
 try dsimp only [naL, caL]
 refine RelD.rel_det (x := .int .i64 (cmpI (a.key.kind) (b.key.kind))) ?_ ?_
 ·repeat (first | refine RelD.obl_skip (by rfl) ?_ | refine RelD.obl_det (by rfl) ?_ | refine RelD.obl_var (by rfl) fun _ => ?_)
  intro w9 hw9
  refine RelD.relAt_wanted (by rfl) ?_
  go_simp
  refine (cmp_any _ _ _).mono ?_
  rintro e w1 ⟨rfl, rfl⟩
  exact ⟨_, rfl, BelowD.refl _ _, rfl⟩
 iterate 6
  try dsimp only [naL, caL]
  apply RelD.rel_det
  ·repeat (first | refine RelD.obl_skip (by rfl) ?_ | refine RelD.obl_det (by rfl) ?_ | refine RelD.obl_var (by rfl) fun _ => ?_)
   intro w9 hw9
   refine RelD.relAt_wanted (by rfl) ?_
   obtain ⟨c0a, c0b, c1a, c1b, c2a, c2b, c3a, c3b, c4a, c4b⟩ := HC.out w9 hw9
   go_simp
   exact ⟨BelowD.refl _ _, rfl⟩
 try dsimp only [naL, caL]
 refine RelD.rel_det (x := .int .i64 (cmpI (a.key.subj) (b.key.subj))) ?_ ?_
 ·repeat (first | refine RelD.obl_skip (by rfl) ?_ | refine RelD.obl_det (by rfl) ?_ | refine RelD.obl_var (by rfl) fun _ => ?_)
  intro w9 hw9
  refine RelD.relAt_wanted (by rfl) ?_
  go_simp
  refine (cmp_any _ _ _).mono ?_
  rintro e w1 ⟨rfl, rfl⟩
  exact ⟨_, rfl, BelowD.refl _ _, rfl⟩
 iterate 6
  try dsimp only [naL, caL]
  apply RelD.rel_det
  ·repeat (first | refine RelD.obl_skip (by rfl) ?_ | refine RelD.obl_det (by rfl) ?_ | refine RelD.obl_var (by rfl) fun _ => ?_)
   intro w9 hw9
   refine RelD.relAt_wanted (by rfl) ?_
   obtain ⟨c0a, c0b, c1a, c1b, c2a, c2b, c3a, c3b, c4a, c4b⟩ := HC.out w9 hw9
   go_simp
   exact ⟨BelowD.refl _ _, rfl⟩
 try dsimp only [naL, caL]
 refine RelD.rel_det (x := .int .i64 (cmpI (a.key.obj) (b.key.obj))) ?_ ?_
 ·repeat (first | refine RelD.obl_skip (by rfl) ?_ | refine RelD.obl_det (by rfl) ?_ | refine RelD.obl_var (by rfl) fun _ => ?_)
  intro w9 hw9
  refine RelD.relAt_wanted (by rfl) ?_
  go_simp
  refine (cmp_any _ _ _).mono ?_
  rintro e w1 ⟨rfl, rfl⟩
  exact ⟨_, rfl, BelowD.refl _ _, rfl⟩
 iterate 4
  try dsimp only [naL, caL]
  apply RelD.rel_det
  ·repeat (first | refine RelD.obl_skip (by rfl) ?_ | refine RelD.obl_det (by rfl) ?_ | refine RelD.obl_var (by rfl) fun _ => ?_)
   intro w9 hw9
   refine RelD.relAt_wanted (by rfl) ?_
   obtain ⟨c0a, c0b, c1a, c1b, c2a, c2b, c3a, c3b, c4a, c4b⟩ := HC.out w9 hw9
   go_simp
   exact ⟨BelowD.refl _ _, rfl⟩
 try dsimp only [naL, caL]
 refine RelD.rel_det (x := .int .i64 (cmpI (a.known) (b.known))) ?_ ?_
 ·repeat (first | refine RelD.obl_skip (by rfl) ?_ | refine RelD.obl_det (by rfl) ?_ | refine RelD.obl_var (by rfl) fun _ => ?_)
  intro w9 hw9
  refine RelD.relAt_wanted (by rfl) ?_
  go_simp
  refine (cmp_any _ _ _).mono ?_
  rintro e w1 ⟨rfl, rfl⟩
  exact ⟨_, rfl, BelowD.refl _ _, rfl⟩
 iterate 4
  try dsimp only [naL, caL]
  apply RelD.rel_det
  ·repeat (first | refine RelD.obl_skip (by rfl) ?_ | refine RelD.obl_det (by rfl) ?_ | refine RelD.obl_var (by rfl) fun _ => ?_)
   intro w9 hw9
   refine RelD.relAt_wanted (by rfl) ?_
   obtain ⟨c0a, c0b, c1a, c1b, c2a, c2b, c3a, c3b, c4a, c4b⟩ := HC.out w9 hw9
   go_simp
   exact ⟨BelowD.refl _ _, rfl⟩
 try dsimp only [naL, caL]
 refine RelD.rel_det (x := .int .i64 (cmpI (a.no) (b.no))) ?_ ?_
 ·repeat (first | refine RelD.obl_skip (by rfl) ?_ | refine RelD.obl_det (by rfl) ?_ | refine RelD.obl_var (by rfl) fun _ => ?_)
  intro w9 hw9
  refine RelD.relAt_wanted (by rfl) ?_
  go_simp
  refine (cmp_any _ _ _).mono ?_
  rintro e w1 ⟨rfl, rfl⟩
  exact ⟨_, rfl, BelowD.refl _ _, rfl⟩
 try dsimp only [naL, caL]
 refine RelD.rel_any (fun v w => ∃ A c, v = .slice A 5 c ∧ ISl w w.heap.size A 5 c [cmpI (a.key.kind) (b.key.kind), cmpI (a.key.subj) (b.key.subj), cmpI (a.key.obj) (b.key.obj), cmpI (a.known) (b.known), cmpI (a.no) (b.no)]) rfl (rows_stableD iStable _ _) ?_ ?_
 ·repeat (first | refine RelD.obl_skip (by rfl) ?_ | refine RelD.obl_det (by rfl) ?_ | refine RelD.obl_var (by rfl) fun _ => ?_)
  intro w9 hw9
  refine RelD.relAt_cps (by rfl) fun T' hT' => ?_
  go_simp
  exact ⟨(BelowD.refl _ w9).alloc (Nat.le_refl _) _, hT' _ _ ⟨_, _, rfl, rows_of_heap (l := [_, _, _, _, _]) iEnc_len (World.alloc_heap_new w9 _) (Nat.le_refl _) (by decide) rfl⟩⟩
 try dsimp only [naL, caL]
 refine RelD.rel_det (x := .int .i64 (cmpP a b)) ?_ ?_
 ·repeat (first | refine RelD.obl_skip (by rfl) ?_ | refine RelD.obl_det (by rfl) ?_ | refine RelD.obl_var (by rfl) fun _ => ?_)
  rintro w9 ⟨hw9, A, c, rfl, hr⟩
  refine RelD.relAt_wanted (by rfl) ?_
  go_simp
  refine (or_any _ _ _ _ _ hr).mono ?_
  rintro e w1 ⟨rfl, rfl⟩
  exact ⟨_, rfl, BelowD.refl _ _, rfl⟩
 try dsimp only [naL, caL]
 apply RelD.rel_det
 ·repeat (first | refine RelD.obl_skip (by rfl) ?_ | refine RelD.obl_det (by rfl) ?_ | refine RelD.obl_var (by rfl) fun _ => ?_)
  intro w9 hw9
  refine RelD.relAt_wanted (by rfl) ?_
  go_simp
  exact ⟨BelowD.refl _ _, rfl⟩
 try dsimp only [naL, caL]
 iterate 33 refine RelD.fin_dead fun _ => ?_
 refine RelD.fin_det rfl ?_
 rintro w4 hb4
 go_frame
 go_wp2_with fail
 go_ret
 exact ⟨rfl, hBr.trans (hb4.mono hBr.size)⟩
end
section
open Go.RowKit
def failV (e : Int) : PanicEntry := { v := .iface 145 (.agg #[.int .i64 e]), recovered := false }
def demandE (ok : Bool) (e : Int) : Ending := if ok = true then .returned (.tuple #[]) else .panicked [failV e]
set_option maxHeartbeats 1000000 in
theorem demand_any (ok : Bool) (e : Int) (w : World) : Calls Tryz.prog 42 #[.bool ok, .int .i64 e] w fun en w' => en = demandE ok e ∧ w = w' := by
 cases ok
 ·go_enter Tryz.func42, Tryz.ntmps42
  go_wp2_with fail
  exact ⟨rfl, rfl, rfl⟩
 ·go_enter Tryz.func42, Tryz.ntmps42
  go_wp2_with fail
  go_end0
  exact ⟨rfl, rfl⟩
set_option maxHeartbeats 1000000 in
theorem pgtry_any (e : Int) (w : World) : Calls Tryz.prog 39 #[.int .i64 e] w fun en w' => en = demandE (e == 0) e ∧ w = w' := by
 obtain ⟨b, hb⟩ : ∃ b, (e == 0) = b := ⟨_, rfl⟩
 go_enter Tryz.func39, Tryz.ntmps39
 have HB := hidp hb
 go_wp2_with fail
 refine (demand_any b e w).mono ?_
 rintro en w1 ⟨rfl, rfl⟩
 cases b
 ·exact ⟨rfl, by rw [HB.out]; rfl, rfl⟩
 ·simp only [demandE, if_true]
  clear hb
  go_wp2_with fail
  go_end0
  exact ⟨by rw [HB.out]; rfl, rfl⟩
set_option maxHeartbeats 1000000 in
theorem caught_nil (p : Addr) (w : World) : Calls Tryz.prog 38 #[.nilIface, .pointer (some p)] w fun en w' => en = .returned (.tuple #[]) ∧ w = w' := by
 go_enter Tryz.func38, Tryz.ntmps38
 go_wp2_with fail
 go_end0
 exact ⟨rfl, rfl⟩
set_option maxRecDepth 100000 in
set_option maxHeartbeats 1000000 in
theorem caught_fail (b : Nat) (x e : Int) (w : World) (hb : w.heap[b]? = some (.cells #[.int .i64 x] 31 (0, 0))) :
  Calls Tryz.prog 38 #[.iface 145 (.agg #[.int .i64 e]), .pointer (some ⟨b, 0, none⟩)] w fun en w' => en = .returned (.tuple #[]) ∧ w'.heap[b]? = some (.cells #[.int .i64 e] 31 (0, 0)) ∧ Kept (fun k => k = b) w w' := by
 have hc := cell_of_heap (o := 0) hb
 have hz := frozen_of_heap (o := 0) hb
 have hl := lt_of_heap hb
 simp only [List.getElem?_toArray, List.getElem?_cons_zero] at hc
 have hta : ∀ W : World, (Instr.typeAssert (.iface 145 (.agg #[.int .i64 e])) 20 145 true).run Tryz.prog W = .ok (.tuple #[.agg #[.int .i64 e], .bool true]) W := fun _ => by kernel_rfl
 go_enter Tryz.func38, Tryz.ntmps38
 go_wp2_with fail
 go_end0
 exact ⟨rfl, (Below.heap_alloc _ _ b (by simpa [World.setCell] using hl)).trans (heap_set1 hb _), ((Kept.refl (fun k => k = b) w).setCell (p := ⟨b, 0, none⟩) (.inl rfl) _).alloc _⟩
set_option maxHeartbeats 1000000 in
theorem catchC_panicking (b : Nat) (x e : Int) (older : List PanicEntry) (w : World) (hb : w.heap[b]? = some (.cells #[.int .i64 x] 31 (0, 0))) :
  CallsD Tryz.prog 83 #[.pointer (some ⟨b, 0, none⟩)] (.panicking (failV e :: older)) w fun en u' w' =>
   en = .returned (.tuple #[]) ∧ u' = .panicking ({ v := .iface 145 (.agg #[.int .i64 e]), recovered := true } :: older) ∧ w'.heap[b]? = some (.cells #[.int .i64 e] 31 (0, 0)) ∧ Kept (fun k => k = b) w w' := by
 refine callsD_of_wpS Tryz.func83 rfl fun c₀ cs hu => ?_
 have hfail : failV e = { v := .iface 145 (.agg #[.int .i64 e]), recovered := false } := rfl
 rw [hfail] at hu
 apply wpS_region
 simp [wpOpsS, go_sem, recoverD, hu, Tryz.ntmps83, Oper.upon]
 refine (caught_fail b x e w hb).mono ?_
 rintro en w1 ⟨rfl, h1, h2⟩
 simp [bodyPostS, results, Tryz.f83, go_sem]
 exact ⟨h1, h2⟩
set_option maxHeartbeats 1000000 in
theorem catchC_idle (b : Nat) (w : World) :
  CallsD Tryz.prog 83 #[.pointer (some ⟨b, 0, none⟩)] .returning w fun en u' w' => en = .returned (.tuple #[]) ∧ u' = .returning ∧ w' = w := by
 refine callsD_of_wpS Tryz.func83 rfl fun c₀ cs hu => ?_
 apply wpS_region
 simp [wpOpsS, go_sem, recoverD, hu, Tryz.ntmps83, Oper.upon]
 refine (caught_nil ⟨b, 0, none⟩ w).mono ?_
 rintro en w1 ⟨rfl, rfl⟩
 cases c₀
 simp_all [bodyPostS, results, Tryz.f83, go_sem]
end
end Go.Proofs.YtbegdcjofnfkiaaGreatDoor
