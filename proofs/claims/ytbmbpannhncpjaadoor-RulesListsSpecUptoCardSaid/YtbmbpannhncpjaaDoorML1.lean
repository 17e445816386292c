/- Several texts in one: UP1 UP2 UP3 V2 V3 V4 UP5 V7 V8 V10 V9 UP6. -/
import Derived.Test.YtbmbpannhncpjaaDoorUP0
import Derived.Test.YtbmbpannhncpjaaDoorU12
import Derived.Test.YtbmbpannhncpjaaDoorU13
import Derived.Test.YtbmbpannhncpjaaDoorU18
import Derived.Test.YtbmbpannhncpjaaDoorRelT
import Derived.Test.YtbmbpannhncpjaaDoorOrd
import Derived.Test.YtbmbpannhncpjaaDoorRelJ
/- Laws of rules, plainly: monotone; all, any, not; the atoms decide. -/
namespace Go.Proofs.YtbmbpannhncpjaaDoor
open Go.RowKit

theorem cnt_le {a b : Si} : ∀ {l : List Ru}, (∀ y ∈ l, valR a y = true → valR b y = true) → cntR a l ≤ cntR b l
  | [], _ => Nat.le_refl _
  | x :: l, h => by
    have h1 := cnt_le (l := l) fun y hy => h y (by simp [hy])
    have h2 := h x (by simp)
    simp only [cntR]
    cases hx : valR a x
    · simp; omega
    · rw [h2 hx]; simp; omega
theorem cnt_eq {a b : Si} : ∀ {l : List Ru}, (∀ y ∈ l, valR a y = valR b y) → cntR a l = cntR b l
  | [], _ => rfl
  | x :: l, h => by
    simp only [cntR, h x (by simp), cnt_eq (l := l) fun y hy => h y (by simp [hy])]
theorem about_le (B : List Sn) (c : Int) : ∀ l : List Sn, l.all (fun x => leB x (aboutS B x.course)) = true → leB (aboutS l c) (aboutS B c) = true ∨ aboutS l c = ⟨c, 0, -1, false⟩
  | [], _ => .inr rfl
  | x :: l, h => by
    simp only [List.all_cons, Bool.and_eq_true] at h
    have e0 : aboutS (x :: l) c = if x.course = c then x else aboutS l c := rfl
    rw [e0]
    split
    · rename_i e
      subst e
      exact .inl h.1
    · exact about_le B c l h.2
theorem op_cases {x : Ru} (h : formedB x = true) : x.op = 1 ∨ x.op = 2 ∨ x.op = 3 ∨ x.op = 4 ∨ x.op = 5 ∨ x.op = 6 ∨ x.op = 7 ∨ x.op = 8 ∨ x.op = 9 := by
  have := formed_op h; omega
theorem atLeast_mono {an ad bn bd n d : Int} (ha : 0 < ad) (hd : 0 < d) (hb : 0 < bd) (h : an * bd ≤ bn * ad) (h1 : atLeast an ad n d = true) : atLeast bn bd n d = true := by
  simp only [atLeast, decide_eq_true_eq] at *
  have e1 : n * ad * bd ≤ an * d * bd := Int.mul_le_mul_of_nonneg_right h1 (by omega)
  have e2 : an * bd * d ≤ bn * ad * d := Int.mul_le_mul_of_nonneg_right h (by omega)
  have e3 : an * d * bd = an * bd * d := by rw [Int.mul_assoc, Int.mul_comm d bd, ← Int.mul_assoc]
  have e4 : n * ad * bd = n * bd * ad := by rw [Int.mul_assoc, Int.mul_comm ad bd, ← Int.mul_assoc]
  have e5 : bn * ad * d = bn * d * ad := by rw [Int.mul_assoc, Int.mul_comm ad d, ← Int.mul_assoc]
  rw [e4, e3] at e1
  rw [e5] at e2
  exact Int.le_of_mul_le_mul_right (Int.le_trans e1 e2) ha
theorem mono_law {a b : Si} (fa : fitsB a = true) (fb : fitsB b = true) (hm : mostB a b = true) (x : Ru) : allF x = true → negR x = false → valR a x = true → valR b x = true := by
  simp only [mostB, Bool.and_eq_true, decide_eq_true_eq] at hm
  obtain ⟨⟨hm1, hm2⟩, hm3⟩ := hm
  induction x using Ru.ind with
  | h x ih =>
    intro hf hn hv
    have hfo := allF_formed hf
    have hri := formed_right hfo
    have hkids : ∀ y ∈ x.kids, valR a y = true → valR b y = true := fun y hy => by
      obtain ⟨i, hi⟩ := List.mem_iff_getElem?.1 hy
      refine ih y hy (allFL_mem (allF_kids hf) hi) ?_
      rw [negR_eq, Bool.or_eq_false_iff, List.any_eq_false] at hn
      simpa using hn.2 y hy
    have hc := cnt_le hkids
    have hl := cntR_le b x.kids
    have h4 : x.op ≠ 4 := by
      rw [negR_eq, Bool.or_eq_false_iff] at hn
      simpa using hn.1
    rw [valR_eq] at hv ⊢
    have hab := about_le b.seen x.course a.seen hm1
    rcases op_cases hfo with e | e | e | e | e | e | e | e | e
    · simp [holdsK, e] at hv ⊢; omega
    · simp [holdsK, e] at hv ⊢; omega
    · simp [holdsK, e] at hv ⊢; omega
    · exact absurd e h4
    · simp [rightB, e, withinB] at hri
      simp [holdsK, e] at hv ⊢
      rcases hab with h | h
      · simp [leB] at h; omega
      · rw [h] at hv; simp at hv; omega
    · simp [rightB, e, withinB] at hri
      simp [holdsK, e] at hv ⊢
      rcases hab with h | h
      · simp [leB] at h; omega
      · rw [h] at hv; simp at hv; omega
    · simp [holdsK, e] at hv ⊢; omega
    · have h8 := formed_mean hfo e
      simp only [holdsK, e] at hv ⊢
      have b1 := rat_bd h8
      have b2 := rat_bd (fits_mean fa).1
      have b3 := rat_bd (fits_mean fb).1
      exact atLeast_mono (by omega) (by omega) (by omega) hm3 hv
    · simp only [holdsK, e] at hv ⊢
      rcases hab with h | h
      · simp [leB] at h
        simp at hv ⊢
        rcases h.2 with h2 | h2
        · rw [hv] at h2; cases h2
        · exact h2
      · rw [h] at hv; simp at hv
end Go.Proofs.YtbmbpannhncpjaaDoor

/- Laws of rules, plainly: the atoms decide (RulesAtoms). -/
namespace Go.Proofs.YtbmbpannhncpjaaDoor
open Go.RowKit

theorem addKey_mem2 {α : Type} [DecidableEq α] (ks : List α) (a k : α) : k ∈ addKey ks a ↔ k ∈ ks ∨ k = a := by
  unfold addKey
  split
  · exact ⟨.inl, fun h => h.elim id (fun e => by subst e; assumption)⟩
  · simp
theorem atSet_mem (l : List DRu) (k : At) : k ∈ atSet l ↔ ∃ y ∈ l, withinB y.2.op 5 9 = true ∧ atK y = k := by
  have : ∀ (l : List DRu) (a : List At), k ∈ l.foldl atAdd a ↔ k ∈ a ∨ ∃ y ∈ l, withinB y.2.op 5 9 = true ∧ atK y = k := by
    intro l
    induction l with
    | nil => simp
    | cons x l ih =>
      intro a
      rw [List.foldl_cons, ih]
      unfold atAdd
      split
      · rename_i h
        rw [addKey_mem2]
        constructor
        · rintro ((h1 | h1) | ⟨y, hy, h2⟩)
          · exact .inl h1
          · exact .inr ⟨x, by simp, h, h1.symm⟩
          · exact .inr ⟨y, by simp [hy], h2⟩
        · rintro (h1 | ⟨y, hy, h2, h3⟩)
          · exact .inl (.inl h1)
          · rcases List.mem_cons.1 hy with rfl | hy
            · exact .inl (.inr h3.symm)
            · exact .inr ⟨y, hy, h2, h3⟩
      · rename_i h
        constructor
        · rintro (h1 | ⟨y, hy, h2⟩)
          · exact .inl h1
          · exact .inr ⟨y, by simp [hy], h2⟩
        · rintro (h1 | ⟨y, hy, h2, h3⟩)
          · exact .inl h1
          · rcases List.mem_cons.1 hy with rfl | hy
            · exact absurd h2 h
            · exact .inr ⟨y, hy, h2, h3⟩
  simpa [atSet] using this l []
/-- What an atom says does not look at its kids nor at its name. -/
theorem valR_atom (s : Si) (x : Ru) (h : withinB x.op 5 9 = true) : valR s x = valR s (atR ⟨x.op, x.course, x.n, x.d⟩) := by
  rw [valR_eq, valR_eq]
  simp only [withinB, Bool.and_eq_true, decide_eq_true_eq] at h
  have h1 : x.op ≠ 1 := by omega
  have h2 : x.op ≠ 2 := by omega
  have h3 : x.op ≠ 3 := by omega
  have h4 : x.op ≠ 4 := by omega
  show holdsK s x.op x.course x.n x.d _ _ = holdsK s x.op x.course x.n x.d _ _
  simp only [holdsK, h1, h2, h3, h4, if_false]
theorem atoms_law {a b : Si} (x : Ru) : ∀ dep, allF x = true → (∀ y ∈ partsD dep x, withinB y.2.op 5 9 = true → valR a (atR (atK y)) = valR b (atR (atK y))) → valR a x = valR b x := by
  induction x using Ru.ind with
  | h x ih =>
    intro dep hf hm
    by_cases h59 : withinB x.op 5 9 = true
    · rw [valR_atom a x h59, valR_atom b x h59]
      exact hm (dep, x) (by rw [partsD_eq]; simp) h59
    · have hkids : ∀ y ∈ x.kids, valR a y = valR b y := fun y hy => by
        obtain ⟨i, hi⟩ := List.mem_iff_getElem?.1 hy
        refine ih y hy (wrap64 (dep + 1)) (allFL_mem (allF_kids hf) hi) fun z hz h => ?_
        refine hm z ?_ h
        rw [partsD_eq]
        exact List.mem_cons_of_mem _ (partsL_mem.2 ⟨y, hy, hz⟩)
      have hc := cnt_eq hkids
      rw [valR_eq, valR_eq, hc]
      have hfo := allF_formed hf
      rcases op_cases hfo with e | e | e | e | e | e | e | e | e
      · simp [holdsK, e]
      · simp [holdsK, e]
      · simp [holdsK, e]
      · simp [holdsK, e]
      all_goals exact absurd (by rw [e]; decide) h59
/-- An atom of a valid rule is a valid rule. -/
theorem atom_check {x : Ru} (hx : checkB x = true) {k : At} (hk : k ∈ atSet (partsD 1 x)) : checkB (atR k) = true := by
  obtain ⟨y, hy, h59, rfl⟩ := (atSet_mem _ _).1 hk
  have hf : formedB y.2 = true := ((checkU_iff 0 _).1 hx).2 y hy |>.2
  have e : partsD 1 (atR (atK y)) = [(1, atR (atK y))] := rfl
  unfold checkB
  rw [e, checkU_iff]
  refine ⟨fun _ => by simp, fun z hz => ?_⟩
  obtain rfl := List.mem_singleton.1 hz
  refine ⟨by show (1 : Int) ≤ 16; decide, ?_⟩
  have hk0 : y.2.kids.length = 0 := by
    simp only [formedB, Bool.and_eq_true, Bool.or_eq_true, decide_eq_true_eq] at hf
    rcases hf.1.2 with h | h
    · exfalso
      simp only [withinB, Bool.and_eq_true, decide_eq_true_eq] at h59
      simp [useK] at h
      omega
    · exact h
  have : formedB (atR (atK y)) = formedB y.2 := by
    simp only [formedB, hk0]
    rfl
  rw [this]; exact hf
theorem parts_len {x : Ru} (hx : checkB x = true) : (partsD 1 x).length ≤ 200 := by
  have := ((checkU_iff 0 _).1 hx).1 (by rw [partsD_eq]; simp)
  omega
end Go.Proofs.YtbmbpannhncpjaaDoor

/- Laws of rules, plainly: other courses do not matter. -/
namespace Go.Proofs.YtbmbpannhncpjaaDoor
open Go.RowKit

theorem courseSet_mem (l : List DRu) (c : Int) : c ∈ courseSet l ↔ ∃ y ∈ l, (y.2.op = 5 ∨ y.2.op = 6 ∨ y.2.op = 9) ∧ y.2.course = c := by
  have : ∀ (l : List DRu) (a : List Int), c ∈ l.foldl coursesAdd a ↔ c ∈ a ∨ ∃ y ∈ l, (y.2.op = 5 ∨ y.2.op = 6 ∨ y.2.op = 9) ∧ y.2.course = c := by
    intro l
    induction l with
    | nil => simp
    | cons x l ih =>
      intro a
      rw [List.foldl_cons, ih]
      unfold coursesAdd
      split
      · rename_i h
        rw [addKey_mem2]
        constructor
        · rintro ((h1 | h1) | ⟨y, hy, h2⟩)
          · exact .inl h1
          · exact .inr ⟨x, by simp, h, h1.symm⟩
          · exact .inr ⟨y, by simp [hy], h2⟩
        · rintro (h1 | ⟨y, hy, h2, h3⟩)
          · exact .inl (.inl h1)
          · rcases List.mem_cons.1 hy with rfl | hy
            · exact .inl (.inr h3.symm)
            · exact .inr ⟨y, hy, h2, h3⟩
      · rename_i h
        constructor
        · rintro (h1 | ⟨y, hy, h2⟩)
          · exact .inl h1
          · exact .inr ⟨y, by simp [hy], h2⟩
        · rintro (h1 | ⟨y, hy, h2, h3⟩)
          · exact .inl h1
          · rcases List.mem_cons.1 hy with rfl | hy
            · exact absurd h2 h
            · exact .inr ⟨y, hy, h2, h3⟩
  simpa [courseSet] using this l []
theorem addKey_nodup {α : Type} [DecidableEq α] {ks : List α} (h : ks.Nodup) (a : α) : (addKey ks a).Nodup := by
  unfold addKey
  split
  · exact h
  · rename_i hn
    rw [List.nodup_append]
    refine ⟨h, by simp, fun x hx y hy => ?_⟩
    obtain rfl := List.mem_singleton.1 hy
    rintro rfl
    exact hn hx
theorem courseSet_nodup (l : List DRu) : (courseSet l).Nodup := by
  have : ∀ (l : List DRu) (a : List Int), a.Nodup → (l.foldl coursesAdd a).Nodup := by
    intro l
    induction l with
    | nil => intro a h; exact h
    | cons x l ih =>
      intro a h
      rw [List.foldl_cons]
      refine ih _ ?_
      unfold coursesAdd
      split
      · exact addKey_nodup h _
      · exact h
  exact this l [] (by simp)
/-- What a situation says about courses of a list, as the law's loops collect it. -/
def othersL (cs : List Int) (l : List Sn) : List Sn := l.flatMap fun y => List.replicate (cs.count y.course) y
theorem othersL_step {cs : List Int} {l : List Sn} {i : Nat} {y : Sn} (h : l[i]? = some y) : othersL cs (l.take (i + 1)) = othersL cs (l.take i) ++ List.replicate (cs.count y.course) y := by
  rw [take_snoc h]; simp [othersL]
theorem othersL_filter {cs : List Int} (h : cs.Nodup) (l : List Sn) : othersL cs l = l.filter fun y => decide (y.course ∈ cs) := by
  induction l with
  | nil => rfl
  | cons y l ih =>
    have e : othersL cs (y :: l) = List.replicate (cs.count y.course) y ++ othersL cs l := rfl
    rw [e, ih, List.filter_cons]
    by_cases hm : y.course ∈ cs
    · rw [h.count, if_pos hm, if_pos (by simpa using hm)]; rfl
    · rw [List.count_eq_zero_of_not_mem hm, if_neg (by simpa using hm)]; rfl
theorem count_step {cs : List Int} {k : Nat} {c z : Int} (h : cs[k]? = some z) : (cs.take (k + 1)).count c = (cs.take k).count c + if z = c then 1 else 0 := by
  rw [take_snoc h, List.count_append, List.count_singleton]
  simp
theorem fitsL_filter (p : Sn → Bool) : ∀ (l : List Sn) (a b : Int), fitsL a l = true → b ≤ a → fitsL b (l.filter p) = true
  | [], _, _, _, _ => rfl
  | x :: l, a, b, h, hb => by
    simp only [fitsL, Bool.and_eq_true] at h
    obtain ⟨⟨⟨⟨h1, h2⟩, h3⟩, h4⟩, h5⟩ := h
    simp only [withinB, Bool.and_eq_true, decide_eq_true_eq] at h1
    rw [List.filter_cons]
    split
    · simp only [fitsL, Bool.and_eq_true]
      refine ⟨⟨⟨⟨?_, h2⟩, h3⟩, h4⟩, fitsL_filter p l _ _ h5 (Int.le_refl _)⟩
      simp only [withinB, Bool.and_eq_true, decide_eq_true_eq]
      omega
    · exact fitsL_filter p l _ _ h5 (by omega)
theorem about_filter (p : Sn → Bool) (c : Int) : ∀ (l : List Sn), (∀ y ∈ l, y.course = c → p y = true) → aboutS (l.filter p) c = aboutS l c
  | [], _ => rfl
  | x :: l, h => by
    have ih := about_filter p c l fun y hy => h y (by simp [hy])
    rw [List.filter_cons]
    by_cases hc : x.course = c
    · rw [if_pos (h x (by simp) hc)]
      simp [aboutS, hc]
    · split
      · simp [aboutS, hc, ih]
      · simp [aboutS, hc, ih]
/-- A situation that says nothing about courses that a rule does not mention. -/
theorem others_law {s t : Si} {x : Ru} (hs : t.seen = s.seen.filter fun y => decide (y.course ∈ courseSet (partsD 1 x))) (he : t.earned = s.earned) (hn : t.num = s.num) (hd : t.den = s.den) (hx : checkB x = true) : valR t x = valR s x := by
  refine atoms_law x 1 (allF_of_check hx) fun y hy h59 => ?_
  have hab : (y.2.op = 5 ∨ y.2.op = 6 ∨ y.2.op = 9) → aboutS t.seen y.2.course = aboutS s.seen y.2.course := fun h => by
    rw [hs]
    refine about_filter _ _ _ fun z _ hz => ?_
    rw [decide_eq_true_eq, hz]
    exact (courseSet_mem _ _).2 ⟨y, hy, h, rfl⟩
  rw [valR_eq, valR_eq]
  show holdsK t y.2.op y.2.course y.2.n y.2.d 0 0 = holdsK s y.2.op y.2.course y.2.n y.2.d 0 0
  simp only [withinB, Bool.and_eq_true, decide_eq_true_eq] at h59
  have : y.2.op = 5 ∨ y.2.op = 6 ∨ y.2.op = 7 ∨ y.2.op = 8 ∨ y.2.op = 9 := by omega
  rcases this with e | e | e | e | e
  · simp [holdsK, e, hab (.inl e)]
  · simp [holdsK, e, hab (.inr (.inl e))]
  · simp [holdsK, e, he]
  · simp [holdsK, e, hn, hd]
  · simp [holdsK, e, hab (.inr (.inr e))]
theorem others_fits {s t : Si} {p : Sn → Bool} (hs : t.seen = s.seen.filter p) (he : t.earned = s.earned) (hn : t.num = s.num) (hd : t.den = s.den) (h : fitsB s = true) : fitsB t = true := by
  simp only [fitsB, Bool.and_eq_true] at h ⊢
  rw [hs, he, hn, hd]
  exact ⟨⟨fitsL_filter p _ _ _ h.1.1 (Int.le_refl _), h.1.2⟩, h.2⟩
end Go.Proofs.YtbmbpannhncpjaaDoor

/- The reference's leaves (printed by tools/gen89.py). -/
namespace Go.Proofs.YtbmbpannhncpjaaDoor
open Go.RowKit Go.Sort

set_option maxHeartbeats 400000 in
theorem bsize_any (z : Int) (w : World) (h1 : -1073741824 ≤ z) (h2 : z ≤ 1073741824) : Calls Tryd.prog 71 #[.int .i64 z] w fun e w' => e = .returned (.int .u64 (z.natAbs : Int)) ∧ w = w' := by
  by_cases h : z < 0
  · have HR : Hid (IntKind.u64.wrap (-IntKind.u64.wrap z) = (z.natAbs : Int)) := by show _ = _; simp [IntKind.wrap, IntKind.bits, IntKind.signed]; omega
    go_enter Tryd.func71, Tryd.ntmps71
    go_wp2_with fail
    go_ret
    exact ⟨ret_int HR.out, rfl⟩
  · have HR : Hid (IntKind.u64.wrap z = (z.natAbs : Int)) := by show _ = _; simp [IntKind.wrap, IntKind.bits, IntKind.signed]; omega
    go_enter Tryd.func71, Tryd.ntmps71
    go_wp2_with fail
    go_ret
    exact ⟨ret_int (by omega), rfl⟩

set_option maxRecDepth 100000 in
set_option maxHeartbeats 1000000 in
theorem bcommon_any (a b : Nat) (w : World) (ha : a < 4294967296) (hb : b < 4294967296) : Calls Tryd.prog 70 #[.int .u64 (a : Int), .int .u64 (b : Int)] w fun e w' => e = .returned (.int .u64 (Nat.gcd a b : Nat)) ∧ Below w.heap.size w w' := by
  go_enter Tryd.func70, Tryd.ntmps70
  go_wp2_with fail
  go_loopw [0, 1] (fun x y wr => ∃ (p q : Nat), p < 4294967296 ∧ q < 4294967296 ∧ x = .int .u64 p ∧ y = .int .u64 q ∧ Nat.gcd p q = Nat.gcd a b ∧ Below w.heap.size w wr) (fun _ y _ => (intOf y).toNat)
  case atStart => exact ⟨a, b, ha, hb, rfl, rfl, rfl, Below.refl _ _⟩
  case round =>
    obtain ⟨p, q, hp, hq, rfl, rfl, hg, hbe⟩ := hrel
    have HG := hidp hg
    clear hg
    by_cases h0 : q = 0
    · have HR : Hid (Nat.gcd p q = p) := by show _ = _; rw [h0]; exact Nat.gcd_zero_right p
      have hn : ¬ ((0 : Int) < (q : Int)) := by omega
      clear h0
      go_wp2_with fail
      go_ret
      exact ⟨ret_int (by rw [← HG.out, HR.out]), hbe⟩
    · obtain ⟨m, hm⟩ : ∃ m, p % q = m := ⟨_, rfl⟩
      have hmod : m < q := by rw [← hm]; exact Nat.mod_lt _ (by omega)
      have hq0 : (0 : Int) < (q : Int) := by omega
      have hR : Nat.gcd q m = Nat.gcd p q := by rw [← hm, Nat.gcd_comm q, Nat.gcd_comm p, ← Nat.gcd_rec]
      have hrem : Int.tmod (p : Int) (q : Int) = (m : Int) := by
        rw [Int.tmod_eq_emod_of_nonneg (by omega), ← Int.natCast_emod, hm]
      have HR := hidp hR
      have HM := hidp hrem
      have HN := hidp h0
      clear hR hrem h0 hm
      go_wp2_with fail

      refine wp_region_S wr.heap.size 6 (fun _ => false) (Nat.le_refl _) (by kernel_rfl) (by kernel_rfl) (by kernel_rfl) ?_
      dsimp only [List.take, List.drop]
      apply relS_det (mask := [])
      · rfl
      · kernel_rfl
      · kernel_rfl
      · dsimp only [oblS]
        rintro w9 h9
        go_simp
        exact ⟨Below.refl _ _, rfl⟩
      dsimp only [List.nil_append, List.cons_append]
      apply relS_det (mask := [false])
      · rfl
      · kernel_rfl
      · kernel_rfl
      · dsimp only [oblS]
        rintro w9 h9
        go_simp
        exact ⟨Below.refl _ _, rfl⟩
      dsimp only [List.nil_append, List.cons_append]
      apply relS_det (mask := [false, false])
      · rfl
      · kernel_rfl
      · kernel_rfl
      · dsimp only [oblS]
        rintro w9 h9
        go_simp
        exact ⟨Below.refl _ _, rfl⟩
      dsimp only [List.nil_append, List.cons_append]
      apply relS_det (mask := [false, true, true]) (x := .int .u64 (m : Nat))
      · rfl
      · kernel_rfl
      · kernel_rfl
      · dsimp only [oblS]
        rintro w9 h9
        go_simp
        first | (rw [if_neg HN.out]; exact ⟨Below.refl _ _, by rw [HM.out]; rfl⟩) | exact ⟨Below.refl _ _, by rw [HM.out]; rfl⟩
      dsimp only [List.nil_append, List.cons_append]
      apply relS_det (mask := [true, true, false, false])
      · rfl
      · kernel_rfl
      · kernel_rfl
      · dsimp only [oblS]
        rintro w9 h9
        go_simp
        exact ⟨Below.refl _ _, rfl⟩
      dsimp only [List.nil_append, List.cons_append]
      apply relS_det (mask := [true, false, true, true, false])
      · rfl
      · kernel_rfl
      · kernel_rfl
      · dsimp only [oblS]
        rintro w9 h9
        go_simp
        exact ⟨Below.refl _ _, rfl⟩
      dsimp only [List.nil_append, List.cons_append]
      refine relS_end (by rfl) ?_
      dsimp only [finS]
      -- rintro  w8 hb
      rintro w8 h8
      have hbe8 := hbe.trans (h8.mono hbe.size)
      go_simp
      go_wp2_with fail
      go_roundw
      case rel => exact ⟨q, m, hq, by omega, rfl, rfl, HR.out.trans HG.out, hbe8⟩
      case measure => simp [intOf]; omega


set_option maxRecDepth 100000 in
set_option maxHeartbeats 4000000 in
theorem bCheck_any (a b : Int) (w : World) :
    Calls Tryd.prog 63 #[.agg #[.int .i64 a, .int .i64 b]] w fun e w' => e = .returned (.int .i64 (okOr (ratB a b) 50)) ∧ Below w.heap.size w w' := by
  obtain ⟨W0, hW0⟩ : ∃ W0, w.alloc (.cells #[.int .i64 a, .int .i64 b] 27) = W0 := ⟨_, rfl⟩
  have hBW : Below w.heap.size w W0 := hW0 ▸ (Below.refl _ w).alloc (Nat.le_refl _) _
  have g1 : W0.heap[w.heap.size]? = some (.cells #[.int .i64 a, .int .i64 b] 27 (0, 0)) := hW0 ▸ World.alloc_heap_new _ _
  have lz := lt_of_heap g1
  have HW0 := hidp hW0
  have x0 := cell_of_heap (o := 0) g1
  have x1 := cell_of_heap (o := 1) g1
  simp only [List.getElem?_toArray, List.getElem?_cons_zero, List.getElem?_cons_succ] at x0 x1
  clear hW0 g1
  by_cases h1 : b < 1
  · have HR : Hid (ratB a b = false) := by show _ = _; simp [ratB]; omega
    have d1 : decide (b < 1) = true := decide_eq_true h1
    go_enter Tryd.func63, Tryd.ntmps63
    go_wp2_with fail
    rw [HW0.out]
    refine wp_region_S W0.heap.size 28 (fun _ => false) (Nat.le_refl _) (by kernel_rfl) (by kernel_rfl) (by kernel_rfl) ?_
    dsimp only [List.take, List.drop]
    apply relS_det (mask := [])
    · rfl
    · kernel_rfl
    · kernel_rfl
    · dsimp only [oblS]
      rintro w9 h9
      go_simp
      exact ⟨Below.refl _ _, rfl⟩
    dsimp only [List.nil_append, List.cons_append]
    apply relS_det (mask := [true])
    · rfl
    · kernel_rfl
    · kernel_rfl
    · dsimp only [oblS]
      rintro w9 h9
      have hc9 := (bcell h9).1
      go_simp
      exact ⟨Below.refl _ _, rfl⟩
    dsimp only [List.nil_append, List.cons_append]
    apply relS_det (mask := [false, true]) (x := .bool true)
    · rfl
    · kernel_rfl
    · kernel_rfl
    · dsimp only [oblS]
      rintro w9 h9
      go_simp
      exact ⟨Below.refl _ _, rfl⟩
    dsimp only [List.nil_append, List.cons_append]
    apply relS_det (mask := [false, false, true])
    · rfl
    · kernel_rfl
    · kernel_rfl
    · dsimp only [oblS]
      rintro w9 h9
      go_simp
      exact ⟨Below.refl _ _, rfl⟩
    dsimp only [List.nil_append, List.cons_append]
    apply relS_not (mask := [false, false, false, true]) (t := 6) (want := false) (hf := by rfl) (hg := by kernel_rfl) (hm := by kernel_rfl)
    · rfl
    dsimp only [List.nil_append, List.cons_append]
    apply relS_not (mask := [false, false, false, true, true]) (t := 6) (want := false) (hf := by rfl) (hg := by kernel_rfl) (hm := by kernel_rfl)
    · rfl
    dsimp only [List.nil_append, List.cons_append]
    apply relS_not (mask := [false, false, false, true, false, true]) (t := 6) (want := false) (hf := by rfl) (hg := by kernel_rfl) (hm := by kernel_rfl)
    · rfl
    dsimp only [List.nil_append, List.cons_append]
    apply relS_det (mask := [false, false, false, true, false, false, true])
    · rfl
    · kernel_rfl
    · kernel_rfl
    · dsimp only [oblS]
      rintro w9 h9
      go_simp
      exact ⟨Below.refl _ _, rfl⟩
    dsimp only [List.nil_append, List.cons_append]
    apply relS_det (mask := [false, false, false, false, false, false, false, true])
    · rfl
    · kernel_rfl
    · kernel_rfl
    · dsimp only [oblS]
      rintro w9 h9
      go_simp
      exact ⟨Below.refl _ _, rfl⟩
    dsimp only [List.nil_append, List.cons_append]
    apply relS_not (mask := [false, false, false, false, false, false, false, false, true]) (t := 11) (want := false) (hf := by rfl) (hg := by kernel_rfl) (hm := by kernel_rfl)
    · rfl
    dsimp only [List.nil_append, List.cons_append]
    apply relS_not (mask := [false, false, false, false, false, false, false, false, true, true]) (t := 11) (want := false) (hf := by rfl) (hg := by kernel_rfl) (hm := by kernel_rfl)
    · rfl
    dsimp only [List.nil_append, List.cons_append]
    apply relS_not (mask := [false, false, false, false, false, false, false, false, true, false, true]) (t := 11) (want := false) (hf := by rfl) (hg := by kernel_rfl) (hm := by kernel_rfl)
    · rfl
    dsimp only [List.nil_append, List.cons_append]
    apply relS_det (mask := [false, false, false, false, false, false, false, false, true, false, false, true])
    · rfl
    · kernel_rfl
    · kernel_rfl
    · dsimp only [oblS]
      rintro w9 h9
      go_simp
      exact ⟨Below.refl _ _, rfl⟩
    dsimp only [List.nil_append, List.cons_append]
    apply relS_det (mask := [false, false, false, false, false, false, false, false, false, false, false, false, true])
    · rfl
    · kernel_rfl
    · kernel_rfl
    · dsimp only [oblS]
      rintro w9 h9
      go_simp
      exact ⟨Below.refl _ _, rfl⟩
    dsimp only [List.nil_append, List.cons_append]
    apply relS_not (mask := [false, false, false, false, false, false, false, false, false, false, false, false, false, true]) (t := 16) (want := false) (hf := by rfl) (hg := by kernel_rfl) (hm := by kernel_rfl)
    · rfl
    dsimp only [List.nil_append, List.cons_append]
    apply relS_not (mask := [false, false, false, false, false, false, false, false, false, false, false, false, false, true, true]) (t := 16) (want := false) (hf := by rfl) (hg := by kernel_rfl) (hm := by kernel_rfl)
    · rfl
    dsimp only [List.nil_append, List.cons_append]
    apply relS_not (mask := [false, false, false, false, false, false, false, false, false, false, false, false, false, true, false, true]) (t := 16) (want := false) (hf := by rfl) (hg := by kernel_rfl) (hm := by kernel_rfl)
    · rfl
    dsimp only [List.nil_append, List.cons_append]
    apply relS_det (mask := [false, false, false, false, false, false, false, false, false, false, false, false, false, true, false, false, true])
    · rfl
    · kernel_rfl
    · kernel_rfl
    · dsimp only [oblS]
      rintro w9 h9
      go_simp
      exact ⟨Below.refl _ _, rfl⟩
    dsimp only [List.nil_append, List.cons_append]
    apply relS_det (mask := [false, false, false, false, false, false, false, false, false, false, false, false, false, false, false, false, false, true])
    · rfl
    · kernel_rfl
    · kernel_rfl
    · dsimp only [oblS]
      rintro w9 h9
      go_simp
      exact ⟨Below.refl _ _, rfl⟩
    dsimp only [List.nil_append, List.cons_append]
    apply relS_not (mask := [false, false, false, false, false, false, false, false, false, false, false, false, false, false, false, false, false, false, true]) (t := 21) (want := false) (hf := by rfl) (hg := by kernel_rfl) (hm := by kernel_rfl)
    · rfl
    dsimp only [List.nil_append, List.cons_append]
    apply relS_not (mask := [false, false, false, false, false, false, false, false, false, false, false, false, false, false, false, false, false, false, true, true]) (t := 21) (want := false) (hf := by rfl) (hg := by kernel_rfl) (hm := by kernel_rfl)
    · rfl
    dsimp only [List.nil_append, List.cons_append]
    apply relS_not (mask := [false, false, false, false, false, false, false, false, false, false, false, false, false, false, false, false, false, false, true, false, true]) (t := 21) (want := false) (hf := by rfl) (hg := by kernel_rfl) (hm := by kernel_rfl)
    · rfl
    dsimp only [List.nil_append, List.cons_append]
    apply relS_not (mask := [false, false, false, false, false, false, false, false, false, false, false, false, false, false, false, false, false, false, true, false, false, false]) (t := 21) (want := false) (hf := by rfl) (hg := by kernel_rfl) (hm := by kernel_rfl)
    · rfl
    dsimp only [List.nil_append, List.cons_append]
    apply relS_not (mask := [false, false, false, false, false, false, false, false, false, false, false, false, false, false, false, false, false, false, true, false, false, false, true]) (t := 21) (want := false) (hf := by rfl) (hg := by kernel_rfl) (hm := by kernel_rfl)
    · rfl
    dsimp only [List.nil_append, List.cons_append]
    apply relS_not (mask := [false, false, false, false, false, false, false, false, false, false, false, false, false, false, false, false, false, false, true, false, false, false, false, true]) (t := 21) (want := false) (hf := by rfl) (hg := by kernel_rfl) (hm := by kernel_rfl)
    · rfl
    dsimp only [List.nil_append, List.cons_append]
    apply relS_not (mask := [false, false, false, false, false, false, false, false, false, false, false, false, false, false, false, false, false, false, true, false, false, true, false, false, true]) (t := 21) (want := false) (hf := by rfl) (hg := by kernel_rfl) (hm := by kernel_rfl)
    · rfl
    dsimp only [List.nil_append, List.cons_append]
    apply relS_not (mask := [false, false, false, false, false, false, false, false, false, false, false, false, false, false, false, false, false, false, true, false, false, false, false, false, false, true]) (t := 21) (want := false) (hf := by rfl) (hg := by kernel_rfl) (hm := by kernel_rfl)
    · rfl
    dsimp only [List.nil_append, List.cons_append]
    apply relS_det (mask := [false, false, false, false, false, false, false, false, false, false, false, false, false, false, false, false, false, false, true, false, false, false, false, false, false, false, true])
    · rfl
    · kernel_rfl
    · kernel_rfl
    · dsimp only [oblS]
      rintro w9 h9
      go_simp
      exact ⟨Below.refl _ _, rfl⟩
    dsimp only [List.nil_append, List.cons_append]
    refine relS_end (by rfl) ?_
    dsimp only [finS]
    -- rintro  w8 hb
    rintro w8 h8
    go_simp
    go_wp2_with fail
    go_ret
    exact ⟨ret_int (by rw [HR.out]; rfl), hBW.trans (h8.mono hBW.size)⟩
  have d1 : decide (b < 1) = false := decide_eq_false h1
  by_cases h2 : 1073741824 < b
  · have HR : Hid (ratB a b = false) := by show _ = _; simp [ratB]; omega
    have d2 : decide (1073741824 < b) = true := decide_eq_true h2
    go_enter Tryd.func63, Tryd.ntmps63
    go_wp2_with fail
    rw [HW0.out]
    refine wp_region_S W0.heap.size 28 (fun _ => false) (Nat.le_refl _) (by kernel_rfl) (by kernel_rfl) (by kernel_rfl) ?_
    dsimp only [List.take, List.drop]
    apply relS_det (mask := [])
    · rfl
    · kernel_rfl
    · kernel_rfl
    · dsimp only [oblS]
      rintro w9 h9
      go_simp
      exact ⟨Below.refl _ _, rfl⟩
    dsimp only [List.nil_append, List.cons_append]
    apply relS_det (mask := [true])
    · rfl
    · kernel_rfl
    · kernel_rfl
    · dsimp only [oblS]
      rintro w9 h9
      have hc9 := (bcell h9).1
      go_simp
      exact ⟨Below.refl _ _, rfl⟩
    dsimp only [List.nil_append, List.cons_append]
    apply relS_det (mask := [false, true]) (x := .bool false)
    · rfl
    · kernel_rfl
    · kernel_rfl
    · dsimp only [oblS]
      rintro w9 h9
      go_simp
      exact ⟨Below.refl _ _, rfl⟩
    dsimp only [List.nil_append, List.cons_append]
    apply relS_det (mask := [false, false, true])
    · rfl
    · kernel_rfl
    · kernel_rfl
    · dsimp only [oblS]
      rintro w9 h9
      go_simp
      exact ⟨Below.refl _ _, rfl⟩
    dsimp only [List.nil_append, List.cons_append]
    apply relS_detg (mask := [false, false, false, true]) (t := 6) (want := false)
    · rfl
    · kernel_rfl
    · kernel_rfl
    · dsimp only [oblS]
      refine ⟨by rfl, ?_⟩
      rintro w9 h9
      go_simp
      exact ⟨Below.refl _ _, rfl⟩
    dsimp only [List.nil_append, List.cons_append]
    apply relS_detg (mask := [false, false, false, true, true]) (t := 6) (want := false)
    · rfl
    · kernel_rfl
    · kernel_rfl
    · dsimp only [oblS]
      refine ⟨by rfl, ?_⟩
      rintro w9 h9
      have hc9 := (bcell h9).1
      go_simp
      exact ⟨Below.refl _ _, rfl⟩
    dsimp only [List.nil_append, List.cons_append]
    apply relS_detg (mask := [false, false, false, true, false, true]) (t := 6) (want := false) (x := .bool true)
    · rfl
    · kernel_rfl
    · kernel_rfl
    · dsimp only [oblS]
      refine ⟨by rfl, ?_⟩
      rintro w9 h9
      go_simp
      exact ⟨Below.refl _ _, rfl⟩
    dsimp only [List.nil_append, List.cons_append]
    apply relS_det (mask := [false, false, false, true, false, false, true])
    · rfl
    · kernel_rfl
    · kernel_rfl
    · dsimp only [oblS]
      rintro w9 h9
      go_simp
      exact ⟨Below.refl _ _, rfl⟩
    dsimp only [List.nil_append, List.cons_append]
    apply relS_det (mask := [false, false, false, false, false, false, false, true])
    · rfl
    · kernel_rfl
    · kernel_rfl
    · dsimp only [oblS]
      rintro w9 h9
      go_simp
      exact ⟨Below.refl _ _, rfl⟩
    dsimp only [List.nil_append, List.cons_append]
    apply relS_not (mask := [false, false, false, false, false, false, false, false, true]) (t := 11) (want := false) (hf := by rfl) (hg := by kernel_rfl) (hm := by kernel_rfl)
    · rfl
    dsimp only [List.nil_append, List.cons_append]
    apply relS_not (mask := [false, false, false, false, false, false, false, false, true, true]) (t := 11) (want := false) (hf := by rfl) (hg := by kernel_rfl) (hm := by kernel_rfl)
    · rfl
    dsimp only [List.nil_append, List.cons_append]
    apply relS_not (mask := [false, false, false, false, false, false, false, false, true, false, true]) (t := 11) (want := false) (hf := by rfl) (hg := by kernel_rfl) (hm := by kernel_rfl)
    · rfl
    dsimp only [List.nil_append, List.cons_append]
    apply relS_det (mask := [false, false, false, false, false, false, false, false, true, false, false, true])
    · rfl
    · kernel_rfl
    · kernel_rfl
    · dsimp only [oblS]
      rintro w9 h9
      go_simp
      exact ⟨Below.refl _ _, rfl⟩
    dsimp only [List.nil_append, List.cons_append]
    apply relS_det (mask := [false, false, false, false, false, false, false, false, false, false, false, false, true])
    · rfl
    · kernel_rfl
    · kernel_rfl
    · dsimp only [oblS]
      rintro w9 h9
      go_simp
      exact ⟨Below.refl _ _, rfl⟩
    dsimp only [List.nil_append, List.cons_append]
    apply relS_not (mask := [false, false, false, false, false, false, false, false, false, false, false, false, false, true]) (t := 16) (want := false) (hf := by rfl) (hg := by kernel_rfl) (hm := by kernel_rfl)
    · rfl
    dsimp only [List.nil_append, List.cons_append]
    apply relS_not (mask := [false, false, false, false, false, false, false, false, false, false, false, false, false, true, true]) (t := 16) (want := false) (hf := by rfl) (hg := by kernel_rfl) (hm := by kernel_rfl)
    · rfl
    dsimp only [List.nil_append, List.cons_append]
    apply relS_not (mask := [false, false, false, false, false, false, false, false, false, false, false, false, false, true, false, true]) (t := 16) (want := false) (hf := by rfl) (hg := by kernel_rfl) (hm := by kernel_rfl)
    · rfl
    dsimp only [List.nil_append, List.cons_append]
    apply relS_det (mask := [false, false, false, false, false, false, false, false, false, false, false, false, false, true, false, false, true])
    · rfl
    · kernel_rfl
    · kernel_rfl
    · dsimp only [oblS]
      rintro w9 h9
      go_simp
      exact ⟨Below.refl _ _, rfl⟩
    dsimp only [List.nil_append, List.cons_append]
    apply relS_det (mask := [false, false, false, false, false, false, false, false, false, false, false, false, false, false, false, false, false, true])
    · rfl
    · kernel_rfl
    · kernel_rfl
    · dsimp only [oblS]
      rintro w9 h9
      go_simp
      exact ⟨Below.refl _ _, rfl⟩
    dsimp only [List.nil_append, List.cons_append]
    apply relS_not (mask := [false, false, false, false, false, false, false, false, false, false, false, false, false, false, false, false, false, false, true]) (t := 21) (want := false) (hf := by rfl) (hg := by kernel_rfl) (hm := by kernel_rfl)
    · rfl
    dsimp only [List.nil_append, List.cons_append]
    apply relS_not (mask := [false, false, false, false, false, false, false, false, false, false, false, false, false, false, false, false, false, false, true, true]) (t := 21) (want := false) (hf := by rfl) (hg := by kernel_rfl) (hm := by kernel_rfl)
    · rfl
    dsimp only [List.nil_append, List.cons_append]
    apply relS_not (mask := [false, false, false, false, false, false, false, false, false, false, false, false, false, false, false, false, false, false, true, false, true]) (t := 21) (want := false) (hf := by rfl) (hg := by kernel_rfl) (hm := by kernel_rfl)
    · rfl
    dsimp only [List.nil_append, List.cons_append]
    apply relS_not (mask := [false, false, false, false, false, false, false, false, false, false, false, false, false, false, false, false, false, false, true, false, false, false]) (t := 21) (want := false) (hf := by rfl) (hg := by kernel_rfl) (hm := by kernel_rfl)
    · rfl
    dsimp only [List.nil_append, List.cons_append]
    apply relS_not (mask := [false, false, false, false, false, false, false, false, false, false, false, false, false, false, false, false, false, false, true, false, false, false, true]) (t := 21) (want := false) (hf := by rfl) (hg := by kernel_rfl) (hm := by kernel_rfl)
    · rfl
    dsimp only [List.nil_append, List.cons_append]
    apply relS_not (mask := [false, false, false, false, false, false, false, false, false, false, false, false, false, false, false, false, false, false, true, false, false, false, false, true]) (t := 21) (want := false) (hf := by rfl) (hg := by kernel_rfl) (hm := by kernel_rfl)
    · rfl
    dsimp only [List.nil_append, List.cons_append]
    apply relS_not (mask := [false, false, false, false, false, false, false, false, false, false, false, false, false, false, false, false, false, false, true, false, false, true, false, false, true]) (t := 21) (want := false) (hf := by rfl) (hg := by kernel_rfl) (hm := by kernel_rfl)
    · rfl
    dsimp only [List.nil_append, List.cons_append]
    apply relS_not (mask := [false, false, false, false, false, false, false, false, false, false, false, false, false, false, false, false, false, false, true, false, false, false, false, false, false, true]) (t := 21) (want := false) (hf := by rfl) (hg := by kernel_rfl) (hm := by kernel_rfl)
    · rfl
    dsimp only [List.nil_append, List.cons_append]
    apply relS_det (mask := [false, false, false, false, false, false, false, false, false, false, false, false, false, false, false, false, false, false, true, false, false, false, false, false, false, false, true])
    · rfl
    · kernel_rfl
    · kernel_rfl
    · dsimp only [oblS]
      rintro w9 h9
      go_simp
      exact ⟨Below.refl _ _, rfl⟩
    dsimp only [List.nil_append, List.cons_append]
    refine relS_end (by rfl) ?_
    dsimp only [finS]
    -- rintro  w8 hb
    rintro w8 h8
    go_simp
    go_wp2_with fail
    go_ret
    exact ⟨ret_int (by rw [HR.out]; rfl), hBW.trans (h8.mono hBW.size)⟩
  have d2 : decide (1073741824 < b) = false := decide_eq_false h2
  by_cases h3 : a < -1073741824
  · have HR : Hid (ratB a b = false) := by show _ = _; simp [ratB]; omega
    have d3 : decide (a < -1073741824) = true := decide_eq_true h3
    go_enter Tryd.func63, Tryd.ntmps63
    go_wp2_with fail
    rw [HW0.out]
    refine wp_region_S W0.heap.size 28 (fun _ => false) (Nat.le_refl _) (by kernel_rfl) (by kernel_rfl) (by kernel_rfl) ?_
    dsimp only [List.take, List.drop]
    apply relS_det (mask := [])
    · rfl
    · kernel_rfl
    · kernel_rfl
    · dsimp only [oblS]
      rintro w9 h9
      go_simp
      exact ⟨Below.refl _ _, rfl⟩
    dsimp only [List.nil_append, List.cons_append]
    apply relS_det (mask := [true])
    · rfl
    · kernel_rfl
    · kernel_rfl
    · dsimp only [oblS]
      rintro w9 h9
      have hc9 := (bcell h9).1
      go_simp
      exact ⟨Below.refl _ _, rfl⟩
    dsimp only [List.nil_append, List.cons_append]
    apply relS_det (mask := [false, true]) (x := .bool false)
    · rfl
    · kernel_rfl
    · kernel_rfl
    · dsimp only [oblS]
      rintro w9 h9
      go_simp
      exact ⟨Below.refl _ _, rfl⟩
    dsimp only [List.nil_append, List.cons_append]
    apply relS_det (mask := [false, false, true])
    · rfl
    · kernel_rfl
    · kernel_rfl
    · dsimp only [oblS]
      rintro w9 h9
      go_simp
      exact ⟨Below.refl _ _, rfl⟩
    dsimp only [List.nil_append, List.cons_append]
    apply relS_detg (mask := [false, false, false, true]) (t := 6) (want := false)
    · rfl
    · kernel_rfl
    · kernel_rfl
    · dsimp only [oblS]
      refine ⟨by rfl, ?_⟩
      rintro w9 h9
      go_simp
      exact ⟨Below.refl _ _, rfl⟩
    dsimp only [List.nil_append, List.cons_append]
    apply relS_detg (mask := [false, false, false, true, true]) (t := 6) (want := false)
    · rfl
    · kernel_rfl
    · kernel_rfl
    · dsimp only [oblS]
      refine ⟨by rfl, ?_⟩
      rintro w9 h9
      have hc9 := (bcell h9).1
      go_simp
      exact ⟨Below.refl _ _, rfl⟩
    dsimp only [List.nil_append, List.cons_append]
    apply relS_detg (mask := [false, false, false, true, false, true]) (t := 6) (want := false) (x := .bool false)
    · rfl
    · kernel_rfl
    · kernel_rfl
    · dsimp only [oblS]
      refine ⟨by rfl, ?_⟩
      rintro w9 h9
      go_simp
      exact ⟨Below.refl _ _, rfl⟩
    dsimp only [List.nil_append, List.cons_append]
    apply relS_det (mask := [false, false, false, true, false, false, true])
    · rfl
    · kernel_rfl
    · kernel_rfl
    · dsimp only [oblS]
      rintro w9 h9
      go_simp
      exact ⟨Below.refl _ _, rfl⟩
    dsimp only [List.nil_append, List.cons_append]
    apply relS_det (mask := [false, false, false, false, false, false, false, true])
    · rfl
    · kernel_rfl
    · kernel_rfl
    · dsimp only [oblS]
      rintro w9 h9
      go_simp
      exact ⟨Below.refl _ _, rfl⟩
    dsimp only [List.nil_append, List.cons_append]
    apply relS_detg (mask := [false, false, false, false, false, false, false, false, true]) (t := 11) (want := false)
    · rfl
    · kernel_rfl
    · kernel_rfl
    · dsimp only [oblS]
      refine ⟨by rfl, ?_⟩
      rintro w9 h9
      go_simp
      exact ⟨Below.refl _ _, rfl⟩
    dsimp only [List.nil_append, List.cons_append]
    apply relS_detg (mask := [false, false, false, false, false, false, false, false, true, true]) (t := 11) (want := false)
    · rfl
    · kernel_rfl
    · kernel_rfl
    · dsimp only [oblS]
      refine ⟨by rfl, ?_⟩
      rintro w9 h9
      have hc9 := (bcell h9).1
      go_simp
      exact ⟨Below.refl _ _, rfl⟩
    dsimp only [List.nil_append, List.cons_append]
    apply relS_detg (mask := [false, false, false, false, false, false, false, false, true, false, true]) (t := 11) (want := false) (x := .bool true)
    · rfl
    · kernel_rfl
    · kernel_rfl
    · dsimp only [oblS]
      refine ⟨by rfl, ?_⟩
      rintro w9 h9
      go_simp
      exact ⟨Below.refl _ _, rfl⟩
    dsimp only [List.nil_append, List.cons_append]
    apply relS_det (mask := [false, false, false, false, false, false, false, false, true, false, false, true])
    · rfl
    · kernel_rfl
    · kernel_rfl
    · dsimp only [oblS]
      rintro w9 h9
      go_simp
      exact ⟨Below.refl _ _, rfl⟩
    dsimp only [List.nil_append, List.cons_append]
    apply relS_det (mask := [false, false, false, false, false, false, false, false, false, false, false, false, true])
    · rfl
    · kernel_rfl
    · kernel_rfl
    · dsimp only [oblS]
      rintro w9 h9
      go_simp
      exact ⟨Below.refl _ _, rfl⟩
    dsimp only [List.nil_append, List.cons_append]
    apply relS_not (mask := [false, false, false, false, false, false, false, false, false, false, false, false, false, true]) (t := 16) (want := false) (hf := by rfl) (hg := by kernel_rfl) (hm := by kernel_rfl)
    · rfl
    dsimp only [List.nil_append, List.cons_append]
    apply relS_not (mask := [false, false, false, false, false, false, false, false, false, false, false, false, false, true, true]) (t := 16) (want := false) (hf := by rfl) (hg := by kernel_rfl) (hm := by kernel_rfl)
    · rfl
    dsimp only [List.nil_append, List.cons_append]
    apply relS_not (mask := [false, false, false, false, false, false, false, false, false, false, false, false, false, true, false, true]) (t := 16) (want := false) (hf := by rfl) (hg := by kernel_rfl) (hm := by kernel_rfl)
    · rfl
    dsimp only [List.nil_append, List.cons_append]
    apply relS_det (mask := [false, false, false, false, false, false, false, false, false, false, false, false, false, true, false, false, true])
    · rfl
    · kernel_rfl
    · kernel_rfl
    · dsimp only [oblS]
      rintro w9 h9
      go_simp
      exact ⟨Below.refl _ _, rfl⟩
    dsimp only [List.nil_append, List.cons_append]
    apply relS_det (mask := [false, false, false, false, false, false, false, false, false, false, false, false, false, false, false, false, false, true])
    · rfl
    · kernel_rfl
    · kernel_rfl
    · dsimp only [oblS]
      rintro w9 h9
      go_simp
      exact ⟨Below.refl _ _, rfl⟩
    dsimp only [List.nil_append, List.cons_append]
    apply relS_not (mask := [false, false, false, false, false, false, false, false, false, false, false, false, false, false, false, false, false, false, true]) (t := 21) (want := false) (hf := by rfl) (hg := by kernel_rfl) (hm := by kernel_rfl)
    · rfl
    dsimp only [List.nil_append, List.cons_append]
    apply relS_not (mask := [false, false, false, false, false, false, false, false, false, false, false, false, false, false, false, false, false, false, true, true]) (t := 21) (want := false) (hf := by rfl) (hg := by kernel_rfl) (hm := by kernel_rfl)
    · rfl
    dsimp only [List.nil_append, List.cons_append]
    apply relS_not (mask := [false, false, false, false, false, false, false, false, false, false, false, false, false, false, false, false, false, false, true, false, true]) (t := 21) (want := false) (hf := by rfl) (hg := by kernel_rfl) (hm := by kernel_rfl)
    · rfl
    dsimp only [List.nil_append, List.cons_append]
    apply relS_not (mask := [false, false, false, false, false, false, false, false, false, false, false, false, false, false, false, false, false, false, true, false, false, false]) (t := 21) (want := false) (hf := by rfl) (hg := by kernel_rfl) (hm := by kernel_rfl)
    · rfl
    dsimp only [List.nil_append, List.cons_append]
    apply relS_not (mask := [false, false, false, false, false, false, false, false, false, false, false, false, false, false, false, false, false, false, true, false, false, false, true]) (t := 21) (want := false) (hf := by rfl) (hg := by kernel_rfl) (hm := by kernel_rfl)
    · rfl
    dsimp only [List.nil_append, List.cons_append]
    apply relS_not (mask := [false, false, false, false, false, false, false, false, false, false, false, false, false, false, false, false, false, false, true, false, false, false, false, true]) (t := 21) (want := false) (hf := by rfl) (hg := by kernel_rfl) (hm := by kernel_rfl)
    · rfl
    dsimp only [List.nil_append, List.cons_append]
    apply relS_not (mask := [false, false, false, false, false, false, false, false, false, false, false, false, false, false, false, false, false, false, true, false, false, true, false, false, true]) (t := 21) (want := false) (hf := by rfl) (hg := by kernel_rfl) (hm := by kernel_rfl)
    · rfl
    dsimp only [List.nil_append, List.cons_append]
    apply relS_not (mask := [false, false, false, false, false, false, false, false, false, false, false, false, false, false, false, false, false, false, true, false, false, false, false, false, false, true]) (t := 21) (want := false) (hf := by rfl) (hg := by kernel_rfl) (hm := by kernel_rfl)
    · rfl
    dsimp only [List.nil_append, List.cons_append]
    apply relS_det (mask := [false, false, false, false, false, false, false, false, false, false, false, false, false, false, false, false, false, false, true, false, false, false, false, false, false, false, true])
    · rfl
    · kernel_rfl
    · kernel_rfl
    · dsimp only [oblS]
      rintro w9 h9
      go_simp
      exact ⟨Below.refl _ _, rfl⟩
    dsimp only [List.nil_append, List.cons_append]
    refine relS_end (by rfl) ?_
    dsimp only [finS]
    -- rintro  w8 hb
    rintro w8 h8
    go_simp
    go_wp2_with fail
    go_ret
    exact ⟨ret_int (by rw [HR.out]; rfl), hBW.trans (h8.mono hBW.size)⟩
  have d3 : decide (a < -1073741824) = false := decide_eq_false h3
  by_cases h4 : 1073741824 < a
  · have HR : Hid (ratB a b = false) := by show _ = _; simp [ratB]; omega
    have d4 : decide (1073741824 < a) = true := decide_eq_true h4
    go_enter Tryd.func63, Tryd.ntmps63
    go_wp2_with fail
    rw [HW0.out]
    refine wp_region_S W0.heap.size 28 (fun _ => false) (Nat.le_refl _) (by kernel_rfl) (by kernel_rfl) (by kernel_rfl) ?_
    dsimp only [List.take, List.drop]
    apply relS_det (mask := [])
    · rfl
    · kernel_rfl
    · kernel_rfl
    · dsimp only [oblS]
      rintro w9 h9
      go_simp
      exact ⟨Below.refl _ _, rfl⟩
    dsimp only [List.nil_append, List.cons_append]
    apply relS_det (mask := [true])
    · rfl
    · kernel_rfl
    · kernel_rfl
    · dsimp only [oblS]
      rintro w9 h9
      have hc9 := (bcell h9).1
      go_simp
      exact ⟨Below.refl _ _, rfl⟩
    dsimp only [List.nil_append, List.cons_append]
    apply relS_det (mask := [false, true]) (x := .bool false)
    · rfl
    · kernel_rfl
    · kernel_rfl
    · dsimp only [oblS]
      rintro w9 h9
      go_simp
      exact ⟨Below.refl _ _, rfl⟩
    dsimp only [List.nil_append, List.cons_append]
    apply relS_det (mask := [false, false, true])
    · rfl
    · kernel_rfl
    · kernel_rfl
    · dsimp only [oblS]
      rintro w9 h9
      go_simp
      exact ⟨Below.refl _ _, rfl⟩
    dsimp only [List.nil_append, List.cons_append]
    apply relS_detg (mask := [false, false, false, true]) (t := 6) (want := false)
    · rfl
    · kernel_rfl
    · kernel_rfl
    · dsimp only [oblS]
      refine ⟨by rfl, ?_⟩
      rintro w9 h9
      go_simp
      exact ⟨Below.refl _ _, rfl⟩
    dsimp only [List.nil_append, List.cons_append]
    apply relS_detg (mask := [false, false, false, true, true]) (t := 6) (want := false)
    · rfl
    · kernel_rfl
    · kernel_rfl
    · dsimp only [oblS]
      refine ⟨by rfl, ?_⟩
      rintro w9 h9
      have hc9 := (bcell h9).1
      go_simp
      exact ⟨Below.refl _ _, rfl⟩
    dsimp only [List.nil_append, List.cons_append]
    apply relS_detg (mask := [false, false, false, true, false, true]) (t := 6) (want := false) (x := .bool false)
    · rfl
    · kernel_rfl
    · kernel_rfl
    · dsimp only [oblS]
      refine ⟨by rfl, ?_⟩
      rintro w9 h9
      go_simp
      exact ⟨Below.refl _ _, rfl⟩
    dsimp only [List.nil_append, List.cons_append]
    apply relS_det (mask := [false, false, false, true, false, false, true])
    · rfl
    · kernel_rfl
    · kernel_rfl
    · dsimp only [oblS]
      rintro w9 h9
      go_simp
      exact ⟨Below.refl _ _, rfl⟩
    dsimp only [List.nil_append, List.cons_append]
    apply relS_det (mask := [false, false, false, false, false, false, false, true])
    · rfl
    · kernel_rfl
    · kernel_rfl
    · dsimp only [oblS]
      rintro w9 h9
      go_simp
      exact ⟨Below.refl _ _, rfl⟩
    dsimp only [List.nil_append, List.cons_append]
    apply relS_detg (mask := [false, false, false, false, false, false, false, false, true]) (t := 11) (want := false)
    · rfl
    · kernel_rfl
    · kernel_rfl
    · dsimp only [oblS]
      refine ⟨by rfl, ?_⟩
      rintro w9 h9
      go_simp
      exact ⟨Below.refl _ _, rfl⟩
    dsimp only [List.nil_append, List.cons_append]
    apply relS_detg (mask := [false, false, false, false, false, false, false, false, true, true]) (t := 11) (want := false)
    · rfl
    · kernel_rfl
    · kernel_rfl
    · dsimp only [oblS]
      refine ⟨by rfl, ?_⟩
      rintro w9 h9
      have hc9 := (bcell h9).1
      go_simp
      exact ⟨Below.refl _ _, rfl⟩
    dsimp only [List.nil_append, List.cons_append]
    apply relS_detg (mask := [false, false, false, false, false, false, false, false, true, false, true]) (t := 11) (want := false) (x := .bool false)
    · rfl
    · kernel_rfl
    · kernel_rfl
    · dsimp only [oblS]
      refine ⟨by rfl, ?_⟩
      rintro w9 h9
      go_simp
      exact ⟨Below.refl _ _, rfl⟩
    dsimp only [List.nil_append, List.cons_append]
    apply relS_det (mask := [false, false, false, false, false, false, false, false, true, false, false, true])
    · rfl
    · kernel_rfl
    · kernel_rfl
    · dsimp only [oblS]
      rintro w9 h9
      go_simp
      exact ⟨Below.refl _ _, rfl⟩
    dsimp only [List.nil_append, List.cons_append]
    apply relS_det (mask := [false, false, false, false, false, false, false, false, false, false, false, false, true])
    · rfl
    · kernel_rfl
    · kernel_rfl
    · dsimp only [oblS]
      rintro w9 h9
      go_simp
      exact ⟨Below.refl _ _, rfl⟩
    dsimp only [List.nil_append, List.cons_append]
    apply relS_detg (mask := [false, false, false, false, false, false, false, false, false, false, false, false, false, true]) (t := 16) (want := false)
    · rfl
    · kernel_rfl
    · kernel_rfl
    · dsimp only [oblS]
      refine ⟨by rfl, ?_⟩
      rintro w9 h9
      go_simp
      exact ⟨Below.refl _ _, rfl⟩
    dsimp only [List.nil_append, List.cons_append]
    apply relS_detg (mask := [false, false, false, false, false, false, false, false, false, false, false, false, false, true, true]) (t := 16) (want := false)
    · rfl
    · kernel_rfl
    · kernel_rfl
    · dsimp only [oblS]
      refine ⟨by rfl, ?_⟩
      rintro w9 h9
      have hc9 := (bcell h9).1
      go_simp
      exact ⟨Below.refl _ _, rfl⟩
    dsimp only [List.nil_append, List.cons_append]
    apply relS_detg (mask := [false, false, false, false, false, false, false, false, false, false, false, false, false, true, false, true]) (t := 16) (want := false) (x := .bool true)
    · rfl
    · kernel_rfl
    · kernel_rfl
    · dsimp only [oblS]
      refine ⟨by rfl, ?_⟩
      rintro w9 h9
      go_simp
      exact ⟨Below.refl _ _, rfl⟩
    dsimp only [List.nil_append, List.cons_append]
    apply relS_det (mask := [false, false, false, false, false, false, false, false, false, false, false, false, false, true, false, false, true])
    · rfl
    · kernel_rfl
    · kernel_rfl
    · dsimp only [oblS]
      rintro w9 h9
      go_simp
      exact ⟨Below.refl _ _, rfl⟩
    dsimp only [List.nil_append, List.cons_append]
    apply relS_det (mask := [false, false, false, false, false, false, false, false, false, false, false, false, false, false, false, false, false, true])
    · rfl
    · kernel_rfl
    · kernel_rfl
    · dsimp only [oblS]
      rintro w9 h9
      go_simp
      exact ⟨Below.refl _ _, rfl⟩
    dsimp only [List.nil_append, List.cons_append]
    apply relS_not (mask := [false, false, false, false, false, false, false, false, false, false, false, false, false, false, false, false, false, false, true]) (t := 21) (want := false) (hf := by rfl) (hg := by kernel_rfl) (hm := by kernel_rfl)
    · rfl
    dsimp only [List.nil_append, List.cons_append]
    apply relS_not (mask := [false, false, false, false, false, false, false, false, false, false, false, false, false, false, false, false, false, false, true, true]) (t := 21) (want := false) (hf := by rfl) (hg := by kernel_rfl) (hm := by kernel_rfl)
    · rfl
    dsimp only [List.nil_append, List.cons_append]
    apply relS_not (mask := [false, false, false, false, false, false, false, false, false, false, false, false, false, false, false, false, false, false, true, false, true]) (t := 21) (want := false) (hf := by rfl) (hg := by kernel_rfl) (hm := by kernel_rfl)
    · rfl
    dsimp only [List.nil_append, List.cons_append]
    apply relS_not (mask := [false, false, false, false, false, false, false, false, false, false, false, false, false, false, false, false, false, false, true, false, false, false]) (t := 21) (want := false) (hf := by rfl) (hg := by kernel_rfl) (hm := by kernel_rfl)
    · rfl
    dsimp only [List.nil_append, List.cons_append]
    apply relS_not (mask := [false, false, false, false, false, false, false, false, false, false, false, false, false, false, false, false, false, false, true, false, false, false, true]) (t := 21) (want := false) (hf := by rfl) (hg := by kernel_rfl) (hm := by kernel_rfl)
    · rfl
    dsimp only [List.nil_append, List.cons_append]
    apply relS_not (mask := [false, false, false, false, false, false, false, false, false, false, false, false, false, false, false, false, false, false, true, false, false, false, false, true]) (t := 21) (want := false) (hf := by rfl) (hg := by kernel_rfl) (hm := by kernel_rfl)
    · rfl
    dsimp only [List.nil_append, List.cons_append]
    apply relS_not (mask := [false, false, false, false, false, false, false, false, false, false, false, false, false, false, false, false, false, false, true, false, false, true, false, false, true]) (t := 21) (want := false) (hf := by rfl) (hg := by kernel_rfl) (hm := by kernel_rfl)
    · rfl
    dsimp only [List.nil_append, List.cons_append]
    apply relS_not (mask := [false, false, false, false, false, false, false, false, false, false, false, false, false, false, false, false, false, false, true, false, false, false, false, false, false, true]) (t := 21) (want := false) (hf := by rfl) (hg := by kernel_rfl) (hm := by kernel_rfl)
    · rfl
    dsimp only [List.nil_append, List.cons_append]
    apply relS_det (mask := [false, false, false, false, false, false, false, false, false, false, false, false, false, false, false, false, false, false, true, false, false, false, false, false, false, false, true])
    · rfl
    · kernel_rfl
    · kernel_rfl
    · dsimp only [oblS]
      rintro w9 h9
      go_simp
      exact ⟨Below.refl _ _, rfl⟩
    dsimp only [List.nil_append, List.cons_append]
    refine relS_end (by rfl) ?_
    dsimp only [finS]
    -- rintro  w8 hb
    rintro w8 h8
    go_simp
    go_wp2_with fail
    go_ret
    exact ⟨ret_int (by rw [HR.out]; rfl), hBW.trans (h8.mono hBW.size)⟩
  have d4 : decide (1073741824 < a) = false := decide_eq_false h4
  have hS1 := fun W => bsize_any a W (by omega) (by omega)
  have hS2 := fun W => bsize_any b W (by omega) (by omega)
  have hC := fun W => bcommon_any a.natAbs b.natAbs W (by omega) (by omega)
  obtain ⟨g, hg⟩ : ∃ g, Nat.gcd a.natAbs b.natAbs = g := ⟨_, rfl⟩
  rw [hg] at hC
  have HS1 := hidp hS1
  have HS2 := hidp hS2
  have HC := hidp hC
  obtain ⟨p, hp⟩ : ∃ p, a.natAbs = p := ⟨_, rfl⟩
  obtain ⟨r, hr⟩ : ∃ p, b.natAbs = p := ⟨_, rfl⟩
  rw [hp] at HS1
  rw [hr] at HS2
  rw [hp, hr] at HC
  have HR : Hid (ratB a b = decide (g = 1)) := by show _ = _; simp [ratB, hg]; omega
  clear hg hC hS1 hS2 hp hr
  obtain ⟨q, hq⟩ : ∃ q, ((g : Int) != 1) = q := ⟨_, rfl⟩
  have HQ : Hid (decide (g = 1) = !q) := by
    show _ = _
    rw [← hq, Bool.eq_iff_iff]
    simp
    omega
  go_enter Tryd.func63, Tryd.ntmps63
  go_wp2_with fail
  rw [HW0.out]
  refine wp_region_S W0.heap.size 28 (fun _ => false) (Nat.le_refl _) (by kernel_rfl) (by kernel_rfl) (by kernel_rfl) ?_
  dsimp only [List.take, List.drop]
  apply relS_det (mask := [])
  · rfl
  · kernel_rfl
  · kernel_rfl
  · dsimp only [oblS]
    rintro w9 h9
    go_simp
    exact ⟨Below.refl _ _, rfl⟩
  dsimp only [List.nil_append, List.cons_append]
  apply relS_det (mask := [true])
  · rfl
  · kernel_rfl
  · kernel_rfl
  · dsimp only [oblS]
    rintro w9 h9
    have hc9 := (bcell h9).1
    go_simp
    exact ⟨Below.refl _ _, rfl⟩
  dsimp only [List.nil_append, List.cons_append]
  apply relS_det (mask := [false, true]) (x := .bool false)
  · rfl
  · kernel_rfl
  · kernel_rfl
  · dsimp only [oblS]
    rintro w9 h9
    go_simp
    exact ⟨Below.refl _ _, rfl⟩
  dsimp only [List.nil_append, List.cons_append]
  apply relS_det (mask := [false, false, true])
  · rfl
  · kernel_rfl
  · kernel_rfl
  · dsimp only [oblS]
    rintro w9 h9
    go_simp
    exact ⟨Below.refl _ _, rfl⟩
  dsimp only [List.nil_append, List.cons_append]
  apply relS_detg (mask := [false, false, false, true]) (t := 6) (want := false)
  · rfl
  · kernel_rfl
  · kernel_rfl
  · dsimp only [oblS]
    refine ⟨by rfl, ?_⟩
    rintro w9 h9
    go_simp
    exact ⟨Below.refl _ _, rfl⟩
  dsimp only [List.nil_append, List.cons_append]
  apply relS_detg (mask := [false, false, false, true, true]) (t := 6) (want := false)
  · rfl
  · kernel_rfl
  · kernel_rfl
  · dsimp only [oblS]
    refine ⟨by rfl, ?_⟩
    rintro w9 h9
    have hc9 := (bcell h9).1
    go_simp
    exact ⟨Below.refl _ _, rfl⟩
  dsimp only [List.nil_append, List.cons_append]
  apply relS_detg (mask := [false, false, false, true, false, true]) (t := 6) (want := false) (x := .bool false)
  · rfl
  · kernel_rfl
  · kernel_rfl
  · dsimp only [oblS]
    refine ⟨by rfl, ?_⟩
    rintro w9 h9
    go_simp
    exact ⟨Below.refl _ _, rfl⟩
  dsimp only [List.nil_append, List.cons_append]
  apply relS_det (mask := [false, false, false, true, false, false, true])
  · rfl
  · kernel_rfl
  · kernel_rfl
  · dsimp only [oblS]
    rintro w9 h9
    go_simp
    exact ⟨Below.refl _ _, rfl⟩
  dsimp only [List.nil_append, List.cons_append]
  apply relS_det (mask := [false, false, false, false, false, false, false, true])
  · rfl
  · kernel_rfl
  · kernel_rfl
  · dsimp only [oblS]
    rintro w9 h9
    go_simp
    exact ⟨Below.refl _ _, rfl⟩
  dsimp only [List.nil_append, List.cons_append]
  apply relS_detg (mask := [false, false, false, false, false, false, false, false, true]) (t := 11) (want := false)
  · rfl
  · kernel_rfl
  · kernel_rfl
  · dsimp only [oblS]
    refine ⟨by rfl, ?_⟩
    rintro w9 h9
    go_simp
    exact ⟨Below.refl _ _, rfl⟩
  dsimp only [List.nil_append, List.cons_append]
  apply relS_detg (mask := [false, false, false, false, false, false, false, false, true, true]) (t := 11) (want := false)
  · rfl
  · kernel_rfl
  · kernel_rfl
  · dsimp only [oblS]
    refine ⟨by rfl, ?_⟩
    rintro w9 h9
    have hc9 := (bcell h9).1
    go_simp
    exact ⟨Below.refl _ _, rfl⟩
  dsimp only [List.nil_append, List.cons_append]
  apply relS_detg (mask := [false, false, false, false, false, false, false, false, true, false, true]) (t := 11) (want := false) (x := .bool false)
  · rfl
  · kernel_rfl
  · kernel_rfl
  · dsimp only [oblS]
    refine ⟨by rfl, ?_⟩
    rintro w9 h9
    go_simp
    exact ⟨Below.refl _ _, rfl⟩
  dsimp only [List.nil_append, List.cons_append]
  apply relS_det (mask := [false, false, false, false, false, false, false, false, true, false, false, true])
  · rfl
  · kernel_rfl
  · kernel_rfl
  · dsimp only [oblS]
    rintro w9 h9
    go_simp
    exact ⟨Below.refl _ _, rfl⟩
  dsimp only [List.nil_append, List.cons_append]
  apply relS_det (mask := [false, false, false, false, false, false, false, false, false, false, false, false, true])
  · rfl
  · kernel_rfl
  · kernel_rfl
  · dsimp only [oblS]
    rintro w9 h9
    go_simp
    exact ⟨Below.refl _ _, rfl⟩
  dsimp only [List.nil_append, List.cons_append]
  apply relS_detg (mask := [false, false, false, false, false, false, false, false, false, false, false, false, false, true]) (t := 16) (want := false)
  · rfl
  · kernel_rfl
  · kernel_rfl
  · dsimp only [oblS]
    refine ⟨by rfl, ?_⟩
    rintro w9 h9
    go_simp
    exact ⟨Below.refl _ _, rfl⟩
  dsimp only [List.nil_append, List.cons_append]
  apply relS_detg (mask := [false, false, false, false, false, false, false, false, false, false, false, false, false, true, true]) (t := 16) (want := false)
  · rfl
  · kernel_rfl
  · kernel_rfl
  · dsimp only [oblS]
    refine ⟨by rfl, ?_⟩
    rintro w9 h9
    have hc9 := (bcell h9).1
    go_simp
    exact ⟨Below.refl _ _, rfl⟩
  dsimp only [List.nil_append, List.cons_append]
  apply relS_detg (mask := [false, false, false, false, false, false, false, false, false, false, false, false, false, true, false, true]) (t := 16) (want := false) (x := .bool false)
  · rfl
  · kernel_rfl
  · kernel_rfl
  · dsimp only [oblS]
    refine ⟨by rfl, ?_⟩
    rintro w9 h9
    go_simp
    exact ⟨Below.refl _ _, rfl⟩
  dsimp only [List.nil_append, List.cons_append]
  apply relS_det (mask := [false, false, false, false, false, false, false, false, false, false, false, false, false, true, false, false, true])
  · rfl
  · kernel_rfl
  · kernel_rfl
  · dsimp only [oblS]
    rintro w9 h9
    go_simp
    exact ⟨Below.refl _ _, rfl⟩
  dsimp only [List.nil_append, List.cons_append]
  apply relS_det (mask := [false, false, false, false, false, false, false, false, false, false, false, false, false, false, false, false, false, true])
  · rfl
  · kernel_rfl
  · kernel_rfl
  · dsimp only [oblS]
    rintro w9 h9
    go_simp
    exact ⟨Below.refl _ _, rfl⟩
  dsimp only [List.nil_append, List.cons_append]
  apply relS_detg (mask := [false, false, false, false, false, false, false, false, false, false, false, false, false, false, false, false, false, false, true]) (t := 21) (want := false)
  · rfl
  · kernel_rfl
  · kernel_rfl
  · dsimp only [oblS]
    refine ⟨by rfl, ?_⟩
    rintro w9 h9
    go_simp
    exact ⟨Below.refl _ _, rfl⟩
  dsimp only [List.nil_append, List.cons_append]
  apply relS_detg (mask := [false, false, false, false, false, false, false, false, false, false, false, false, false, false, false, false, false, false, true, true]) (t := 21) (want := false)
  · rfl
  · kernel_rfl
  · kernel_rfl
  · dsimp only [oblS]
    refine ⟨by rfl, ?_⟩
    rintro w9 h9
    have hc9 := (bcell h9).1
    go_simp
    exact ⟨Below.refl _ _, rfl⟩
  dsimp only [List.nil_append, List.cons_append]
  apply relS_detg (mask := [false, false, false, false, false, false, false, false, false, false, false, false, false, false, false, false, false, false, true, false, true]) (t := 21) (want := false) (x := .int .u64 (p : Nat))
  · rfl
  · kernel_rfl
  · kernel_rfl
  · dsimp only [oblS]
    refine ⟨by rfl, ?_⟩
    rintro w9 h9
    go_simp
    refine (HS1.out w9).mono ?_
    rintro e w1 ⟨rfl, rfl⟩
    exact ⟨_, rfl, Below.refl _ _, rfl⟩
  dsimp only [List.nil_append, List.cons_append]
  apply relS_detg (mask := [false, false, false, false, false, false, false, false, false, false, false, false, false, false, false, false, false, false, true, false, false, false]) (t := 21) (want := false)
  · rfl
  · kernel_rfl
  · kernel_rfl
  · dsimp only [oblS]
    refine ⟨by rfl, ?_⟩
    rintro w9 h9
    go_simp
    exact ⟨Below.refl _ _, rfl⟩
  dsimp only [List.nil_append, List.cons_append]
  apply relS_detg (mask := [false, false, false, false, false, false, false, false, false, false, false, false, false, false, false, false, false, false, true, false, false, false, true]) (t := 21) (want := false)
  · rfl
  · kernel_rfl
  · kernel_rfl
  · dsimp only [oblS]
    refine ⟨by rfl, ?_⟩
    rintro w9 h9
    have hc9 := (bcell h9).1
    go_simp
    exact ⟨Below.refl _ _, rfl⟩
  dsimp only [List.nil_append, List.cons_append]
  apply relS_detg (mask := [false, false, false, false, false, false, false, false, false, false, false, false, false, false, false, false, false, false, true, false, false, false, false, true]) (t := 21) (want := false) (x := .int .u64 (r : Nat))
  · rfl
  · kernel_rfl
  · kernel_rfl
  · dsimp only [oblS]
    refine ⟨by rfl, ?_⟩
    rintro w9 h9
    go_simp
    refine (HS2.out w9).mono ?_
    rintro e w1 ⟨rfl, rfl⟩
    exact ⟨_, rfl, Below.refl _ _, rfl⟩
  dsimp only [List.nil_append, List.cons_append]
  apply relS_detg (mask := [false, false, false, false, false, false, false, false, false, false, false, false, false, false, false, false, false, false, true, false, false, true, false, false, true]) (t := 21) (want := false) (x := .int .u64 (g : Nat))
  · rfl
  · kernel_rfl
  · kernel_rfl
  · dsimp only [oblS]
    refine ⟨by rfl, ?_⟩
    rintro w9 h9
    go_simp
    refine (HC.out w9).mono ?_
    rintro e w1 ⟨rfl, hb⟩
    exact ⟨_, rfl, hb, rfl⟩
  dsimp only [List.nil_append, List.cons_append]
  apply relS_detg (mask := [false, false, false, false, false, false, false, false, false, false, false, false, false, false, false, false, false, false, true, false, false, false, false, false, false, true]) (t := 21) (want := false) (x := .bool q)
  · rfl
  · kernel_rfl
  · kernel_rfl
  · dsimp only [oblS]
    refine ⟨by rfl, ?_⟩
    rintro w9 h9
    go_simp
    exact ⟨Below.refl _ _, rfl⟩
  dsimp only [List.nil_append, List.cons_append]
  apply relS_det (mask := [false, false, false, false, false, false, false, false, false, false, false, false, false, false, false, false, false, false, true, false, false, false, false, false, false, false, true])
  · rfl
  · kernel_rfl
  · kernel_rfl
  · dsimp only [oblS]
    rintro w9 h9
    go_simp
    exact ⟨Below.refl _ _, rfl⟩
  dsimp only [List.nil_append, List.cons_append]
  refine relS_end (by rfl) ?_
  dsimp only [finS]
  -- rintro  w8 hb
  rintro w8 h8
  clear hq
  cases q
  all_goals
    go_simp
    go_wp2_with fail
    go_ret
    exact ⟨ret_int (by rw [HR.out, HQ.out]; rfl), hBW.trans (h8.mono hBW.size)⟩


set_option maxHeartbeats 400000 in
theorem vcourse_any (n : Int) (w : World) : Calls Tryd.prog 49 #[.int .i64 n] w fun e w' => e = .returned (.bool (courseB n)) ∧ w = w' := by
  by_cases h1 : 0 ≤ n
  · have HR : Hid (courseB n = decide (n < 4096)) := by show _ = _; simp [courseB, withinB, h1]; omega
    go_enter Tryd.func49, Tryd.ntmps49
    go_wp2_with fail
    go_ret
    exact ⟨ret_bool HR.out.symm, rfl⟩
  · have HR : Hid (courseB n = false) := by show _ = _; simp [courseB, withinB, h1]
    go_enter Tryd.func49, Tryd.ntmps49
    go_wp2_with fail
    go_ret
    exact ⟨ret_bool HR.out.symm, rfl⟩
set_option maxHeartbeats 400000 in
theorem vAtom_any (n : Int) (w : World) : Calls Tryd.prog 41 #[.int .i64 n] w fun e w' => e = .returned (.bool (withinB n 5 9)) ∧ w = w' := by
  by_cases h1 : 5 ≤ n
  · have HR : Hid (withinB n 5 9 = decide (n ≤ 9)) := by show _ = _; simp [withinB, h1]
    go_enter Tryd.func41, Tryd.ntmps41
    go_wp2_with fail
    go_ret
    exact ⟨ret_bool HR.out.symm, rfl⟩
  · have HR : Hid (withinB n 5 9 = false) := by show _ = _; simp [withinB, h1]
    go_enter Tryd.func41, Tryd.ntmps41
    go_wp2_with fail
    go_ret
    exact ⟨ret_bool HR.out.symm, rfl⟩

set_option maxRecDepth 100000 in
set_option maxHeartbeats 1000000 in
theorem vmean_any (a b : Int) (w : World) : Calls Tryd.prog 50 #[.agg #[.int .i64 a, .int .i64 b]] w fun e w' => e = .returned (.bool (meanB a b)) ∧ Below w.heap.size w w' := by
  have hB : Below w.heap.size w (w.alloc (.cells #[.int .i64 a, .int .i64 b] 27)) := (Below.refl _ _).alloc (Nat.le_refl _) _
  have HB := hidp hB
  have HNew := hidp (World.alloc_heap_new w (.cells #[.int .i64 a, .int .i64 b] 27))
  have hC := fun W => bCheck_any a b W
  obtain ⟨W0, hW0⟩ : ∃ W0, w.alloc (.cells #[.int .i64 a, .int .i64 b] 27) = W0 := ⟨_, rfl⟩
  have hBW : Below w.heap.size w W0 := hW0 ▸ hB
  have g1 : W0.heap[w.heap.size]? = some (.cells #[.int .i64 a, .int .i64 b] 27 (0, 0)) := hW0 ▸ World.alloc_heap_new _ _
  have lz := lt_of_heap g1
  have HW0 := hidp hW0
  have G1 := hidp g1
  clear hB HB HNew hW0 g1
  have x0 := cell_of_heap (o := 0) G1.out
  have x1 := cell_of_heap (o := 1) G1.out
  simp only [List.getElem?_toArray, List.getElem?_cons_zero, List.getElem?_cons_succ] at x0 x1
  cases hr : ratB a b with
  | false =>
    have HR : Hid (meanB a b = false) := by show _ = _; simp [meanB, hr]
    rw [hr] at hC
    dsimp only [okOr] at hC
    have HC := hidp hC
    clear hC hr
    go_enter Tryd.func50, Tryd.ntmps50
    go_wp2_with fail
    rw [HW0.out]
    refine (HC.out _).mono ?_
    rintro e w1 ⟨rfl, hb1⟩
    go_wp2_with fail
    go_ret
    exact ⟨ret_bool HR.out.symm, hBW.trans (hb1.mono hBW.size)⟩
  | true =>
    rw [hr] at hC
    dsimp only [okOr] at hC
    have HC := hidp hC
    obtain ⟨b1, b2, b3, b4⟩ := rat_bd hr
    by_cases h0 : 0 ≤ a
    · have HR : Hid (meanB a b = decide (a ≤ 12 * b)) := by show _ = _; simp [meanB, hr, h0]
      clear hC hr
      go_enter Tryd.func50, Tryd.ntmps50
      go_wp2_with fail
      rw [HW0.out]
      refine (HC.out _).mono ?_
      rintro e w1 ⟨rfl, hb1⟩
      have e1 := (hb1.block _ lz).trans G1.out
      have y0 := cell_of_heap (o := 0) e1
      have y1 := cell_of_heap (o := 1) e1
      simp only [List.getElem?_toArray, List.getElem?_cons_zero, List.getElem?_cons_succ] at y0 y1
      clear e1
      go_wp2_with fail
      go_ret
      exact ⟨ret_bool HR.out.symm, hBW.trans (hb1.mono hBW.size)⟩
    · have HR : Hid (meanB a b = false) := by show _ = _; simp [meanB, hr, h0]
      clear hC hr
      go_enter Tryd.func50, Tryd.ntmps50
      go_wp2_with fail
      rw [HW0.out]
      refine (HC.out _).mono ?_
      rintro e w1 ⟨rfl, hb1⟩
      have e1 := (hb1.block _ lz).trans G1.out
      have y0 := cell_of_heap (o := 0) e1
      have y1 := cell_of_heap (o := 1) e1
      simp only [List.getElem?_toArray, List.getElem?_cons_zero, List.getElem?_cons_succ] at y0 y1
      clear e1
      go_wp2_with fail
      go_ret
      exact ⟨ret_bool HR.out.symm, hBW.trans (hb1.mono hBW.size)⟩


end Go.Proofs.YtbmbpannhncpjaaDoor

/- The reference's formed (printed by tools/gen90.py). -/
namespace Go.Proofs.YtbmbpannhncpjaaDoor
open Go.RowKit Go.Sort

/-- As formedB, of a part's numbers. -/
def formedN (op c n d : Int) (k : Nat) : Bool := withinB op 1 9 && (useC op || decide (c = 0)) && (useN op || decide (n = 0)) && (useD op || decide (d = 0)) && (useK op || decide (k = 0)) && rightB op c n d k
theorem formedB_N (x : Ru) : formedB x = formedN x.op x.course x.n x.d x.kids.length := rfl

set_option maxRecDepth 100000 in
set_option maxHeartbeats 8000000 in
theorem vformed_any (op c n d : Int) (nm : ByteArray) (A : Option Addr) (kn kc : Nat) (w : World) : Calls Tryd.prog 62 #[.agg #[.int .i64 op, .int .i64 c, .string nm, .int .i64 n, .int .i64 d, .slice A kn kc]] w fun e w' => e = .returned (.bool (formedN op c n d kn)) ∧ Below w.heap.size w w' := by
  obtain ⟨W0, hW0⟩ : ∃ W0, w.alloc (.cells #[.int .i64 op, .int .i64 c, .string nm, .int .i64 n, .int .i64 d, .slice A kn kc] 24) = W0 := ⟨_, rfl⟩
  have hBW : Below w.heap.size w W0 := hW0 ▸ (Below.refl _ w).alloc (Nat.le_refl _) _
  have g1 : W0.heap[w.heap.size]? = some (.cells #[.int .i64 op, .int .i64 c, .string nm, .int .i64 n, .int .i64 d, .slice A kn kc] 24 (0, 0)) := hW0 ▸ World.alloc_heap_new _ _
  have lz := lt_of_heap g1
  have HW0 := hidp hW0
  have x0 := cell_of_heap (o := 0) g1
  have x1 := cell_of_heap (o := 1) g1
  have x2 := cell_of_heap (o := 2) g1
  have x3 := cell_of_heap (o := 3) g1
  have x4 := cell_of_heap (o := 4) g1
  have x5 := cell_of_heap (o := 5) g1
  simp only [List.getElem?_toArray, List.getElem?_cons_zero, List.getElem?_cons_succ] at x0 x1 x2 x3 x4 x5
  clear hW0 g1
  by_cases o1 : op = 1
  · skip
    subst o1
    have HAt : Hid (withinB 1 5 9 = false) := by show _ = _; rfl
    by_cases hc : c = 0
    rotate_left
    · skip
      have e1 : (c == 0) = false := by simpa using hc
      have e2 : (c != 0) = true := by simpa using hc
      have HR : Hid (formedN 1 c n d kn = false) := by show _ = _; simp [formedN, withinB, useC, useN, useD, useK, rightB, hc]
      go_enter Tryd.func62, Tryd.ntmps62
      go_wp2_with fail
      rw [HW0.out]
      go_wp2_with (first | (go_at_call 41; refine (vAtom_any _ _).mono ?_; rintro e w1 ⟨rfl, rfl⟩; rw [HAt.out]) | (go_at_call 49; refine (vcourse_any _ _).mono ?_; rintro e w1 ⟨rfl, rfl⟩; first | rw [HC.out] | skip) | (go_at_call 50; refine (vmean_any _ _ _).mono ?_; rintro e w1 ⟨rfl, hb1⟩))
      go_ret
      exact ⟨ret_bool HR.out.symm, hBW⟩
    subst hc
    by_cases hn : n = 0
    rotate_left
    · skip
      have e1 : (n == 0) = false := by simpa using hn
      have e2 : (n != 0) = true := by simpa using hn
      have HR : Hid (formedN 1 0 n d kn = false) := by show _ = _; simp [formedN, withinB, useC, useN, useD, useK, rightB, hn]
      go_enter Tryd.func62, Tryd.ntmps62
      go_wp2_with fail
      rw [HW0.out]
      go_wp2_with (first | (go_at_call 41; refine (vAtom_any _ _).mono ?_; rintro e w1 ⟨rfl, rfl⟩; rw [HAt.out]) | (go_at_call 49; refine (vcourse_any _ _).mono ?_; rintro e w1 ⟨rfl, rfl⟩; first | rw [HC.out] | skip) | (go_at_call 50; refine (vmean_any _ _ _).mono ?_; rintro e w1 ⟨rfl, hb1⟩))
      go_ret
      exact ⟨ret_bool HR.out.symm, hBW⟩
    subst hn
    by_cases hd : d = 0
    rotate_left
    · skip
      have e1 : (d == 0) = false := by simpa using hd
      have e2 : (d != 0) = true := by simpa using hd
      have HR : Hid (formedN 1 0 0 d kn = false) := by show _ = _; simp [formedN, withinB, useC, useN, useD, useK, rightB, hd]
      go_enter Tryd.func62, Tryd.ntmps62
      go_wp2_with fail
      rw [HW0.out]
      go_wp2_with (first | (go_at_call 41; refine (vAtom_any _ _).mono ?_; rintro e w1 ⟨rfl, rfl⟩; rw [HAt.out]) | (go_at_call 49; refine (vcourse_any _ _).mono ?_; rintro e w1 ⟨rfl, rfl⟩; first | rw [HC.out] | skip) | (go_at_call 50; refine (vmean_any _ _ _).mono ?_; rintro e w1 ⟨rfl, hb1⟩))
      go_ret
      exact ⟨ret_bool HR.out.symm, hBW⟩
    subst hd
    have HR : Hid (formedN 1 0 0 0 kn = true) := by show _ = _; simp [formedN, withinB, useC, useN, useD, useK, rightB]
    go_enter Tryd.func62, Tryd.ntmps62
    go_wp2_with fail
    rw [HW0.out]
    go_wp2_with (first | (go_at_call 41; refine (vAtom_any _ _).mono ?_; rintro e w1 ⟨rfl, rfl⟩; rw [HAt.out]) | (go_at_call 49; refine (vcourse_any _ _).mono ?_; rintro e w1 ⟨rfl, rfl⟩; first | rw [HC.out] | skip) | (go_at_call 50; refine (vmean_any _ _ _).mono ?_; rintro e w1 ⟨rfl, hb1⟩))
    go_ret
    exact ⟨ret_bool HR.out.symm, hBW⟩
  by_cases o2 : op = 2
  · skip
    subst o2
    have HAt : Hid (withinB 2 5 9 = false) := by show _ = _; rfl
    by_cases hc : c = 0
    rotate_left
    · skip
      have e1 : (c == 0) = false := by simpa using hc
      have e2 : (c != 0) = true := by simpa using hc
      have HR : Hid (formedN 2 c n d kn = false) := by show _ = _; simp [formedN, withinB, useC, useN, useD, useK, rightB, hc]
      go_enter Tryd.func62, Tryd.ntmps62
      go_wp2_with fail
      rw [HW0.out]
      go_wp2_with (first | (go_at_call 41; refine (vAtom_any _ _).mono ?_; rintro e w1 ⟨rfl, rfl⟩; rw [HAt.out]) | (go_at_call 49; refine (vcourse_any _ _).mono ?_; rintro e w1 ⟨rfl, rfl⟩; first | rw [HC.out] | skip) | (go_at_call 50; refine (vmean_any _ _ _).mono ?_; rintro e w1 ⟨rfl, hb1⟩))
      go_ret
      exact ⟨ret_bool HR.out.symm, hBW⟩
    subst hc
    by_cases hn : n = 0
    rotate_left
    · skip
      have e1 : (n == 0) = false := by simpa using hn
      have e2 : (n != 0) = true := by simpa using hn
      have HR : Hid (formedN 2 0 n d kn = false) := by show _ = _; simp [formedN, withinB, useC, useN, useD, useK, rightB, hn]
      go_enter Tryd.func62, Tryd.ntmps62
      go_wp2_with fail
      rw [HW0.out]
      go_wp2_with (first | (go_at_call 41; refine (vAtom_any _ _).mono ?_; rintro e w1 ⟨rfl, rfl⟩; rw [HAt.out]) | (go_at_call 49; refine (vcourse_any _ _).mono ?_; rintro e w1 ⟨rfl, rfl⟩; first | rw [HC.out] | skip) | (go_at_call 50; refine (vmean_any _ _ _).mono ?_; rintro e w1 ⟨rfl, hb1⟩))
      go_ret
      exact ⟨ret_bool HR.out.symm, hBW⟩
    subst hn
    by_cases hd : d = 0
    rotate_left
    · skip
      have e1 : (d == 0) = false := by simpa using hd
      have e2 : (d != 0) = true := by simpa using hd
      have HR : Hid (formedN 2 0 0 d kn = false) := by show _ = _; simp [formedN, withinB, useC, useN, useD, useK, rightB, hd]
      go_enter Tryd.func62, Tryd.ntmps62
      go_wp2_with fail
      rw [HW0.out]
      go_wp2_with (first | (go_at_call 41; refine (vAtom_any _ _).mono ?_; rintro e w1 ⟨rfl, rfl⟩; rw [HAt.out]) | (go_at_call 49; refine (vcourse_any _ _).mono ?_; rintro e w1 ⟨rfl, rfl⟩; first | rw [HC.out] | skip) | (go_at_call 50; refine (vmean_any _ _ _).mono ?_; rintro e w1 ⟨rfl, hb1⟩))
      go_ret
      exact ⟨ret_bool HR.out.symm, hBW⟩
    subst hd
    have HR : Hid (formedN 2 0 0 0 kn = true) := by show _ = _; simp [formedN, withinB, useC, useN, useD, useK, rightB]
    go_enter Tryd.func62, Tryd.ntmps62
    go_wp2_with fail
    rw [HW0.out]
    go_wp2_with (first | (go_at_call 41; refine (vAtom_any _ _).mono ?_; rintro e w1 ⟨rfl, rfl⟩; rw [HAt.out]) | (go_at_call 49; refine (vcourse_any _ _).mono ?_; rintro e w1 ⟨rfl, rfl⟩; first | rw [HC.out] | skip) | (go_at_call 50; refine (vmean_any _ _ _).mono ?_; rintro e w1 ⟨rfl, hb1⟩))
    go_ret
    exact ⟨ret_bool HR.out.symm, hBW⟩
  by_cases o3 : op = 3
  · skip
    subst o3
    have HAt : Hid (withinB 3 5 9 = false) := by show _ = _; rfl
    by_cases hc : c = 0
    rotate_left
    · skip
      have e1 : (c == 0) = false := by simpa using hc
      have e2 : (c != 0) = true := by simpa using hc
      have HR : Hid (formedN 3 c n d kn = false) := by show _ = _; simp [formedN, withinB, useC, useN, useD, useK, rightB, hc]
      go_enter Tryd.func62, Tryd.ntmps62
      go_wp2_with fail
      rw [HW0.out]
      go_wp2_with (first | (go_at_call 41; refine (vAtom_any _ _).mono ?_; rintro e w1 ⟨rfl, rfl⟩; rw [HAt.out]) | (go_at_call 49; refine (vcourse_any _ _).mono ?_; rintro e w1 ⟨rfl, rfl⟩; first | rw [HC.out] | skip) | (go_at_call 50; refine (vmean_any _ _ _).mono ?_; rintro e w1 ⟨rfl, hb1⟩))
      go_ret
      exact ⟨ret_bool HR.out.symm, hBW⟩
    subst hc
    by_cases hd : d = 0
    rotate_left
    · skip
      have e1 : (d == 0) = false := by simpa using hd
      have e2 : (d != 0) = true := by simpa using hd
      have HR : Hid (formedN 3 0 n d kn = false) := by show _ = _; simp [formedN, withinB, useC, useN, useD, useK, rightB, hd]
      go_enter Tryd.func62, Tryd.ntmps62
      go_wp2_with fail
      rw [HW0.out]
      go_wp2_with (first | (go_at_call 41; refine (vAtom_any _ _).mono ?_; rintro e w1 ⟨rfl, rfl⟩; rw [HAt.out]) | (go_at_call 49; refine (vcourse_any _ _).mono ?_; rintro e w1 ⟨rfl, rfl⟩; first | rw [HC.out] | skip) | (go_at_call 50; refine (vmean_any _ _ _).mono ?_; rintro e w1 ⟨rfl, hb1⟩))
      go_ret
      exact ⟨ret_bool HR.out.symm, hBW⟩
    subst hd
    by_cases h1 : 0 ≤ n
    rotate_left
    · skip
      have HR : Hid (formedN 3 0 n 0 kn = false) := by show _ = _; simp [formedN, withinB, useC, useN, useD, useK, rightB, h1]
      go_enter Tryd.func62, Tryd.ntmps62
      go_wp2_with fail
      rw [HW0.out]
      go_wp2_with (first | (go_at_call 41; refine (vAtom_any _ _).mono ?_; rintro e w1 ⟨rfl, rfl⟩; rw [HAt.out]) | (go_at_call 49; refine (vcourse_any _ _).mono ?_; rintro e w1 ⟨rfl, rfl⟩; first | rw [HC.out] | skip) | (go_at_call 50; refine (vmean_any _ _ _).mono ?_; rintro e w1 ⟨rfl, hb1⟩))
      go_ret
      exact ⟨ret_bool HR.out.symm, hBW⟩
    have HX : Hid (formedN 3 0 n 0 kn = decide (n ≤ 200)) := by show _ = _; simp [formedN, withinB, useC, useN, useD, useK, rightB, h1]
    go_enter Tryd.func62, Tryd.ntmps62
    go_wp2_with fail
    rw [HW0.out]
    go_wp2_with (first | (go_at_call 41; refine (vAtom_any _ _).mono ?_; rintro e w1 ⟨rfl, rfl⟩; rw [HAt.out]) | (go_at_call 49; refine (vcourse_any _ _).mono ?_; rintro e w1 ⟨rfl, rfl⟩; first | rw [HC.out] | skip) | (go_at_call 50; refine (vmean_any _ _ _).mono ?_; rintro e w1 ⟨rfl, hb1⟩))
    go_ret
    exact ⟨ret_bool HX.out.symm, hBW⟩
  by_cases o4 : op = 4
  · skip
    subst o4
    have HAt : Hid (withinB 4 5 9 = false) := by show _ = _; rfl
    by_cases hc : c = 0
    rotate_left
    · skip
      have e1 : (c == 0) = false := by simpa using hc
      have e2 : (c != 0) = true := by simpa using hc
      have HR : Hid (formedN 4 c n d kn = false) := by show _ = _; simp [formedN, withinB, useC, useN, useD, useK, rightB, hc]
      go_enter Tryd.func62, Tryd.ntmps62
      go_wp2_with fail
      rw [HW0.out]
      go_wp2_with (first | (go_at_call 41; refine (vAtom_any _ _).mono ?_; rintro e w1 ⟨rfl, rfl⟩; rw [HAt.out]) | (go_at_call 49; refine (vcourse_any _ _).mono ?_; rintro e w1 ⟨rfl, rfl⟩; first | rw [HC.out] | skip) | (go_at_call 50; refine (vmean_any _ _ _).mono ?_; rintro e w1 ⟨rfl, hb1⟩))
      go_ret
      exact ⟨ret_bool HR.out.symm, hBW⟩
    subst hc
    by_cases hn : n = 0
    rotate_left
    · skip
      have e1 : (n == 0) = false := by simpa using hn
      have e2 : (n != 0) = true := by simpa using hn
      have HR : Hid (formedN 4 0 n d kn = false) := by show _ = _; simp [formedN, withinB, useC, useN, useD, useK, rightB, hn]
      go_enter Tryd.func62, Tryd.ntmps62
      go_wp2_with fail
      rw [HW0.out]
      go_wp2_with (first | (go_at_call 41; refine (vAtom_any _ _).mono ?_; rintro e w1 ⟨rfl, rfl⟩; rw [HAt.out]) | (go_at_call 49; refine (vcourse_any _ _).mono ?_; rintro e w1 ⟨rfl, rfl⟩; first | rw [HC.out] | skip) | (go_at_call 50; refine (vmean_any _ _ _).mono ?_; rintro e w1 ⟨rfl, hb1⟩))
      go_ret
      exact ⟨ret_bool HR.out.symm, hBW⟩
    subst hn
    by_cases hd : d = 0
    rotate_left
    · skip
      have e1 : (d == 0) = false := by simpa using hd
      have e2 : (d != 0) = true := by simpa using hd
      have HR : Hid (formedN 4 0 0 d kn = false) := by show _ = _; simp [formedN, withinB, useC, useN, useD, useK, rightB, hd]
      go_enter Tryd.func62, Tryd.ntmps62
      go_wp2_with fail
      rw [HW0.out]
      go_wp2_with (first | (go_at_call 41; refine (vAtom_any _ _).mono ?_; rintro e w1 ⟨rfl, rfl⟩; rw [HAt.out]) | (go_at_call 49; refine (vcourse_any _ _).mono ?_; rintro e w1 ⟨rfl, rfl⟩; first | rw [HC.out] | skip) | (go_at_call 50; refine (vmean_any _ _ _).mono ?_; rintro e w1 ⟨rfl, hb1⟩))
      go_ret
      exact ⟨ret_bool HR.out.symm, hBW⟩
    subst hd
    have HX : Hid (formedN 4 0 0 0 kn = decide (kn = 1)) := by show _ = _; simp [formedN, withinB, useC, useN, useD, useK, rightB]
    go_enter Tryd.func62, Tryd.ntmps62
    go_wp2_with fail
    rw [HW0.out]
    go_wp2_with (first | (go_at_call 41; refine (vAtom_any _ _).mono ?_; rintro e w1 ⟨rfl, rfl⟩; rw [HAt.out]) | (go_at_call 49; refine (vcourse_any _ _).mono ?_; rintro e w1 ⟨rfl, rfl⟩; first | rw [HC.out] | skip) | (go_at_call 50; refine (vmean_any _ _ _).mono ?_; rintro e w1 ⟨rfl, hb1⟩))
    go_ret
    exact ⟨ret_bool (by rw [HX.out, Bool.eq_iff_iff]; simp; omega), hBW⟩
  by_cases o5 : op = 5
  · skip
    subst o5
    have HAt : Hid (withinB 5 5 9 = true) := by show _ = _; rfl
    by_cases hd : d = 0
    rotate_left
    · skip
      have e1 : (d == 0) = false := by simpa using hd
      have e2 : (d != 0) = true := by simpa using hd
      have HR : Hid (formedN 5 c n d kn = false) := by show _ = _; simp [formedN, withinB, useC, useN, useD, useK, rightB, hd]
      go_enter Tryd.func62, Tryd.ntmps62
      go_wp2_with fail
      rw [HW0.out]
      go_wp2_with (first | (go_at_call 41; refine (vAtom_any _ _).mono ?_; rintro e w1 ⟨rfl, rfl⟩; rw [HAt.out]) | (go_at_call 49; refine (vcourse_any _ _).mono ?_; rintro e w1 ⟨rfl, rfl⟩; first | rw [HC.out] | skip) | (go_at_call 50; refine (vmean_any _ _ _).mono ?_; rintro e w1 ⟨rfl, hb1⟩))
      go_ret
      exact ⟨ret_bool HR.out.symm, hBW⟩
    subst hd
    by_cases hk : 0 < kn
    · skip
      have HR : Hid (formedN 5 c n 0 kn = false) := by show _ = _; simp [formedN, withinB, useC, useN, useD, useK, rightB, show ¬ kn = 0 by omega]
      go_enter Tryd.func62, Tryd.ntmps62
      go_wp2_with fail
      rw [HW0.out]
      go_wp2_with (first | (go_at_call 41; refine (vAtom_any _ _).mono ?_; rintro e w1 ⟨rfl, rfl⟩; rw [HAt.out]) | (go_at_call 49; refine (vcourse_any _ _).mono ?_; rintro e w1 ⟨rfl, rfl⟩; first | rw [HC.out] | skip) | (go_at_call 50; refine (vmean_any _ _ _).mono ?_; rintro e w1 ⟨rfl, hb1⟩))
      go_ret
      exact ⟨ret_bool HR.out.symm, hBW⟩
    have hk0 : kn = 0 := by omega
    have HK0 := hidp hk0
    clear hk0
    obtain ⟨qc, hqc⟩ : ∃ q, courseB c = q := ⟨_, rfl⟩
    have HC := hidp hqc
    cases qc
    · skip
      have hcc := hqc
      simp only [courseB, withinB] at hcc
      have HR : Hid (formedN 5 c n 0 kn = false) := by show _ = _; simp only [formedN, rightB]; simp [hqc]
      clear hqc hcc
      go_enter Tryd.func62, Tryd.ntmps62
      go_wp2_with fail
      rw [HW0.out]
      go_wp2_with (first | (go_at_call 41; refine (vAtom_any _ _).mono ?_; rintro e w1 ⟨rfl, rfl⟩; rw [HAt.out]) | (go_at_call 49; refine (vcourse_any _ _).mono ?_; rintro e w1 ⟨rfl, rfl⟩; first | rw [HC.out] | skip) | (go_at_call 50; refine (vmean_any _ _ _).mono ?_; rintro e w1 ⟨rfl, hb1⟩))
      go_ret
      exact ⟨ret_bool HR.out.symm, hBW⟩
    clear hqc
    by_cases h1 : 0 ≤ n
    rotate_left
    · skip
      have HR : Hid (formedN 5 c n 0 kn = false) := by show _ = _; simp [formedN, rightB, withinB, useC, useN, useD, useK, h1]
      go_enter Tryd.func62, Tryd.ntmps62
      go_wp2_with fail
      rw [HW0.out]
      go_wp2_with (first | (go_at_call 41; refine (vAtom_any _ _).mono ?_; rintro e w1 ⟨rfl, rfl⟩; rw [HAt.out]) | (go_at_call 49; refine (vcourse_any _ _).mono ?_; rintro e w1 ⟨rfl, rfl⟩; first | rw [HC.out] | skip) | (go_at_call 50; refine (vmean_any _ _ _).mono ?_; rintro e w1 ⟨rfl, hb1⟩))
      go_ret
      exact ⟨ret_bool HR.out.symm, hBW⟩
    have HX : Hid (formedN 5 c n 0 kn = decide (n ≤ 12)) := by show _ = _; simp [formedN, rightB, HC.out, HK0.out, withinB, useC, useN, useD, useK, h1]
    go_enter Tryd.func62, Tryd.ntmps62
    go_wp2_with fail
    rw [HW0.out]
    go_wp2_with (first | (go_at_call 41; refine (vAtom_any _ _).mono ?_; rintro e w1 ⟨rfl, rfl⟩; rw [HAt.out]) | (go_at_call 49; refine (vcourse_any _ _).mono ?_; rintro e w1 ⟨rfl, rfl⟩; first | rw [HC.out] | skip) | (go_at_call 50; refine (vmean_any _ _ _).mono ?_; rintro e w1 ⟨rfl, hb1⟩))
    go_ret
    exact ⟨ret_bool HX.out.symm, hBW⟩
  by_cases o6 : op = 6
  · skip
    subst o6
    have HAt : Hid (withinB 6 5 9 = true) := by show _ = _; rfl
    by_cases hd : d = 0
    rotate_left
    · skip
      have e1 : (d == 0) = false := by simpa using hd
      have e2 : (d != 0) = true := by simpa using hd
      have HR : Hid (formedN 6 c n d kn = false) := by show _ = _; simp [formedN, withinB, useC, useN, useD, useK, rightB, hd]
      go_enter Tryd.func62, Tryd.ntmps62
      go_wp2_with fail
      rw [HW0.out]
      go_wp2_with (first | (go_at_call 41; refine (vAtom_any _ _).mono ?_; rintro e w1 ⟨rfl, rfl⟩; rw [HAt.out]) | (go_at_call 49; refine (vcourse_any _ _).mono ?_; rintro e w1 ⟨rfl, rfl⟩; first | rw [HC.out] | skip) | (go_at_call 50; refine (vmean_any _ _ _).mono ?_; rintro e w1 ⟨rfl, hb1⟩))
      go_ret
      exact ⟨ret_bool HR.out.symm, hBW⟩
    subst hd
    by_cases hk : 0 < kn
    · skip
      have HR : Hid (formedN 6 c n 0 kn = false) := by show _ = _; simp [formedN, withinB, useC, useN, useD, useK, rightB, show ¬ kn = 0 by omega]
      go_enter Tryd.func62, Tryd.ntmps62
      go_wp2_with fail
      rw [HW0.out]
      go_wp2_with (first | (go_at_call 41; refine (vAtom_any _ _).mono ?_; rintro e w1 ⟨rfl, rfl⟩; rw [HAt.out]) | (go_at_call 49; refine (vcourse_any _ _).mono ?_; rintro e w1 ⟨rfl, rfl⟩; first | rw [HC.out] | skip) | (go_at_call 50; refine (vmean_any _ _ _).mono ?_; rintro e w1 ⟨rfl, hb1⟩))
      go_ret
      exact ⟨ret_bool HR.out.symm, hBW⟩
    have hk0 : kn = 0 := by omega
    have HK0 := hidp hk0
    clear hk0
    obtain ⟨qc, hqc⟩ : ∃ q, courseB c = q := ⟨_, rfl⟩
    have HC := hidp hqc
    cases qc
    · skip
      have hcc := hqc
      simp only [courseB, withinB] at hcc
      have HR : Hid (formedN 6 c n 0 kn = false) := by show _ = _; simp only [formedN, rightB]; simp [hqc]
      clear hqc hcc
      go_enter Tryd.func62, Tryd.ntmps62
      go_wp2_with fail
      rw [HW0.out]
      go_wp2_with (first | (go_at_call 41; refine (vAtom_any _ _).mono ?_; rintro e w1 ⟨rfl, rfl⟩; rw [HAt.out]) | (go_at_call 49; refine (vcourse_any _ _).mono ?_; rintro e w1 ⟨rfl, rfl⟩; first | rw [HC.out] | skip) | (go_at_call 50; refine (vmean_any _ _ _).mono ?_; rintro e w1 ⟨rfl, hb1⟩))
      go_ret
      exact ⟨ret_bool HR.out.symm, hBW⟩
    clear hqc
    by_cases h1 : 1 ≤ n
    rotate_left
    · skip
      have HR : Hid (formedN 6 c n 0 kn = false) := by show _ = _; simp [formedN, rightB, withinB, useC, useN, useD, useK, h1]
      go_enter Tryd.func62, Tryd.ntmps62
      go_wp2_with fail
      rw [HW0.out]
      go_wp2_with (first | (go_at_call 41; refine (vAtom_any _ _).mono ?_; rintro e w1 ⟨rfl, rfl⟩; rw [HAt.out]) | (go_at_call 49; refine (vcourse_any _ _).mono ?_; rintro e w1 ⟨rfl, rfl⟩; first | rw [HC.out] | skip) | (go_at_call 50; refine (vmean_any _ _ _).mono ?_; rintro e w1 ⟨rfl, hb1⟩))
      go_ret
      exact ⟨ret_bool HR.out.symm, hBW⟩
    have HX : Hid (formedN 6 c n 0 kn = decide (n ≤ 100)) := by show _ = _; simp [formedN, rightB, HC.out, HK0.out, withinB, useC, useN, useD, useK, h1]
    go_enter Tryd.func62, Tryd.ntmps62
    go_wp2_with fail
    rw [HW0.out]
    go_wp2_with (first | (go_at_call 41; refine (vAtom_any _ _).mono ?_; rintro e w1 ⟨rfl, rfl⟩; rw [HAt.out]) | (go_at_call 49; refine (vcourse_any _ _).mono ?_; rintro e w1 ⟨rfl, rfl⟩; first | rw [HC.out] | skip) | (go_at_call 50; refine (vmean_any _ _ _).mono ?_; rintro e w1 ⟨rfl, hb1⟩))
    go_ret
    exact ⟨ret_bool HX.out.symm, hBW⟩
  by_cases o7 : op = 7
  · skip
    subst o7
    have HAt : Hid (withinB 7 5 9 = true) := by show _ = _; rfl
    by_cases hc : c = 0
    rotate_left
    · skip
      have e1 : (c == 0) = false := by simpa using hc
      have e2 : (c != 0) = true := by simpa using hc
      have HR : Hid (formedN 7 c n d kn = false) := by show _ = _; simp [formedN, withinB, useC, useN, useD, useK, rightB, hc]
      go_enter Tryd.func62, Tryd.ntmps62
      go_wp2_with fail
      rw [HW0.out]
      go_wp2_with (first | (go_at_call 41; refine (vAtom_any _ _).mono ?_; rintro e w1 ⟨rfl, rfl⟩; rw [HAt.out]) | (go_at_call 49; refine (vcourse_any _ _).mono ?_; rintro e w1 ⟨rfl, rfl⟩; first | rw [HC.out] | skip) | (go_at_call 50; refine (vmean_any _ _ _).mono ?_; rintro e w1 ⟨rfl, hb1⟩))
      go_ret
      exact ⟨ret_bool HR.out.symm, hBW⟩
    subst hc
    by_cases hd : d = 0
    rotate_left
    · skip
      have e1 : (d == 0) = false := by simpa using hd
      have e2 : (d != 0) = true := by simpa using hd
      have HR : Hid (formedN 7 0 n d kn = false) := by show _ = _; simp [formedN, withinB, useC, useN, useD, useK, rightB, hd]
      go_enter Tryd.func62, Tryd.ntmps62
      go_wp2_with fail
      rw [HW0.out]
      go_wp2_with (first | (go_at_call 41; refine (vAtom_any _ _).mono ?_; rintro e w1 ⟨rfl, rfl⟩; rw [HAt.out]) | (go_at_call 49; refine (vcourse_any _ _).mono ?_; rintro e w1 ⟨rfl, rfl⟩; first | rw [HC.out] | skip) | (go_at_call 50; refine (vmean_any _ _ _).mono ?_; rintro e w1 ⟨rfl, hb1⟩))
      go_ret
      exact ⟨ret_bool HR.out.symm, hBW⟩
    subst hd
    by_cases hk : 0 < kn
    · skip
      have HR : Hid (formedN 7 0 n 0 kn = false) := by show _ = _; simp [formedN, withinB, useC, useN, useD, useK, rightB, show ¬ kn = 0 by omega]
      go_enter Tryd.func62, Tryd.ntmps62
      go_wp2_with fail
      rw [HW0.out]
      go_wp2_with (first | (go_at_call 41; refine (vAtom_any _ _).mono ?_; rintro e w1 ⟨rfl, rfl⟩; rw [HAt.out]) | (go_at_call 49; refine (vcourse_any _ _).mono ?_; rintro e w1 ⟨rfl, rfl⟩; first | rw [HC.out] | skip) | (go_at_call 50; refine (vmean_any _ _ _).mono ?_; rintro e w1 ⟨rfl, hb1⟩))
      go_ret
      exact ⟨ret_bool HR.out.symm, hBW⟩
    have hk0 : kn = 0 := by omega
    have HK0 := hidp hk0
    clear hk0
    by_cases h1 : 0 ≤ n
    rotate_left
    · skip
      have HR : Hid (formedN 7 0 n 0 kn = false) := by show _ = _; simp [formedN, withinB, useC, useN, useD, useK, rightB, HK0.out, h1]
      go_enter Tryd.func62, Tryd.ntmps62
      go_wp2_with fail
      rw [HW0.out]
      go_wp2_with (first | (go_at_call 41; refine (vAtom_any _ _).mono ?_; rintro e w1 ⟨rfl, rfl⟩; rw [HAt.out]) | (go_at_call 49; refine (vcourse_any _ _).mono ?_; rintro e w1 ⟨rfl, rfl⟩; first | rw [HC.out] | skip) | (go_at_call 50; refine (vmean_any _ _ _).mono ?_; rintro e w1 ⟨rfl, hb1⟩))
      go_ret
      exact ⟨ret_bool HR.out.symm, hBW⟩
    have HX : Hid (formedN 7 0 n 0 kn = decide (n ≤ 10000)) := by show _ = _; simp [formedN, withinB, useC, useN, useD, useK, rightB, HK0.out, h1]
    go_enter Tryd.func62, Tryd.ntmps62
    go_wp2_with fail
    rw [HW0.out]
    go_wp2_with (first | (go_at_call 41; refine (vAtom_any _ _).mono ?_; rintro e w1 ⟨rfl, rfl⟩; rw [HAt.out]) | (go_at_call 49; refine (vcourse_any _ _).mono ?_; rintro e w1 ⟨rfl, rfl⟩; first | rw [HC.out] | skip) | (go_at_call 50; refine (vmean_any _ _ _).mono ?_; rintro e w1 ⟨rfl, hb1⟩))
    go_ret
    exact ⟨ret_bool HX.out.symm, hBW⟩
  by_cases o8 : op = 8
  · skip
    subst o8
    have HAt : Hid (withinB 8 5 9 = true) := by show _ = _; rfl
    by_cases hc : c = 0
    rotate_left
    · skip
      have e1 : (c == 0) = false := by simpa using hc
      have e2 : (c != 0) = true := by simpa using hc
      have HR : Hid (formedN 8 c n d kn = false) := by show _ = _; simp [formedN, withinB, useC, useN, useD, useK, rightB, hc]
      go_enter Tryd.func62, Tryd.ntmps62
      go_wp2_with fail
      rw [HW0.out]
      go_wp2_with (first | (go_at_call 41; refine (vAtom_any _ _).mono ?_; rintro e w1 ⟨rfl, rfl⟩; rw [HAt.out]) | (go_at_call 49; refine (vcourse_any _ _).mono ?_; rintro e w1 ⟨rfl, rfl⟩; first | rw [HC.out] | skip) | (go_at_call 50; refine (vmean_any _ _ _).mono ?_; rintro e w1 ⟨rfl, hb1⟩))
      go_ret
      exact ⟨ret_bool HR.out.symm, hBW⟩
    subst hc
    by_cases hk : 0 < kn
    · skip
      have HR : Hid (formedN 8 0 n d kn = false) := by show _ = _; simp [formedN, withinB, useC, useN, useD, useK, rightB, show ¬ kn = 0 by omega]
      go_enter Tryd.func62, Tryd.ntmps62
      go_wp2_with fail
      rw [HW0.out]
      go_wp2_with (first | (go_at_call 41; refine (vAtom_any _ _).mono ?_; rintro e w1 ⟨rfl, rfl⟩; rw [HAt.out]) | (go_at_call 49; refine (vcourse_any _ _).mono ?_; rintro e w1 ⟨rfl, rfl⟩; first | rw [HC.out] | skip) | (go_at_call 50; refine (vmean_any _ _ _).mono ?_; rintro e w1 ⟨rfl, hb1⟩))
      go_ret
      exact ⟨ret_bool HR.out.symm, hBW⟩
    have hk0 : kn = 0 := by omega
    have HK0 := hidp hk0
    clear hk0
    have HX : Hid (formedN 8 0 n d kn = meanB n d) := by show _ = _; simp [formedN, withinB, useC, useN, useD, useK, rightB, HK0.out]
    go_enter Tryd.func62, Tryd.ntmps62
    go_wp2_with fail
    rw [HW0.out]
    go_wp2_with (first | (go_at_call 41; refine (vAtom_any _ _).mono ?_; rintro e w1 ⟨rfl, rfl⟩; rw [HAt.out]) | (go_at_call 49; refine (vcourse_any _ _).mono ?_; rintro e w1 ⟨rfl, rfl⟩; first | rw [HC.out] | skip) | (go_at_call 50; refine (vmean_any _ _ _).mono ?_; rintro e w1 ⟨rfl, hb1⟩))
    go_ret
    exact ⟨ret_bool HX.out.symm, hBW.trans (hb1.mono hBW.size)⟩
  by_cases o9 : op = 9
  · skip
    subst o9
    have HAt : Hid (withinB 9 5 9 = true) := by show _ = _; rfl
    by_cases hn : n = 0
    rotate_left
    · skip
      have e1 : (n == 0) = false := by simpa using hn
      have e2 : (n != 0) = true := by simpa using hn
      have HR : Hid (formedN 9 c n d kn = false) := by show _ = _; simp [formedN, withinB, useC, useN, useD, useK, rightB, hn]
      go_enter Tryd.func62, Tryd.ntmps62
      go_wp2_with fail
      rw [HW0.out]
      go_wp2_with (first | (go_at_call 41; refine (vAtom_any _ _).mono ?_; rintro e w1 ⟨rfl, rfl⟩; rw [HAt.out]) | (go_at_call 49; refine (vcourse_any _ _).mono ?_; rintro e w1 ⟨rfl, rfl⟩; first | rw [HC.out] | skip) | (go_at_call 50; refine (vmean_any _ _ _).mono ?_; rintro e w1 ⟨rfl, hb1⟩))
      go_ret
      exact ⟨ret_bool HR.out.symm, hBW⟩
    subst hn
    by_cases hd : d = 0
    rotate_left
    · skip
      have e1 : (d == 0) = false := by simpa using hd
      have e2 : (d != 0) = true := by simpa using hd
      have HR : Hid (formedN 9 c 0 d kn = false) := by show _ = _; simp [formedN, withinB, useC, useN, useD, useK, rightB, hd]
      go_enter Tryd.func62, Tryd.ntmps62
      go_wp2_with fail
      rw [HW0.out]
      go_wp2_with (first | (go_at_call 41; refine (vAtom_any _ _).mono ?_; rintro e w1 ⟨rfl, rfl⟩; rw [HAt.out]) | (go_at_call 49; refine (vcourse_any _ _).mono ?_; rintro e w1 ⟨rfl, rfl⟩; first | rw [HC.out] | skip) | (go_at_call 50; refine (vmean_any _ _ _).mono ?_; rintro e w1 ⟨rfl, hb1⟩))
      go_ret
      exact ⟨ret_bool HR.out.symm, hBW⟩
    subst hd
    by_cases hk : 0 < kn
    · skip
      have HR : Hid (formedN 9 c 0 0 kn = false) := by show _ = _; simp [formedN, withinB, useC, useN, useD, useK, rightB, show ¬ kn = 0 by omega]
      go_enter Tryd.func62, Tryd.ntmps62
      go_wp2_with fail
      rw [HW0.out]
      go_wp2_with (first | (go_at_call 41; refine (vAtom_any _ _).mono ?_; rintro e w1 ⟨rfl, rfl⟩; rw [HAt.out]) | (go_at_call 49; refine (vcourse_any _ _).mono ?_; rintro e w1 ⟨rfl, rfl⟩; first | rw [HC.out] | skip) | (go_at_call 50; refine (vmean_any _ _ _).mono ?_; rintro e w1 ⟨rfl, hb1⟩))
      go_ret
      exact ⟨ret_bool HR.out.symm, hBW⟩
    have hk0 : kn = 0 := by omega
    have HK0 := hidp hk0
    clear hk0
    have HX : Hid (formedN 9 c 0 0 kn = courseB c) := by show _ = _; simp [formedN, withinB, useC, useN, useD, useK, rightB, HK0.out]
    obtain ⟨qc, hqc⟩ : ∃ q, courseB c = q := ⟨_, rfl⟩
    have HC := hidp hqc
    rw [hqc] at HX
    clear hqc
    go_enter Tryd.func62, Tryd.ntmps62
    go_wp2_with fail
    rw [HW0.out]
    go_wp2_with (first | (go_at_call 41; refine (vAtom_any _ _).mono ?_; rintro e w1 ⟨rfl, rfl⟩; rw [HAt.out]) | (go_at_call 49; refine (vcourse_any _ _).mono ?_; rintro e w1 ⟨rfl, rfl⟩; first | rw [HC.out] | skip) | (go_at_call 50; refine (vmean_any _ _ _).mono ?_; rintro e w1 ⟨rfl, hb1⟩))
    go_ret
    exact ⟨ret_bool HX.out.symm, hBW⟩
  have b1 : (op == 1) = false := by simpa using o1
  have b2 : (op == 2) = false := by simpa using o2
  have b3 : (op == 3) = false := by simpa using o3
  have b4 : (op == 4) = false := by simpa using o4
  have b5 : (op == 5) = false := by simpa using o5
  have b6 : (op == 6) = false := by simpa using o6
  have b7 : (op == 7) = false := by simpa using o7
  have b8 : (op == 8) = false := by simpa using o8
  have b9 : (op == 9) = false := by simpa using o9
  have b0 : (op != 8) = true := by simpa using o8
  have hw : withinB op 1 9 = false := by simp [withinB]; omega
  have HAt : Hid (withinB op 5 9 = false) := by show _ = _; simp [withinB]; omega
  have HR : Hid (formedN op c n d kn = false) := by show _ = _; simp [formedN, hw]
  clear hw
  by_cases hc : c = 0
  rotate_left
  · skip
    have e1 : (c == 0) = false := by simpa using hc
    have e2 : (c != 0) = true := by simpa using hc
    go_enter Tryd.func62, Tryd.ntmps62
    go_wp2_with fail
    rw [HW0.out]
    go_wp2_with (first | (go_at_call 41; refine (vAtom_any _ _).mono ?_; rintro e w1 ⟨rfl, rfl⟩; rw [HAt.out]) | (go_at_call 49; refine (vcourse_any _ _).mono ?_; rintro e w1 ⟨rfl, rfl⟩; first | rw [HC.out] | skip) | (go_at_call 50; refine (vmean_any _ _ _).mono ?_; rintro e w1 ⟨rfl, hb1⟩))
    go_ret
    exact ⟨ret_bool HR.out.symm, hBW⟩
  subst hc
  by_cases hn : n = 0
  rotate_left
  · skip
    have e1 : (n == 0) = false := by simpa using hn
    have e2 : (n != 0) = true := by simpa using hn
    go_enter Tryd.func62, Tryd.ntmps62
    go_wp2_with fail
    rw [HW0.out]
    go_wp2_with (first | (go_at_call 41; refine (vAtom_any _ _).mono ?_; rintro e w1 ⟨rfl, rfl⟩; rw [HAt.out]) | (go_at_call 49; refine (vcourse_any _ _).mono ?_; rintro e w1 ⟨rfl, rfl⟩; first | rw [HC.out] | skip) | (go_at_call 50; refine (vmean_any _ _ _).mono ?_; rintro e w1 ⟨rfl, hb1⟩))
    go_ret
    exact ⟨ret_bool HR.out.symm, hBW⟩
  subst hn
  by_cases hd : d = 0
  rotate_left
  · skip
    have e1 : (d == 0) = false := by simpa using hd
    have e2 : (d != 0) = true := by simpa using hd
    go_enter Tryd.func62, Tryd.ntmps62
    go_wp2_with fail
    rw [HW0.out]
    go_wp2_with (first | (go_at_call 41; refine (vAtom_any _ _).mono ?_; rintro e w1 ⟨rfl, rfl⟩; rw [HAt.out]) | (go_at_call 49; refine (vcourse_any _ _).mono ?_; rintro e w1 ⟨rfl, rfl⟩; first | rw [HC.out] | skip) | (go_at_call 50; refine (vmean_any _ _ _).mono ?_; rintro e w1 ⟨rfl, hb1⟩))
    go_ret
    exact ⟨ret_bool HR.out.symm, hBW⟩
  subst hd
  clear o1 o2 o3 o4 o5 o6 o7 o8 o9
  go_enter Tryd.func62, Tryd.ntmps62
  go_wp2_with fail
  rw [HW0.out]
  go_wp2_with (first | (go_at_call 41; refine (vAtom_any _ _).mono ?_; rintro e w1 ⟨rfl, rfl⟩; rw [HAt.out]) | (go_at_call 49; refine (vcourse_any _ _).mono ?_; rintro e w1 ⟨rfl, rfl⟩; first | rw [HC.out] | skip) | (go_at_call 50; refine (vmean_any _ _ _).mono ?_; rintro e w1 ⟨rfl, hb1⟩))
  go_ret
  exact ⟨ret_bool HR.out.symm, hBW⟩
end Go.Proofs.YtbmbpannhncpjaaDoor

/- The reference's allFormed and Check (printed by tools/gen91.py). -/
namespace Go.Proofs.YtbmbpannhncpjaaDoor
open Go.RowKit Go.Sort

theorem allFL_step {l : List Ru} {i : Nat} {x : Ru} (h : l[i]? = some x) : allFL (l.take (i + 1)) = (allFL (l.take i) && allF x) := by
  rw [take_snoc h, allFL_all, allFL_all, List.all_append]; simp
theorem allFL_no {l : List Ru} {i : Nat} {x : Ru} (h : l[i]? = some x) (hx : allF x = false) : allFL l = false := by
  rw [allFL_all, List.all_eq_false]
  exact ⟨x, List.mem_of_getElem? h, by simp [hx]⟩

set_option maxRecDepth 100000 in
set_option maxHeartbeats 2000000 in
theorem vallFormed_any : ∀ (h : Nat) (x : Ru) (w : World), RuIn h w w.heap.size x → Calls Tryd.prog 48 #[.agg #[.int .i64 x.op, .int .i64 x.course, .string x.name, .int .i64 x.n, .int .i64 x.d, .slice x.kA x.kn x.kc]] w fun e w' => e = .returned (.bool (allF x)) ∧ Below w.heap.size w w' := by
  intro h
  induction h using Nat.strongRecOn with
  | _ h ih =>
  intro x w hr
  have HI := hidp ih
  have HN := hidp hr.len
  have hcap := hr.2.2.1
  have hlen := hr.2.1
  obtain ⟨W0, hW0⟩ : ∃ W0, w.alloc (.cells #[.int .i64 x.op, .int .i64 x.course, .string x.name, .int .i64 x.n, .int .i64 x.d, .slice x.kA x.kn x.kc] 24) = W0 := ⟨_, rfl⟩
  have hBW : Below w.heap.size w W0 := hW0 ▸ (Below.refl _ w).alloc (Nat.le_refl _) _
  have g1 : W0.heap[w.heap.size]? = some (.cells #[.int .i64 x.op, .int .i64 x.course, .string x.name, .int .i64 x.n, .int .i64 x.d, .slice x.kA x.kn x.kc] 24 (0, 0)) := hW0 ▸ World.alloc_heap_new _ _
  have HW0 := hidp hW0
  have l1 := lt_of_heap g1
  have G1 := hidp g1
  have x0 := cell_of_heap (o := 0) g1
  have x1 := cell_of_heap (o := 1) g1
  have x2 := cell_of_heap (o := 2) g1
  have x3 := cell_of_heap (o := 3) g1
  have x4 := cell_of_heap (o := 4) g1
  have x5 := cell_of_heap (o := 5) g1
  simp only [List.getElem?_toArray, List.getElem?_cons_zero, List.getElem?_cons_succ] at x0 x1 x2 x3 x4 x5
  clear hW0 ih g1

  have hfo : ∀ W, Calls Tryd.prog 62 #[.agg #[.int .i64 x.op, .int .i64 x.course, .string x.name, .int .i64 x.n, .int .i64 x.d, .slice x.kA x.kn x.kc]] W fun e w' => e = .returned (.bool (formedB x)) ∧ Below W.heap.size W w' := fun W => by
    have := vformed_any x.op x.course x.n x.d x.name x.kA x.kn x.kc W
    rw [HN.out, ← formedB_N] at this
    exact HN.out ▸ this
  obtain ⟨q, hq⟩ : ∃ q, formedB x = q := ⟨_, rfl⟩
  rw [hq] at hfo
  have HFO := hidp hfo
  have HQ := hidp hq
  clear hfo hq
  cases q
  · have HR : Hid (allF x = false) := by show _ = _; rw [allF_eq, HQ.out]; rfl
    go_enter Tryd.func48, Tryd.ntmps48
    go_wp2_with fail
    rw [HW0.out]
    go_wp2_with fail
    refine (HFO.out _).mono ?_
    rintro e w1 ⟨rfl, h1⟩
    go_wp2_with fail
    go_ret
    exact ⟨ret_bool HR.out.symm, hBW.trans (h1.mono hBW.size)⟩
  go_enter Tryd.func48, Tryd.ntmps48
  go_wp2_with fail
  rw [HW0.out]
  go_wp2_with fail
  refine (HFO.out _).mono ?_
  rintro e w1 ⟨rfl, h1⟩
  have hb1 := hBW.trans (h1.mono hBW.size)
  clear x0 x1 x2 x3 x4 x5
  go_wp2_with fail
  go_loopw [3] (fun i wr => ∃ (k : Nat), k ≤ x.kn ∧ i = .int .i64 k ∧ allFL (x.kids.take k) = true ∧ Below W0.heap.size W0 wr) (fun i _ => x.kn - (intOf i).toNat)
  case atStart => exact ⟨0, by omega, rfl, rfl, h1⟩
  case round =>
    obtain ⟨k, hk, rfl, hall, hbe⟩ := hrel
    have HA := hidp hall
    clear hall
    have hbw := hBW.trans (hbe.mono hBW.size)
    have e1 := (hbe.block _ l1).trans G1.out
    have x5 := cell_of_heap (o := 5) e1
    simp only [List.getElem?_toArray, List.getElem?_cons_zero, List.getElem?_cons_succ] at x5
    have m1 := lt_of_heap e1
    clear e1
    by_cases hlt : k < x.kn
    · have hrq : RuIn h wr w.heap.size x := hr.below hbw
      obtain ⟨h', b, off, y, rfl, he, hb, hky, hry, c0, c1, c2, c3, c4, c5⟩ := hrq.get hlt
      have lb := lt_of_cell c0
      have hcl := HI.out h' (Nat.lt_succ_self _) y wr (hry.keep hbw.size fun q hq => rfl)
      have HKY := hidp hky
      have hkn : (k : Int) < x.kn := by omega
      rw [he] at x5
      rw [he]
      clear hky hry hrq he
      obtain ⟨q, hq⟩ : ∃ q, allF y = q := ⟨_, rfl⟩
      rw [hq] at hcl
      have HQY := hidp hq
      have HCL := hidp hcl
      clear hcl hq
      cases q
      · have HR : Hid (allF x = false) := by show _ = _; rw [allF_eq, allFL_no HKY.out HQY.out, Bool.and_false]
        go_wp2_with fail
        refine HCL.out.mono ?_
        rintro e w5 ⟨rfl, hb5⟩
        go_wp2_with fail
        go_ret
        exact ⟨ret_bool HR.out.symm, hbw.trans (hb5.mono hbw.size)⟩
      · have HS : Hid (allFL (x.kids.take (k + 1)) = true) := by show _ = _; rw [allFL_step HKY.out, HA.out, HQY.out]; rfl
        go_wp2_with fail
        refine HCL.out.mono ?_
        rintro e w5 ⟨rfl, hb5⟩
        go_wp2_with fail
        go_roundw
        case rel => exact ⟨k + 1, by omega, by go_num, HS.out, hbe.trans (hb5.mono hbe.size)⟩
        case measure => simp [intOf]; omega
    · obtain rfl : k = x.kn := by omega
      have HR : Hid (allF x = true) := by
        show _ = _
        have := HA.out
        rw [HN.out, List.take_length] at this
        rw [allF_eq, HQ.out, this]; rfl
      go_wp2_with fail
      go_ret
      exact ⟨ret_bool HR.out.symm, hbw⟩

/-- As the reference checks: parts and depth are counted in 64 bits. -/
def checkR (x : Ru) : Bool := decide (parW x ≤ 200) && decide (depW x ≤ 16) && allF x
set_option maxRecDepth 100000 in
set_option maxHeartbeats 2000000 in
theorem vCheck_any (h : Nat) (x : Ru) (w : World) (hr : RuIn h w w.heap.size x) : Calls Tryd.prog 30 #[.agg #[.int .i64 x.op, .int .i64 x.course, .string x.name, .int .i64 x.n, .int .i64 x.d, .slice x.kA x.kn x.kc]] w fun e w' => e = .returned (.int .i64 (okOr (checkR x) 120)) ∧ Below w.heap.size w w' := by
  have HRu : Hid (∀ W, Below w.heap.size w W → RuIn h W W.heap.size x) := fun W hb => hr.keep hb.size hb.block
  clear hr
  obtain ⟨W0, hW0⟩ : ∃ W0, (w.alloc (.cells #[.int .i64 x.op, .int .i64 x.course, .string x.name, .int .i64 x.n, .int .i64 x.d, .slice x.kA x.kn x.kc] 24)) = W0 := ⟨_, rfl⟩
  have hBW : Below w.heap.size w W0 := by rw [← hW0]; exact ((Below.refl _ w).alloc (by first | exact Nat.le_refl _ | (simp <;> omega)) _)
  have g0 : W0.heap[w.heap.size]? = some (.cells #[.int .i64 x.op, .int .i64 x.course, .string x.name, .int .i64 x.n, .int .i64 x.d, .slice x.kA x.kn x.kc] 24 (0, 0)) := by
    rw [← hW0]
    have := World.alloc_heap_new w (.cells #[.int .i64 x.op, .int .i64 x.course, .string x.name, .int .i64 x.n, .int .i64 x.d, .slice x.kA x.kn x.kc] 24)
    exact this
  have HW0 := hidp hW0
  have G0 := hidp g0
  have l0 := lt_of_heap g0
  have HBW := hidp hBW
  have x0 := cell_of_heap (o := 0) g0
  have x1 := cell_of_heap (o := 1) g0
  have x2 := cell_of_heap (o := 2) g0
  have x3 := cell_of_heap (o := 3) g0
  have x4 := cell_of_heap (o := 4) g0
  have x5 := cell_of_heap (o := 5) g0
  simp only [List.getElem?_toArray, List.getElem?_cons_zero, List.getElem?_cons_succ] at x0 x1 x2 x3 x4 x5
  clear hW0 g0
  obtain ⟨p, hp⟩ : ∃ p, parW x = p := ⟨_, rfl⟩
  obtain ⟨d, hd⟩ : ∃ d, depW x = d := ⟨_, rfl⟩
  obtain ⟨q, hq⟩ : ∃ q, allF x = q := ⟨_, rfl⟩
  have HP : Hid (∀ W, Below w.heap.size w W → Calls Tryd.prog 28 #[.agg #[.int .i64 x.op, .int .i64 x.course, .string x.name, .int .i64 x.n, .int .i64 x.d, .slice x.kA x.kn x.kc]] W fun e w' => e = .returned (.int .i64 p) ∧ Below W.heap.size W w') := fun W hb => by
    have := vParts_any h x W (HRu.out W hb)
    rwa [hp] at this
  have HD : Hid (∀ W, Below w.heap.size w W → Calls Tryd.prog 27 #[.agg #[.int .i64 x.op, .int .i64 x.course, .string x.name, .int .i64 x.n, .int .i64 x.d, .slice x.kA x.kn x.kc]] W fun e w' => e = .returned (.int .i64 d) ∧ Below W.heap.size W w') := fun W hb => by
    have := vDepth_any h x W (HRu.out W hb)
    rwa [hd] at this
  have HF : Hid (∀ W, Below w.heap.size w W → Calls Tryd.prog 48 #[.agg #[.int .i64 x.op, .int .i64 x.course, .string x.name, .int .i64 x.n, .int .i64 x.d, .slice x.kA x.kn x.kc]] W fun e w' => e = .returned (.bool q) ∧ Below W.heap.size W w') := fun W hb => by
    have := vallFormed_any h x W (HRu.out W hb)
    rwa [hq] at this
  have HR : Hid (checkR x = (decide (p ≤ 200) && decide (d ≤ 16) && q)) := by show _ = _; rw [checkR, hp, hd, hq]
  clear hp hd hq
  go_enter Tryd.func30, Tryd.ntmps30
  go_wp2_with fail
  rw [HW0.out]
  by_cases h1 : 200 < p
  · have HX : Hid (checkR x = false) := by show _ = _; rw [HR.out]; simp; omega
    go_wp2_with fail
    refine (HP.out _ HBW.out).mono ?_
    rintro e w1 ⟨rfl, hb1⟩
    go_wp2_with fail
    go_ret
    exact ⟨ret_int (by rw [HX.out]; rfl), HBW.out.trans (hb1.mono HBW.out.size)⟩
  go_wp2_with fail
  refine (HP.out _ HBW.out).mono ?_
  rintro e w1 ⟨rfl, hb1⟩
  have b1 := HBW.out.trans (hb1.mono HBW.out.size)
  clear x0 x1 x2 x3 x4 x5
  have e0 := (hb1.block _ l0).trans G0.out
  have x0 := cell_of_heap (o := 0) e0
  have x1 := cell_of_heap (o := 1) e0
  have x2 := cell_of_heap (o := 2) e0
  have x3 := cell_of_heap (o := 3) e0
  have x4 := cell_of_heap (o := 4) e0
  have x5 := cell_of_heap (o := 5) e0
  simp only [List.getElem?_toArray, List.getElem?_cons_zero, List.getElem?_cons_succ] at x0 x1 x2 x3 x4 x5
  have m0 := lt_of_heap e0
  clear e0
  by_cases h2 : 16 < d
  · have HX : Hid (checkR x = false) := by show _ = _; rw [HR.out]; simp; omega
    go_wp2_with fail
    refine (HD.out _ b1).mono ?_
    rintro e w2 ⟨rfl, hb2⟩
    go_wp2_with fail
    go_ret
    exact ⟨ret_int (by rw [HX.out]; rfl), b1.trans (hb2.mono b1.size)⟩
  go_wp2_with fail
  refine (HD.out _ b1).mono ?_
  rintro e w2 ⟨rfl, hb2'⟩
  have hb2 := hb1.trans (hb2'.mono hb1.size)
  have b2 := b1.trans (hb2'.mono b1.size)
  have HX : Hid (checkR x = q) := by
    show _ = _
    rw [HR.out, decide_eq_true (by omega : p ≤ 200), decide_eq_true (by omega : d ≤ 16)]; rfl
  clear x0 x1 x2 x3 x4 x5 m0
  have e0 := (hb2.block _ l0).trans G0.out
  have x0 := cell_of_heap (o := 0) e0
  have x1 := cell_of_heap (o := 1) e0
  have x2 := cell_of_heap (o := 2) e0
  have x3 := cell_of_heap (o := 3) e0
  have x4 := cell_of_heap (o := 4) e0
  have x5 := cell_of_heap (o := 5) e0
  simp only [List.getElem?_toArray, List.getElem?_cons_zero, List.getElem?_cons_succ] at x0 x1 x2 x3 x4 x5
  have m0 := lt_of_heap e0
  clear e0
  cases q
  all_goals
    go_wp2_with fail
    refine (HF.out _ b2).mono ?_
    rintro e w3 ⟨rfl, hb3⟩
    go_wp2_with fail
    go_ret
    exact ⟨ret_int (by rw [HX.out]; rfl), b2.trans (hb3.mono b2.size)⟩
end Go.Proofs.YtbmbpannhncpjaaDoor

/- Laws of rules, plainly: the reference checks as the program does, where parts are few. -/
namespace Go.Proofs.YtbmbpannhncpjaaDoor
open Go.RowKit

/-- So many parts at most: no sum passes 64 bits. -/
def manyP : Nat := 1152921504606846976
theorem partsL_lenD : ∀ {l : List Ru}, (∀ y ∈ l, ∀ d d', (partsD d y).length = (partsD d' y).length) → ∀ d d', (partsL d l).length = (partsL d' l).length
  | [], _, _, _ => rfl
  | x :: l, h, d, d' => by
    simp only [partsL, List.length_append]
    rw [h x (by simp) d d', partsL_lenD (fun y hy => h y (by simp [hy])) d d']
theorem parts_lenD (x : Ru) : ∀ d d', (partsD d x).length = (partsD d' x).length := by
  induction x using Ru.ind with
  | h x ih =>
    intro d d'
    rw [partsD_eq, partsD_eq, List.length_cons, List.length_cons, partsL_lenD ih (wrap64 (d + 1)) (wrap64 (d' + 1))]
theorem parL_len : ∀ {l : List Ru} {m : Int}, (∀ y ∈ l, (partsD 1 y).length ≤ manyP → parW y = (partsD 1 y).length) → 0 ≤ m → m + (partsL 1 l).length ≤ manyP → parL m l = m + (partsL 1 l).length
  | [], m, _, _, _ => by simp [parL, partsL]
  | x :: l, m, h, h0, hm => by
    have e : ((partsL 1 (x :: l)).length : Int) = (partsD 1 x).length + (partsL 1 l).length := by simp [partsL]
    rw [e] at hm
    have hx := h x (by simp) (by omega)
    have hw : wrap64 (m + parW x) = m + (partsD 1 x).length := by
      rw [hx]; exact IntWalk.wrap64_in _ (by unfold manyP at hm; omega)
    rw [parL, hw, parL_len (fun y hy => h y (by simp [hy])) (by omega) (by omega), e]
    omega
theorem parW_len (x : Ru) : (partsD 1 x).length ≤ manyP → parW x = (partsD 1 x).length := by
  induction x using Ru.ind with
  | h x ih =>
    intro hx
    rw [partsD_eq, List.length_cons] at hx
    have e := partsL_lenD (l := x.kids) (fun y _ => parts_lenD y) (wrap64 (1 + 1)) 1
    rw [e] at hx
    rw [parW_eq, parL_len ih (by omega) (by omega), partsD_eq, List.length_cons, e]
    omega
theorem depL_le : ∀ (l : List Ru) (m z : Int), depL m l ≤ z ↔ m ≤ z ∧ ∀ y ∈ l, depW y ≤ z
  | [], m, z => by simp [depL]
  | x :: l, m, z => by
    rw [depL, depL_le l]
    simp only [List.mem_cons, forall_eq_or_imp]
    rw [Int.max_le, and_assoc]
theorem depL_bd : ∀ {l : List Ru} {m : Int}, (∀ y ∈ l, (partsD 1 y).length ≤ manyP → 1 ≤ depW y ∧ depW y ≤ (partsD 1 y).length) → 0 ≤ m → m ≤ manyP → (partsL 1 l).length ≤ manyP → 0 ≤ depL m l ∧ depL m l ≤ max m (partsL 1 l).length
  | [], m, _, _, _, _ => by simp [depL]; omega
  | x :: l, m, h, h0, hm, hl => by
    have e : (partsL 1 (x :: l)).length = (partsD 1 x).length + (partsL 1 l).length := by simp [partsL]
    have hx := h x (by simp) (by omega)
    have hr := depL_bd (l := l) (m := max m (depW x)) (fun y hy => h y (by simp [hy])) (by omega) (by omega) (by omega)
    rw [depL, e]
    omega
theorem depW_bd (x : Ru) : (partsD 1 x).length ≤ manyP → 1 ≤ depW x ∧ depW x ≤ (partsD 1 x).length ∧ depW x = depL 0 x.kids + 1 := by
  induction x using Ru.ind with
  | h x ih =>
    intro hx
    have e := partsL_lenD (l := x.kids) (fun y _ => parts_lenD y) (wrap64 (1 + 1)) 1
    rw [partsD_eq, List.length_cons, e] at hx
    have hb := depL_bd (l := x.kids) (m := 0) (fun y hy hly => ⟨(ih y hy hly).1, (ih y hy hly).2.1⟩) (by omega) (by omega) (by omega)
    have hw : depW x = depL 0 x.kids + 1 := by
      rw [depW_eq]; exact IntWalk.wrap64_in _ (by unfold manyP at hx; omega)
    rw [partsD_eq, List.length_cons, e, hw]
    refine ⟨by omega, ?_, rfl⟩
    omega
theorem dep_all (x : Ru) : ∀ (d N : Int), 0 ≤ d → d + (partsD 1 x).length ≤ manyP → ((∀ y ∈ partsD d x, y.1 ≤ N) ↔ d + depW x - 1 ≤ N) := by
  induction x using Ru.ind with
  | h x ih =>
    intro d N hd hl
    have hdw := depW_bd x (by omega)
    have e := partsL_lenD (l := x.kids) (fun y _ => parts_lenD y) (wrap64 (1 + 1)) 1
    have hlx : (partsD 1 x).length = (partsL 1 x.kids).length + 1 := by rw [partsD_eq, List.length_cons, e]
    have hw : wrap64 (d + 1) = d + 1 := IntWalk.wrap64_in _ (by unfold manyP at hl; omega)
    have hmem : ∀ k ∈ x.kids, (partsD 1 k).length ≤ (partsL 1 x.kids).length := by
      intro k hk
      obtain ⟨i, hi⟩ := List.mem_iff_getElem?.1 hk
      rw [partsL_split hi]
      simp only [List.length_append]
      omega
    rw [partsD_eq, hw, hdw.2.2]
    have h1 : (∀ y ∈ partsL (d + 1) x.kids, y.1 ≤ N) ↔ ∀ k ∈ x.kids, d + 1 + depW k - 1 ≤ N := by
      constructor
      · intro h k hk
        exact (ih k hk (d + 1) N (by omega) (by have := hmem k hk; omega)).1 fun y hy => h y (partsL_mem.2 ⟨k, hk, hy⟩)
      · intro h y hy
        obtain ⟨k, hk, hy⟩ := partsL_mem.1 hy
        exact (ih k hk (d + 1) N (by omega) (by have := hmem k hk; omega)).2 (h k hk) y hy
    simp only [List.mem_cons, forall_eq_or_imp]
    rw [h1]
    have h2 := depL_le x.kids 0 (N - d)
    constructor
    · rintro ⟨a, b⟩
      have := h2.2 ⟨by omega, fun y hy => by have := b y hy; omega⟩
      omega
    · intro h
      obtain ⟨a, b⟩ := h2.1 (by omega)
      exact ⟨by omega, fun k hk => by have := b k hk; omega⟩
theorem allF_parts (x : Ru) : ∀ d, allF x = true → ∀ y ∈ partsD d x, formedB y.2 = true := by
  induction x using Ru.ind with
  | h x ih =>
    intro d hf y hy
    rw [partsD_eq] at hy
    rcases List.mem_cons.1 hy with rfl | hy
    · exact allF_formed hf
    · obtain ⟨k, hk, hy⟩ := partsL_mem.1 hy
      obtain ⟨i, hi⟩ := List.mem_iff_getElem?.1 hk
      exact ih k hk _ (allFL_mem (allF_kids hf) hi) y hy
theorem check_eq (x : Ru) (h : (partsD 1 x).length ≤ 1048576) : checkR x = checkB x := by
  have hp := parW_len x (by unfold manyP; omega)
  have hd := dep_all x 1 16 (by omega) (by unfold manyP; omega)
  rw [Bool.eq_iff_iff, checkB, checkU_iff]
  simp only [checkR, Bool.and_eq_true, decide_eq_true_eq, hp]
  constructor
  · rintro ⟨⟨h1, h2⟩, h3⟩
    refine ⟨fun _ => by omega, fun y hy => ⟨hd.2 (by omega) y hy, allF_parts x 1 h3 y hy⟩⟩
  · rintro ⟨h1, h2⟩
    have h4 := h1 (by rw [partsD_eq]; simp)
    have h5 := hd.1 fun y hy => (h2 y hy).1
    exact ⟨⟨by omega, by omega⟩, allF_of x 1 fun y hy => (h2 y hy).2⟩
end Go.Proofs.YtbmbpannhncpjaaDoor

/- The reference's less and SameAtom (printed by tools/gen95.py). -/
namespace Go.Proofs.YtbmbpannhncpjaaDoor
open Go.RowKit Go.Sort

/-- A rule as an atom. -/
def atX (x : Ru) : At := ⟨x.op, x.course, x.n, x.d⟩

set_option maxRecDepth 100000 in
set_option maxHeartbeats 2000000 in
theorem vless_any (x y : Ru) (w : World) : Calls Tryd.prog 57 #[.agg #[.int .i64 x.op, .int .i64 x.course, .string x.name, .int .i64 x.n, .int .i64 x.d, .slice x.kA x.kn x.kc], .agg #[.int .i64 y.op, .int .i64 y.course, .string y.name, .int .i64 y.n, .int .i64 y.d, .slice y.kA y.kn y.kc]] w fun e w' => e = .returned (.bool ((atX x).lt (atX y))) ∧ Below w.heap.size w w' := by
  obtain ⟨W0, hW0⟩ : ∃ W0, ((w.alloc (.cells #[.int .i64 x.op, .int .i64 x.course, .string x.name, .int .i64 x.n, .int .i64 x.d, .slice x.kA x.kn x.kc] 24)).alloc (.cells #[.int .i64 y.op, .int .i64 y.course, .string y.name, .int .i64 y.n, .int .i64 y.d, .slice y.kA y.kn y.kc] 24)) = W0 := ⟨_, rfl⟩
  have hBW : Below w.heap.size w W0 := by rw [← hW0]; exact (((Below.refl _ w).alloc (by first | exact Nat.le_refl _ | (simp <;> omega)) _).alloc (by first | exact Nat.le_refl _ | (simp <;> omega)) _)
  have g0 : W0.heap[w.heap.size]? = some (.cells #[.int .i64 x.op, .int .i64 x.course, .string x.name, .int .i64 x.n, .int .i64 x.d, .slice x.kA x.kn x.kc] 24 (0, 0)) := by
    rw [← hW0, Below.heap_alloc _ _ _ (by simp <;> omega)]
    have := World.alloc_heap_new w (.cells #[.int .i64 x.op, .int .i64 x.course, .string x.name, .int .i64 x.n, .int .i64 x.d, .slice x.kA x.kn x.kc] 24)
    exact this
  have g1 : W0.heap[w.heap.size + 1]? = some (.cells #[.int .i64 y.op, .int .i64 y.course, .string y.name, .int .i64 y.n, .int .i64 y.d, .slice y.kA y.kn y.kc] 24 (0, 0)) := by
    rw [← hW0]
    have := World.alloc_heap_new (w.alloc (.cells #[.int .i64 x.op, .int .i64 x.course, .string x.name, .int .i64 x.n, .int .i64 x.d, .slice x.kA x.kn x.kc] 24)) (.cells #[.int .i64 y.op, .int .i64 y.course, .string y.name, .int .i64 y.n, .int .i64 y.d, .slice y.kA y.kn y.kc] 24)
    rwa [World.size_alloc] at this
  have HW0 := hidp hW0
  have G0 := hidp g0
  have l0 := lt_of_heap g0
  have G1 := hidp g1
  have l1 := lt_of_heap g1
  have HBW := hidp hBW
  have x0 := cell_of_heap (o := 0) g0
  have x1 := cell_of_heap (o := 1) g0
  have x2 := cell_of_heap (o := 2) g0
  have x3 := cell_of_heap (o := 3) g0
  have x4 := cell_of_heap (o := 4) g0
  have x5 := cell_of_heap (o := 5) g0
  have y0 := cell_of_heap (o := 0) g1
  have y1 := cell_of_heap (o := 1) g1
  have y2 := cell_of_heap (o := 2) g1
  have y3 := cell_of_heap (o := 3) g1
  have y4 := cell_of_heap (o := 4) g1
  have y5 := cell_of_heap (o := 5) g1
  simp only [List.getElem?_toArray, List.getElem?_cons_zero, List.getElem?_cons_succ] at x0 x1 x2 x3 x4 x5 y0 y1 y2 y3 y4 y5
  clear hW0 g0 g1
  by_cases hop : x.op = y.op
  rotate_left
  · skip
    have e1 : (x.op != y.op) = true := by simpa using hop
    have e2 : (x.op == y.op) = false := by simpa using hop
    have HR : Hid ((atX x).lt (atX y) = decide (x.op < y.op)) := by
      show _ = _
      rw [Bool.eq_iff_iff, At.lt_iff, decide_eq_true_eq]
      dsimp only [atX]
      omega
    clear hop
    go_enter Tryd.func57, Tryd.ntmps57
    go_wp2_with fail
    rw [HW0.out]
    go_wp2_with fail
    go_ret
    exact ⟨ret_bool HR.out.symm, HBW.out⟩
  have fop : (x.op != y.op) = false := by simpa using hop
  have Hop := hidp hop
  clear hop
  by_cases hcourse : x.course = y.course
  rotate_left
  · skip
    have e1 : (x.course != y.course) = true := by simpa using hcourse
    have e2 : (x.course == y.course) = false := by simpa using hcourse
    have HR : Hid ((atX x).lt (atX y) = decide (x.course < y.course)) := by
      show _ = _
      rw [Bool.eq_iff_iff, At.lt_iff, decide_eq_true_eq]
      dsimp only [atX]
      have := Hop.out
      omega
    clear hcourse
    go_enter Tryd.func57, Tryd.ntmps57
    go_wp2_with fail
    rw [HW0.out]
    go_wp2_with fail
    go_ret
    exact ⟨ret_bool HR.out.symm, HBW.out⟩
  have fcourse : (x.course != y.course) = false := by simpa using hcourse
  have Hcourse := hidp hcourse
  clear hcourse
  by_cases hn : x.n = y.n
  rotate_left
  · skip
    have e1 : (x.n != y.n) = true := by simpa using hn
    have e2 : (x.n == y.n) = false := by simpa using hn
    have HR : Hid ((atX x).lt (atX y) = decide (x.n < y.n)) := by
      show _ = _
      rw [Bool.eq_iff_iff, At.lt_iff, decide_eq_true_eq]
      dsimp only [atX]
      have := Hop.out
      have := Hcourse.out
      omega
    clear hn
    go_enter Tryd.func57, Tryd.ntmps57
    go_wp2_with fail
    rw [HW0.out]
    go_wp2_with fail
    go_ret
    exact ⟨ret_bool HR.out.symm, HBW.out⟩
  have fn : (x.n != y.n) = false := by simpa using hn
  have Hn := hidp hn
  clear hn
  have HR : Hid ((atX x).lt (atX y) = decide (x.d < y.d)) := by
    show _ = _
    rw [Bool.eq_iff_iff, At.lt_iff, decide_eq_true_eq]
    dsimp only [atX]
    have := Hop.out
    have := Hcourse.out
    have := Hn.out
    omega
  go_enter Tryd.func57, Tryd.ntmps57
  go_wp2_with fail
  rw [HW0.out]
  go_wp2_with fail
  go_ret
  exact ⟨ret_bool HR.out.symm, HBW.out⟩

set_option maxRecDepth 100000 in
set_option maxHeartbeats 2000000 in
theorem vSameAtom_any (x y : Ru) (w : World) : Calls Tryd.prog 33 #[.agg #[.int .i64 x.op, .int .i64 x.course, .string x.name, .int .i64 x.n, .int .i64 x.d, .slice x.kA x.kn x.kc], .agg #[.int .i64 y.op, .int .i64 y.course, .string y.name, .int .i64 y.n, .int .i64 y.d, .slice y.kA y.kn y.kc]] w fun e w' => e = .returned (.bool (decide (atX x = atX y))) ∧ Below w.heap.size w w' := by
  obtain ⟨W0, hW0⟩ : ∃ W0, ((w.alloc (.cells #[.int .i64 x.op, .int .i64 x.course, .string x.name, .int .i64 x.n, .int .i64 x.d, .slice x.kA x.kn x.kc] 24)).alloc (.cells #[.int .i64 y.op, .int .i64 y.course, .string y.name, .int .i64 y.n, .int .i64 y.d, .slice y.kA y.kn y.kc] 24)) = W0 := ⟨_, rfl⟩
  have hBW : Below w.heap.size w W0 := by rw [← hW0]; exact (((Below.refl _ w).alloc (by first | exact Nat.le_refl _ | (simp <;> omega)) _).alloc (by first | exact Nat.le_refl _ | (simp <;> omega)) _)
  have g0 : W0.heap[w.heap.size]? = some (.cells #[.int .i64 x.op, .int .i64 x.course, .string x.name, .int .i64 x.n, .int .i64 x.d, .slice x.kA x.kn x.kc] 24 (0, 0)) := by
    rw [← hW0, Below.heap_alloc _ _ _ (by simp <;> omega)]
    have := World.alloc_heap_new w (.cells #[.int .i64 x.op, .int .i64 x.course, .string x.name, .int .i64 x.n, .int .i64 x.d, .slice x.kA x.kn x.kc] 24)
    exact this
  have g1 : W0.heap[w.heap.size + 1]? = some (.cells #[.int .i64 y.op, .int .i64 y.course, .string y.name, .int .i64 y.n, .int .i64 y.d, .slice y.kA y.kn y.kc] 24 (0, 0)) := by
    rw [← hW0]
    have := World.alloc_heap_new (w.alloc (.cells #[.int .i64 x.op, .int .i64 x.course, .string x.name, .int .i64 x.n, .int .i64 x.d, .slice x.kA x.kn x.kc] 24)) (.cells #[.int .i64 y.op, .int .i64 y.course, .string y.name, .int .i64 y.n, .int .i64 y.d, .slice y.kA y.kn y.kc] 24)
    rwa [World.size_alloc] at this
  have HW0 := hidp hW0
  have G0 := hidp g0
  have l0 := lt_of_heap g0
  have G1 := hidp g1
  have l1 := lt_of_heap g1
  have HBW := hidp hBW
  have x0 := cell_of_heap (o := 0) g0
  have x1 := cell_of_heap (o := 1) g0
  have x2 := cell_of_heap (o := 2) g0
  have x3 := cell_of_heap (o := 3) g0
  have x4 := cell_of_heap (o := 4) g0
  have x5 := cell_of_heap (o := 5) g0
  have y0 := cell_of_heap (o := 0) g1
  have y1 := cell_of_heap (o := 1) g1
  have y2 := cell_of_heap (o := 2) g1
  have y3 := cell_of_heap (o := 3) g1
  have y4 := cell_of_heap (o := 4) g1
  have y5 := cell_of_heap (o := 5) g1
  simp only [List.getElem?_toArray, List.getElem?_cons_zero, List.getElem?_cons_succ] at x0 x1 x2 x3 x4 x5 y0 y1 y2 y3 y4 y5
  clear hW0 g0 g1
  by_cases hop : x.op = y.op
  rotate_left
  · skip
    have e2 : (x.op == y.op) = false := by simpa using hop
    have HR : Hid (decide (atX x = atX y) = false) := by show _ = _; simp [atX, hop]
    clear hop
    go_enter Tryd.func33, Tryd.ntmps33
    go_wp2_with fail
    rw [HW0.out]
    go_wp2_with fail
    go_ret
    exact ⟨ret_bool HR.out.symm, HBW.out⟩
  have fop : (x.op == y.op) = true := by simpa using hop
  have Hop := hidp hop
  clear hop
  by_cases hcourse : x.course = y.course
  rotate_left
  · skip
    have e2 : (x.course == y.course) = false := by simpa using hcourse
    have HR : Hid (decide (atX x = atX y) = false) := by show _ = _; simp [atX, hcourse]
    clear hcourse
    go_enter Tryd.func33, Tryd.ntmps33
    go_wp2_with fail
    rw [HW0.out]
    go_wp2_with fail
    go_ret
    exact ⟨ret_bool HR.out.symm, HBW.out⟩
  have fcourse : (x.course == y.course) = true := by simpa using hcourse
  have Hcourse := hidp hcourse
  clear hcourse
  by_cases hn : x.n = y.n
  rotate_left
  · skip
    have e2 : (x.n == y.n) = false := by simpa using hn
    have HR : Hid (decide (atX x = atX y) = false) := by show _ = _; simp [atX, hn]
    clear hn
    go_enter Tryd.func33, Tryd.ntmps33
    go_wp2_with fail
    rw [HW0.out]
    go_wp2_with fail
    go_ret
    exact ⟨ret_bool HR.out.symm, HBW.out⟩
  have fn : (x.n == y.n) = true := by simpa using hn
  have Hn := hidp hn
  clear hn
  have HR : Hid (decide (atX x = atX y) = (x.d == y.d)) := by show _ = _; rw [Bool.eq_iff_iff]; simp [atX, Hop.out, Hcourse.out, Hn.out]
  go_enter Tryd.func33, Tryd.ntmps33
  go_wp2_with fail
  rw [HW0.out]
  go_wp2_with fail
  go_ret
  exact ⟨ret_bool HR.out.symm, HBW.out⟩
end Go.Proofs.YtbmbpannhncpjaaDoor

/- The reference's put (printed by tools/gen96.py). -/
namespace Go.Proofs.YtbmbpannhncpjaaDoor
open Go.RowKit Go.Sort

theorem linA : Lin At.lt := ⟨At.lt_irrefl, fun _ _ _ h1 h2 => At.lt_trans h1 h2, At.lt_tri⟩
abbrev rSl := Rows 6 (Rep.flat rEnc)
theorem rStable : (Rep.flat rEnc).Stable := Rep.flat_stable _
theorem rSl.get {n₀ n c k : Nat} {A : Option Addr} {l : List At} {W : World} (h : rSl W n₀ A n c l) (hk : k < n) :
    ∃ b off y, A = some ⟨b, off, none⟩ ∧ b < n₀ ∧ l[k]? = some y ∧ W.cell? ⟨b, off + k * 6, none⟩ = some (.int .i64 y.op) ∧ W.cell? ⟨b, off + k * 6 + 1, none⟩ = some (.int .i64 y.course) ∧ W.cell? ⟨b, off + k * 6 + 2, none⟩ = some (.string ByteArray.empty) ∧ W.cell? ⟨b, off + k * 6 + 3, none⟩ = some (.int .i64 y.n) ∧ W.cell? ⟨b, off + k * 6 + 4, none⟩ = some (.int .i64 y.d) ∧ W.cell? ⟨b, off + k * 6 + 5, none⟩ = some (.slice none 0 0) := by
  obtain ⟨b, off, y, cs, e, hlt, hk', rfl, hc⟩ := Rows.get h hk
  exact ⟨b, off, y, e, hlt, hk', hc 0 _ rfl, hc 1 _ rfl, hc 2 _ rfl, hc 3 _ rfl, hc 4 _ rfl, hc 5 _ rfl⟩
def RPost (l : List At) (w : World) (e : Ending) (w' : World) : Prop := ∃ A n c, e = .returned (.slice A n c) ∧ rSl w' w'.heap.size A n c l ∧ Below w.heap.size w w'
def insA (a : At) (l : List At) : List At := ins At.lt a l
def UpA (l : List At) (a : At) (q : Nat) : Prop := ∀ (i : Nat) (x : At), i < q → l[i]? = some x → x.lt a = true
theorem UpA.step {l : List At} {a x : At} {q : Nat} (h : UpA l a q) (hx : l[q]? = some x) (hl : x.lt a = true) : UpA l a (q + 1) := by
  intro i y hi hy
  rcases Nat.lt_or_ge i q with h1 | h1
  · exact h i y h1 hy
  · obtain rfl : i = q := by omega
    rw [hx] at hy; cases hy; exact hl
theorem insA_found {x : At} {l : List At} {q : Nat} (hu : UpA l x q) (hx : l[q]? = some x) (hq : q ≤ l.length) : insA x l = l := by
  rw [insA, ins_at x l q (fun j y hj hy => hu j y hj hy) (fun y hy => by rw [hx] at hy; cases hy; exact linA.irr x) hq, if_pos hx]
theorem insA_new {x : At} {l : List At} {q : Nat} (hu : UpA l x q) (hy : ∀ y, l[q]? = some y → y.lt x = false) (hx : l[q]? ≠ some x) (hq : q ≤ l.length) : insA x l = l.take q ++ [x] ++ l.drop q := by
  rw [insA, ins_at x l q (fun j y hj hy => hu j y hj hy) hy hq, if_neg hx]
  simp

set_option maxRecDepth 100000 in
set_option maxHeartbeats 8000000 in
theorem vput_any (A : Option Addr) (m c : Nat) (l : List At) (a : At) (w : World) (hl : rSl w w.heap.size A m c l) (hm : m ≤ 1048576) :
    Calls Tryd.prog 42 #[.slice A m c, .agg #[.int .i64 a.op, .int .i64 a.course, .string ByteArray.empty, .int .i64 a.n, .int .i64 a.d, .slice none 0 0]] w (RPost (insA a l) w) := by
  obtain ⟨i0, hi, hz, hs, hbb⟩ := info_parts ruInfo
  have HN := hidp hl.1
  have hcap := hl.2.2.1
  have hlen := hl.2.1
  obtain ⟨W0, hW0⟩ : ∃ W0, w.alloc (.cells #[.int .i64 a.op, .int .i64 a.course, .string ByteArray.empty, .int .i64 a.n, .int .i64 a.d, .slice none 0 0] 24) = W0 := ⟨_, rfl⟩
  have hBW : Below w.heap.size w W0 := by rw [← hW0]; exact (Below.refl _ w).alloc (Nat.le_refl _) _
  have g1 : W0.heap[w.heap.size]? = some (.cells #[.int .i64 a.op, .int .i64 a.course, .string ByteArray.empty, .int .i64 a.n, .int .i64 a.d, .slice none 0 0] 24 (0, 0)) := by rw [← hW0]; exact World.alloc_heap_new _ _
  have hz0 : w.heap.size + 1 = W0.heap.size := by rw [← hW0]; simp
  have hXc : ∀ W, Below W0.heap.size W0 W → W.cell? ⟨w.heap.size, 0, none⟩ = some (.int .i64 a.op) ∧ W.cell? ⟨w.heap.size, 1, none⟩ = some (.int .i64 a.course) ∧ W.cell? ⟨w.heap.size, 2, none⟩ = some (.string ByteArray.empty) ∧ W.cell? ⟨w.heap.size, 3, none⟩ = some (.int .i64 a.n) ∧ W.cell? ⟨w.heap.size, 4, none⟩ = some (.int .i64 a.d) ∧ W.cell? ⟨w.heap.size, 5, none⟩ = some (.slice none 0 0) ∧ w.heap.size < W.heap.size := fun W hW => by
    have h := (hW.block _ (by omega)).trans g1
    exact ⟨cell_of_heap h, cell_of_heap h, cell_of_heap h, cell_of_heap h, cell_of_heap h, cell_of_heap h, lt_of_heap h⟩
  have HW0 := hidp hW0
  have HXC := hidp hXc
  have HBW := hidp hBW
  have hl0 := hl.keep rStable hBW.size hBW.block
  clear hW0 g1 hBW hXc hl
  go_enter Tryd.func42, Tryd.ntmps42
  go_wp2_with fail
  rw [HW0.out]
  go_wp2_with fail
  go_loopw [5] (fun j wr => ∃ q : Nat, q ≤ m ∧ j = .int .i64 q ∧ UpA l a q ∧ Below W0.heap.size W0 wr) (fun j _ => m - (intOf j).toNat)
  case atStart => exact ⟨0, by omega, rfl, fun i y h => by omega, Below.refl _ _⟩
  case round =>
    obtain ⟨q, hq, rfl, hup, hbe⟩ := hrel
    have HU := hidp hup
    have hr := hl0.below rStable hbe
    clear hup
    by_cases hqm : q < m
    · skip
      obtain ⟨b, off, y, rfl, hb, hzy, c0, c1, c2, c3, c4, c5⟩ := rSl.get hr hqm
      have HY := hidp hzy
      have hl2 := lt_of_cell c0
      obtain ⟨x0, x1, x2, x3, x4, x5, hl3⟩ := HXC.out _ hbe
      have hqm' : (q : Int) < m := by omega
      obtain ⟨z, hz0'⟩ : ∃ z, y.lt a = z := ⟨_, rfl⟩
      have HZ := hidp hz0'
      clear hzy hz0' hr
      go_wp2_with fail
      refine wp_region_S wr.heap.size 12 (fun _ => false) (Nat.le_refl _) (by kernel_rfl) (by kernel_rfl) (by kernel_rfl) ?_
      dsimp only [List.take, List.drop]
      apply relS_det (mask := [])
      · rfl
      · kernel_rfl
      · kernel_rfl
      · dsimp only [oblS]
        rintro w9 h9
        go_simp
        exact ⟨Below.refl _ _, rfl⟩
      dsimp only [List.nil_append, List.cons_append]
      apply relS_det (mask := [false])
      · rfl
      · kernel_rfl
      · kernel_rfl
      · dsimp only [oblS]
        rintro w9 h9
        go_simp
        exact ⟨Below.refl _ _, rfl⟩
      dsimp only [List.nil_append, List.cons_append]
      apply relS_det (mask := [false, true])
      · rfl
      · kernel_rfl
      · kernel_rfl
      · dsimp only [oblS]
        rintro w9 h9
        go_simp
        exact ⟨Below.refl _ _, rfl⟩
      dsimp only [List.nil_append, List.cons_append]
      apply relS_det (mask := [true, false, true]) (x := .bool true)
      · rfl
      · kernel_rfl
      · kernel_rfl
      · dsimp only [oblS]
        rintro w9 h9
        go_simp
        exact ⟨Below.refl _ _, rfl⟩
      dsimp only [List.nil_append, List.cons_append]
      apply relS_det (mask := [false, false, false, true]) (x := .bool true)
      · rfl
      · kernel_rfl
      · kernel_rfl
      · dsimp only [oblS]
        rintro w9 h9
        go_simp
        exact ⟨Below.refl _ _, rfl⟩
      dsimp only [List.nil_append, List.cons_append]
      apply relS_detg (mask := [false, false, false, false, true]) (t := 10) (want := true)
      · rfl
      · kernel_rfl
      · kernel_rfl
      · dsimp only [oblS]
        refine ⟨by rfl, ?_⟩
        rintro w9 h9
        go_simp
        exact ⟨Below.refl _ _, rfl⟩
      dsimp only [List.nil_append, List.cons_append]
      apply relS_detg (mask := [false, false, false, false, true, false]) (t := 10) (want := true)
      · rfl
      · kernel_rfl
      · kernel_rfl
      · dsimp only [oblS]
        refine ⟨by rfl, ?_⟩
        rintro w9 h9
        go_simp
        exact ⟨Below.refl _ _, rfl⟩
      dsimp only [List.nil_append, List.cons_append]
      apply relS_detg (mask := [false, false, false, false, true, true, true]) (t := 10) (want := true)
      · rfl
      · kernel_rfl
      · kernel_rfl
      · dsimp only [oblS]
        refine ⟨by rfl, ?_⟩
        rintro w9 h9
        go_simp
        exact ⟨Below.refl _ _, rfl⟩
      dsimp only [List.nil_append, List.cons_append]
      apply relS_detg (mask := [false, false, false, false, true, false, false, true]) (t := 10) (want := true) (x := .agg #[.int .i64 y.op, .int .i64 y.course, .string ByteArray.empty, .int .i64 y.n, .int .i64 y.d, .slice none 0 0])
      · rfl
      · kernel_rfl
      · kernel_rfl
      · dsimp only [oblS]
        refine ⟨by rfl, ?_⟩
        rintro w9 h9
        have hc9 := (bcell h9).1
        go_simp
        exact ⟨Below.refl _ _, rfl⟩
      dsimp only [List.nil_append, List.cons_append]
      apply relS_detg (mask := [false, false, false, false, true, false, false, false, false]) (t := 10) (want := true) (x := .agg #[.int .i64 a.op, .int .i64 a.course, .string ByteArray.empty, .int .i64 a.n, .int .i64 a.d, .slice none 0 0])
      · rfl
      · kernel_rfl
      · kernel_rfl
      · dsimp only [oblS]
        refine ⟨by rfl, ?_⟩
        rintro w9 h9
        have hc9 := (bcell h9).1
        go_simp
        exact ⟨Below.refl _ _, rfl⟩
      dsimp only [List.nil_append, List.cons_append]
      apply relS_detg (mask := [false, false, false, false, true, false, false, false, true, true]) (t := 10) (want := true) (x := .bool z)
      · rfl
      · kernel_rfl
      · kernel_rfl
      · dsimp only [oblS]
        refine ⟨by rfl, ?_⟩
        rintro w9 h9
        have hc9 := (bcell h9).1
        go_simp
        refine (vless_any (atR y) (atR a) w9).mono ?_
        rintro e w1 ⟨rfl, hb⟩
        exact ⟨_, rfl, hb, by show _ = _; rw [show (atX (atR y)).lt (atX (atR a)) = z from HZ.out]⟩
      dsimp only [List.nil_append, List.cons_append]
      apply relS_det (mask := [false, false, false, false, true, false, false, false, false, false, true]) (x := .bool z)
      · rfl
      · kernel_rfl
      · kernel_rfl
      · dsimp only [oblS]
        rintro w9 h9
        go_simp
        exact ⟨Below.refl _ _, rfl⟩
      dsimp only [List.nil_append, List.cons_append]
      refine relS_end (by rfl) ?_
      dsimp only [finS]
      -- rintro  w8 hb
      rintro w9 hb9
      have hb3 := hbe.trans (hb9.mono hbe.size)
      clear c0 c1 c2 c3 c4 c5 x0 x1 x2 x3 x4 x5 hl2 hl3 hb9 hbe
      cases z
      · skip
        have hr3 := hl0.below rStable hb3
        obtain ⟨ze, hze⟩ : ∃ z, decide (y = a) = z := ⟨_, rfl⟩
        have HE := hidp hze
        obtain ⟨b2, off2, y2, he2, _, hzy2, c0, c1, c2, c3, c4, c5⟩ := rSl.get hr3 hqm
        simp only [Option.some.injEq, Addr.mk.injEq, and_true] at he2
        obtain ⟨rfl, rfl⟩ := he2
        have hyy : y2 = y := by have := HY.out; rw [hzy2] at this; exact Option.some.inj this
        subst y2
        obtain ⟨x0, x1, x2, x3, x4, x5, hl3⟩ := HXC.out _ hb3
        have hl2 := lt_of_cell c0
        clear hze hzy2 hr3
        go_simp
        go_wp2_with fail
        refine wp_region_S w9.heap.size 12 (fun _ => false) (Nat.le_refl _) (by kernel_rfl) (by kernel_rfl) (by kernel_rfl) ?_
        dsimp only [List.take, List.drop]
        apply relS_det (mask := [])
        · rfl
        · kernel_rfl
        · kernel_rfl
        · dsimp only [oblS]
          rintro w9 h9
          go_simp
          exact ⟨Below.refl _ _, rfl⟩
        dsimp only [List.nil_append, List.cons_append]
        apply relS_det (mask := [false])
        · rfl
        · kernel_rfl
        · kernel_rfl
        · dsimp only [oblS]
          rintro w9 h9
          go_simp
          exact ⟨Below.refl _ _, rfl⟩
        dsimp only [List.nil_append, List.cons_append]
        apply relS_det (mask := [false, true])
        · rfl
        · kernel_rfl
        · kernel_rfl
        · dsimp only [oblS]
          rintro w9 h9
          go_simp
          exact ⟨Below.refl _ _, rfl⟩
        dsimp only [List.nil_append, List.cons_append]
        apply relS_det (mask := [true, false, true]) (x := .bool true)
        · rfl
        · kernel_rfl
        · kernel_rfl
        · dsimp only [oblS]
          rintro w9 h9
          go_simp
          exact ⟨Below.refl _ _, rfl⟩
        dsimp only [List.nil_append, List.cons_append]
        apply relS_det (mask := [false, false, false, true]) (x := .bool true)
        · rfl
        · kernel_rfl
        · kernel_rfl
        · dsimp only [oblS]
          rintro w9 h9
          go_simp
          exact ⟨Below.refl _ _, rfl⟩
        dsimp only [List.nil_append, List.cons_append]
        apply relS_detg (mask := [false, false, false, false, true]) (t := 24) (want := true)
        · rfl
        · kernel_rfl
        · kernel_rfl
        · dsimp only [oblS]
          refine ⟨by rfl, ?_⟩
          rintro w9 h9
          go_simp
          exact ⟨Below.refl _ _, rfl⟩
        dsimp only [List.nil_append, List.cons_append]
        apply relS_detg (mask := [false, false, false, false, true, false]) (t := 24) (want := true)
        · rfl
        · kernel_rfl
        · kernel_rfl
        · dsimp only [oblS]
          refine ⟨by rfl, ?_⟩
          rintro w9 h9
          go_simp
          exact ⟨Below.refl _ _, rfl⟩
        dsimp only [List.nil_append, List.cons_append]
        apply relS_detg (mask := [false, false, false, false, true, true, true]) (t := 24) (want := true)
        · rfl
        · kernel_rfl
        · kernel_rfl
        · dsimp only [oblS]
          refine ⟨by rfl, ?_⟩
          rintro w9 h9
          go_simp
          exact ⟨Below.refl _ _, rfl⟩
        dsimp only [List.nil_append, List.cons_append]
        apply relS_detg (mask := [false, false, false, false, true, false, false, true]) (t := 24) (want := true) (x := .agg #[.int .i64 y.op, .int .i64 y.course, .string ByteArray.empty, .int .i64 y.n, .int .i64 y.d, .slice none 0 0])
        · rfl
        · kernel_rfl
        · kernel_rfl
        · dsimp only [oblS]
          refine ⟨by rfl, ?_⟩
          rintro w9 h9
          have hc9 := (bcell h9).1
          go_simp
          exact ⟨Below.refl _ _, rfl⟩
        dsimp only [List.nil_append, List.cons_append]
        apply relS_detg (mask := [false, false, false, false, true, false, false, false, false]) (t := 24) (want := true) (x := .agg #[.int .i64 a.op, .int .i64 a.course, .string ByteArray.empty, .int .i64 a.n, .int .i64 a.d, .slice none 0 0])
        · rfl
        · kernel_rfl
        · kernel_rfl
        · dsimp only [oblS]
          refine ⟨by rfl, ?_⟩
          rintro w9 h9
          have hc9 := (bcell h9).1
          go_simp
          exact ⟨Below.refl _ _, rfl⟩
        dsimp only [List.nil_append, List.cons_append]
        apply relS_detg (mask := [false, false, false, false, true, false, false, false, true, true]) (t := 24) (want := true) (x := .bool ze)
        · rfl
        · kernel_rfl
        · kernel_rfl
        · dsimp only [oblS]
          refine ⟨by rfl, ?_⟩
          rintro w9 h9
          have hc9 := (bcell h9).1
          go_simp
          refine (vSameAtom_any (atR y) (atR a) w9).mono ?_
          rintro e w1 ⟨rfl, hb⟩
          exact ⟨_, rfl, hb, by show _ = _; rw [show decide (atX (atR y) = atX (atR a)) = ze from HE.out]⟩
        dsimp only [List.nil_append, List.cons_append]
        apply relS_det (mask := [false, false, false, false, true, false, false, false, false, false, true]) (x := .bool ze)
        · rfl
        · kernel_rfl
        · kernel_rfl
        · dsimp only [oblS]
          rintro w9 h9
          go_simp
          exact ⟨Below.refl _ _, rfl⟩
        dsimp only [List.nil_append, List.cons_append]
        refine relS_end (by rfl) ?_
        dsimp only [finS]
        -- rintro  w8 hb
        rintro wt hbt
        have hbW := hb3.trans (hbt.mono hb3.size)
        clear c0 c1 c2 c3 c4 c5 x0 x1 x2 x3 x4 x5 hl2 hl3 hb3 hbt hqm'
        cases ze
        · skip
          have HNe : Hid (insA a l = l.take q ++ [a] ++ l.drop q) := insA_new HU.out (fun y' hy' => by rw [HY.out] at hy'; cases hy'; exact HZ.out) (by rw [HY.out]; intro h; have := HE.out; rw [Option.some.inj h] at this; simp at this) (by rw [← HN.out]; exact hq)
          have hlW := hl0.keep rStable hbW.size hbW.block
          go_simp
          have hcutL := fun W => run_cut_low (P := Tryd.prog) W Tryd.underlying22 hi (some (⟨b, off, none⟩ : Addr)) m c q .i64 (q : Int) rfl hq
          have hcutH := fun W => run_cut_high (P := Tryd.prog) W Tryd.underlying22 hi (some (⟨b, off, none⟩ : Addr)) m c q .i64 (q : Int) rfl (by omega)
          rw [hs] at hcutL
          have hqc : q ≤ c := by omega
          have hrc := hlW.cut (m := q) hq
          have hrt := hlW.take (m := q) hq
          generalize cutA (some (⟨b, off, none⟩ : Addr)) c q 6 = A2 at hcutL hrc
          have HRC := hidp hrc
          have HRT := hidp hrt
          have HBWt : Hid (Below W0.heap.size W0 wt) := hbW
          have hsz : wt.heap.size ≤ wt.heap.size := Nat.le_refl _
          clear hrc hrt hlW hbW
          go_wp2_with fail
          refine wp_region_relJ wt.heap.size (fun k => k == 7 || k == 11) (fun k => k == 0 || k == 4 || k == 6 || k == 7 || k == 11 || k == 12) (Nat.le_refl _) (by kernel_rfl) (by kernel_rfl) (by kernel_rfl) ?_
          refine rel_any (fun v w => ∃ g, v = .slice (some ⟨g, 0, none⟩) 0 0 ∧ wt.heap.size ≤ g ∧ w.heap[g]? = some (.cells #[] 24 (0, 0))) rfl (fun v w w' hb ⟨g, hv, hg, hh⟩ => ⟨g, hv, hg, (hb.block g (lt_of_heap hh)).trans hh⟩) ?_ ?_
          · intro w9 hw
            refine relAt_cps (by rfl) fun T' hT' => ?_
            go_simp
            exact ⟨(Below.refl _ w9).alloc (Nat.le_refl _) _, hT' _ _ ⟨_, rfl, hw.size, World.alloc_heap_new w9 _⟩⟩
          try dsimp only [List.nil_append, List.cons_append]
          apply rel_det
          · repeat (first | refine obl_skip (by rfl) ?_ | refine obl_det (by rfl) ?_ | refine obl_var (by rfl) fun _ => ?_)
            intro w9 hw
            refine relAt_wanted (by rfl) ?_
            go_simp
            exact ⟨Below.refl _ _, rfl⟩
          try dsimp only [List.nil_append, List.cons_append]
          apply rel_det
          · repeat (first | refine obl_skip (by rfl) ?_ | refine obl_det (by rfl) ?_ | refine obl_var (by rfl) fun _ => ?_)
            intro w9 hw
            refine relAt_wanted (by rfl) ?_
            go_simp
            exact ⟨Below.refl _ _, rfl⟩
          try dsimp only [List.nil_append, List.cons_append]
          refine rel_det (x := .slice (some (⟨b, off, none⟩ : Addr)) q c) ?_ ?_
          · repeat (first | refine obl_skip (by rfl) ?_ | refine obl_det (by rfl) ?_ | refine obl_var (by rfl) fun _ => ?_)
            intro w9 hw
            refine relAt_wanted (by rfl) ?_
            go_simp
            exact ⟨Below.refl _ _, rfl⟩
          try dsimp only [List.nil_append, List.cons_append]
          refine rel_any (fun v w => w.ownsRow wt.heap.size 24 6 v q ((l.take q).flatMap rEnc)) rfl (own_stable _ _ _ _ _) ?_ ?_
          · repeat (first | refine obl_skip (by rfl) ?_ | refine obl_det (by rfl) ?_ | refine obl_var (by rfl) fun _ => ?_)
            rintro w9 ⟨hw, g, rfl, hg, hh⟩
            refine relAt_wanted (by rfl) ?_
            obtain ⟨v', w', hrun, hown', hb'⟩ := run_append_first (P := Tryd.prog) (ty := 22) (enc := rEnc) Tryd.underlying22 hi hz hs hbb rfl rEnc_len (by decide) hh hg (HRT.out.keep rStable hw.size hw.block) (by omega) (by omega)
            exact relUpon_append (.tmp 33) (.tmp 36) 22 rfl rfl rfl hrun hb' hown'
          try dsimp only [List.nil_append, List.cons_append]
          refine rel_det (x := .agg #[.int .i64 a.op, .int .i64 a.course, .string ByteArray.empty, .int .i64 a.n, .int .i64 a.d, .slice none 0 0]) ?_ ?_
          · repeat (first | refine obl_skip (by rfl) ?_ | refine obl_det (by rfl) ?_ | refine obl_var (by rfl) fun _ => ?_)
            intro w9 hw
            obtain ⟨x0, x1, x2, x3, x4, x5, hl3⟩ := HXC.out _ (HBWt.out.trans (hw.mono HBWt.out.size))
            refine relAt_wanted (by rfl) ?_
            go_simp
            exact ⟨Below.refl _ _, rfl⟩
          try dsimp only [List.nil_append, List.cons_append]
          refine rel_any (fun v w => ∃ A c, v = .slice A 1 c ∧ rSl w w.heap.size A 1 c [a]) rfl (fun v w w' hb ⟨A, c, hv, hh⟩ => ⟨A, c, hv, hh.keep rStable hb.size hb.block⟩) ?_ ?_
          · repeat (first | refine obl_skip (by rfl) ?_ | refine obl_det (by rfl) ?_ | refine obl_var (by rfl) fun _ => ?_)
            rintro w9 hw
            refine relAt_cps (by rfl) fun T' hT' => ?_
            go_simp
            exact ⟨(Below.refl _ w9).alloc (Nat.le_refl _) _, hT' _ _ ⟨_, _, rfl, rows_of_heap (l := [a]) rEnc_len (World.alloc_heap_new w9 _) (Nat.le_refl _) (by decide) rfl⟩⟩
          try dsimp only [List.nil_append, List.cons_append]
          refine rel_any (fun v w => w.ownsRow wt.heap.size 24 6 v (q + 1) ((l.take q ++ [a]).flatMap rEnc)) rfl (own_stable _ _ _ _ _) ?_ ?_
          · repeat (first | refine obl_skip (by rfl) ?_ | refine obl_det (by rfl) ?_ | refine obl_var (by rfl) fun _ => ?_)
            rintro w9 ⟨⟨hw, hown⟩, A1, c1, rfl, hone⟩
            refine relAt_wanted (by rfl) ?_
            obtain ⟨v', w', hrun, hown', hg, hat⟩ := run_append_rows (P := Tryd.prog) (ty := 22) (enc := rEnc) Tryd.underlying22 hi hz hs hbb rfl rEnc_len (by decide) rEnc_one hown hone (by omega) (by omega) hw.size
            exact relUpon_append (.tmp 37) (.tmp 39) 22 rfl rfl rfl hrun ((Below.refl _ w9).grown hg hw.size (fun g hg => (hown.lt g hg).1)) hown'
          try dsimp only [List.nil_append, List.cons_append]
          apply rel_det
          · repeat (first | refine obl_skip (by rfl) ?_ | refine obl_det (by rfl) ?_ | refine obl_var (by rfl) fun _ => ?_)
            intro w9 hw
            refine relAt_wanted (by rfl) ?_
            go_simp
            exact ⟨Below.refl _ _, rfl⟩
          try dsimp only [List.nil_append, List.cons_append]
          apply rel_det
          · repeat (first | refine obl_skip (by rfl) ?_ | refine obl_det (by rfl) ?_ | refine obl_var (by rfl) fun _ => ?_)
            intro w9 hw
            refine relAt_wanted (by rfl) ?_
            go_simp
            exact ⟨Below.refl _ _, rfl⟩
          try dsimp only [List.nil_append, List.cons_append]
          refine rel_det (x := .slice A2 (m - q) (c - q)) ?_ ?_
          · repeat (first | refine obl_skip (by rfl) ?_ | refine obl_det (by rfl) ?_ | refine obl_var (by rfl) fun _ => ?_)
            intro w9 hw
            refine relAt_wanted (by rfl) ?_
            go_simp
            exact ⟨Below.refl _ _, rfl⟩
          try dsimp only [List.nil_append, List.cons_append]
          refine rel_any (fun v w => w.ownsRow wt.heap.size 24 6 v (q + 1 + (m - q)) ((l.take q ++ [a] ++ l.drop q).flatMap rEnc)) rfl (own_stable _ _ _ _ _) ?_ ?_
          · repeat (first | refine obl_skip (by rfl) ?_ | refine obl_det (by rfl) ?_ | refine obl_var (by rfl) fun _ => ?_)
            rintro w9 ⟨hw, hown⟩
            refine relAt_wanted (by rfl) ?_
            obtain ⟨v', w', hrun, hown', hg, hat⟩ := run_append_rows (P := Tryd.prog) (ty := 22) (enc := rEnc) Tryd.underlying22 hi hz hs hbb rfl rEnc_len (by decide) rEnc_one hown (HRC.out.keep rStable hw.size hw.block) (by omega) (by omega) hw.size
            exact relUpon_append (.tmp 40) (.tmp 43) 22 rfl rfl rfl hrun ((Below.refl _ w9).grown hg hw.size (fun g hg => (hown.lt g hg).1)) hown'
          try dsimp only [List.nil_append, List.cons_append]
          refine rel_any (fun v w => w.ownsRow wt.heap.size 24 6 v (q + 1 + (m - q)) ((l.take q ++ [a] ++ l.drop q).flatMap rEnc)) rfl (own_stable _ _ _ _ _) ?_ ?_
          · repeat (first | refine obl_skip (by rfl) ?_ | refine obl_det (by rfl) ?_ | refine obl_var (by rfl) fun _ => ?_)
            rintro w9 ⟨hw, hown⟩
            refine relAt_cps (by rfl) fun T' hT' => ?_
            go_simp
            exact ⟨Below.refl _ _, hT' _ _ hown⟩
          try dsimp only [List.nil_append, List.cons_append]
          refine fin_dead fun v0 => fin_dead fun v1 => fin_dead fun v2 => fin_dead fun v3 => fin_dead fun v4 => fin_dead fun v5 => fin_dead fun v6 => fin_dead fun v7 => fin_dead fun v8 => fin_dead fun v9 => fin_dead fun v10 => fin_dead fun v11 => fin_var rfl fun v12 => ?_
          rintro w4 ⟨hb4, hown⟩
          obtain ⟨A4, c4, rfl, r4⟩ := own_rows rEnc_len (by decide) hown
          have hb48 := HBWt.out.trans (hb4.mono HBWt.out.size)
          have HR4 := hidp r4
          clear hown r4
          go_simp
          go_wp2_with fail
          go_ret
          exact ⟨A4, _, c4, rfl, by rw [HNe.out]; first | exact HR4.out | (have h9 := HR4.out; rw [Nat.sub_self, Nat.add_zero] at h9; exact h9), HBW.out.trans (hb48.mono HBW.out.size)⟩
        · have HF : Hid (insA a l = l) := insA_found HU.out (by rw [HY.out]; have := HE.out; simp at this; rw [this]) (by rw [← HN.out]; exact hq)
          have hlW := hl0.keep rStable hbW.size hbW.block
          go_simp
          go_wp2_with fail
          go_ret
          exact ⟨_, m, c, rfl, by rw [HF.out]; exact hlW, HBW.out.trans (hbW.mono HBW.out.size)⟩
      · go_simp
        go_wp2_with fail
        go_roundw
        case rel => exact ⟨q + 1, by omega, by go_num, HU.out.step HY.out HZ.out, hb3⟩
        case measure => simp [intOf]; omega
    · skip
      obtain rfl : q = m := by omega
      have hkl : l.length = q := HN.out.symm
      have HNe : Hid (insA a l = l.take q ++ [a] ++ l.drop q) := insA_new HU.out (fun y hy => by rw [List.getElem?_eq_none (by omega)] at hy; cases hy) (by rw [List.getElem?_eq_none (by omega)]; intro h; cases h) (by omega)
      have hqq : ¬ ((q : Int) < q) := by omega
      clear hkl hr
      go_wp2_with fail
      refine wp_region_S wr.heap.size 12 (fun _ => false) (Nat.le_refl _) (by kernel_rfl) (by kernel_rfl) (by kernel_rfl) ?_
      dsimp only [List.take, List.drop]
      apply relS_det (mask := [])
      · rfl
      · kernel_rfl
      · kernel_rfl
      · dsimp only [oblS]
        rintro w9 h9
        go_simp
        exact ⟨Below.refl _ _, rfl⟩
      dsimp only [List.nil_append, List.cons_append]
      apply relS_det (mask := [false])
      · rfl
      · kernel_rfl
      · kernel_rfl
      · dsimp only [oblS]
        rintro w9 h9
        go_simp
        exact ⟨Below.refl _ _, rfl⟩
      dsimp only [List.nil_append, List.cons_append]
      apply relS_det (mask := [false, true])
      · rfl
      · kernel_rfl
      · kernel_rfl
      · dsimp only [oblS]
        rintro w9 h9
        go_simp
        exact ⟨Below.refl _ _, rfl⟩
      dsimp only [List.nil_append, List.cons_append]
      apply relS_det (mask := [true, false, true]) (x := .bool false)
      · rfl
      · kernel_rfl
      · kernel_rfl
      · dsimp only [oblS]
        rintro w9 h9
        go_simp
        exact ⟨Below.refl _ _, rfl⟩
      dsimp only [List.nil_append, List.cons_append]
      apply relS_det (mask := [false, false, false, true]) (x := .bool false)
      · rfl
      · kernel_rfl
      · kernel_rfl
      · dsimp only [oblS]
        rintro w9 h9
        go_simp
        exact ⟨Below.refl _ _, rfl⟩
      dsimp only [List.nil_append, List.cons_append]
      apply relS_not (mask := [false, false, false, false, true]) (t := 10) (want := true) (hf := by rfl) (hg := by kernel_rfl) (hm := by kernel_rfl)
      · rfl
      dsimp only [List.nil_append, List.cons_append]
      apply relS_not (mask := [false, false, false, false, true, false]) (t := 10) (want := true) (hf := by rfl) (hg := by kernel_rfl) (hm := by kernel_rfl)
      · rfl
      dsimp only [List.nil_append, List.cons_append]
      apply relS_not (mask := [false, false, false, false, true, true, true]) (t := 10) (want := true) (hf := by rfl) (hg := by kernel_rfl) (hm := by kernel_rfl)
      · rfl
      dsimp only [List.nil_append, List.cons_append]
      apply relS_not (mask := [false, false, false, false, true, false, false, true]) (t := 10) (want := true) (hf := by rfl) (hg := by kernel_rfl) (hm := by kernel_rfl)
      · rfl
      dsimp only [List.nil_append, List.cons_append]
      apply relS_not (mask := [false, false, false, false, true, false, false, false, false]) (t := 10) (want := true) (hf := by rfl) (hg := by kernel_rfl) (hm := by kernel_rfl)
      · rfl
      dsimp only [List.nil_append, List.cons_append]
      apply relS_not (mask := [false, false, false, false, true, false, false, false, true, true]) (t := 10) (want := true) (hf := by rfl) (hg := by kernel_rfl) (hm := by kernel_rfl)
      · rfl
      dsimp only [List.nil_append, List.cons_append]
      apply relS_det (mask := [false, false, false, false, true, false, false, false, false, false, true]) (x := .bool false)
      · rfl
      · kernel_rfl
      · kernel_rfl
      · dsimp only [oblS]
        rintro w9 h9
        go_simp
        exact ⟨Below.refl _ _, rfl⟩
      dsimp only [List.nil_append, List.cons_append]
      refine relS_end (by rfl) ?_
      dsimp only [finS]
      -- rintro  w8 hb
      rintro w9 hb9
      have hb3 := hbe.trans (hb9.mono hbe.size)
      go_simp
      go_wp2_with fail
      refine wp_region_S w9.heap.size 12 (fun _ => false) (Nat.le_refl _) (by kernel_rfl) (by kernel_rfl) (by kernel_rfl) ?_
      dsimp only [List.take, List.drop]
      apply relS_det (mask := [])
      · rfl
      · kernel_rfl
      · kernel_rfl
      · dsimp only [oblS]
        rintro w9 h9
        go_simp
        exact ⟨Below.refl _ _, rfl⟩
      dsimp only [List.nil_append, List.cons_append]
      apply relS_det (mask := [false])
      · rfl
      · kernel_rfl
      · kernel_rfl
      · dsimp only [oblS]
        rintro w9 h9
        go_simp
        exact ⟨Below.refl _ _, rfl⟩
      dsimp only [List.nil_append, List.cons_append]
      apply relS_det (mask := [false, true])
      · rfl
      · kernel_rfl
      · kernel_rfl
      · dsimp only [oblS]
        rintro w9 h9
        go_simp
        exact ⟨Below.refl _ _, rfl⟩
      dsimp only [List.nil_append, List.cons_append]
      apply relS_det (mask := [true, false, true]) (x := .bool false)
      · rfl
      · kernel_rfl
      · kernel_rfl
      · dsimp only [oblS]
        rintro w9 h9
        go_simp
        exact ⟨Below.refl _ _, rfl⟩
      dsimp only [List.nil_append, List.cons_append]
      apply relS_det (mask := [false, false, false, true]) (x := .bool false)
      · rfl
      · kernel_rfl
      · kernel_rfl
      · dsimp only [oblS]
        rintro w9 h9
        go_simp
        exact ⟨Below.refl _ _, rfl⟩
      dsimp only [List.nil_append, List.cons_append]
      apply relS_not (mask := [false, false, false, false, true]) (t := 24) (want := true) (hf := by rfl) (hg := by kernel_rfl) (hm := by kernel_rfl)
      · rfl
      dsimp only [List.nil_append, List.cons_append]
      apply relS_not (mask := [false, false, false, false, true, false]) (t := 24) (want := true) (hf := by rfl) (hg := by kernel_rfl) (hm := by kernel_rfl)
      · rfl
      dsimp only [List.nil_append, List.cons_append]
      apply relS_not (mask := [false, false, false, false, true, true, true]) (t := 24) (want := true) (hf := by rfl) (hg := by kernel_rfl) (hm := by kernel_rfl)
      · rfl
      dsimp only [List.nil_append, List.cons_append]
      apply relS_not (mask := [false, false, false, false, true, false, false, true]) (t := 24) (want := true) (hf := by rfl) (hg := by kernel_rfl) (hm := by kernel_rfl)
      · rfl
      dsimp only [List.nil_append, List.cons_append]
      apply relS_not (mask := [false, false, false, false, true, false, false, false, false]) (t := 24) (want := true) (hf := by rfl) (hg := by kernel_rfl) (hm := by kernel_rfl)
      · rfl
      dsimp only [List.nil_append, List.cons_append]
      apply relS_not (mask := [false, false, false, false, true, false, false, false, true, true]) (t := 24) (want := true) (hf := by rfl) (hg := by kernel_rfl) (hm := by kernel_rfl)
      · rfl
      dsimp only [List.nil_append, List.cons_append]
      apply relS_det (mask := [false, false, false, false, true, false, false, false, false, false, true]) (x := .bool false)
      · rfl
      · kernel_rfl
      · kernel_rfl
      · dsimp only [oblS]
        rintro w9 h9
        go_simp
        exact ⟨Below.refl _ _, rfl⟩
      dsimp only [List.nil_append, List.cons_append]
      refine relS_end (by rfl) ?_
      dsimp only [finS]
      -- rintro  w8 hb
      rintro wt hbt
      have hbW := hb3.trans (hbt.mono hb3.size)
      have hlW := hl0.keep rStable hbW.size hbW.block
      clear hbt hb3 hb9 hbe
      go_simp
      have hcutL := fun W => run_cut_low (P := Tryd.prog) W Tryd.underlying22 hi (A) q c q .i64 (q : Int) rfl hq
      have hcutH := fun W => run_cut_high (P := Tryd.prog) W Tryd.underlying22 hi (A) q c q .i64 (q : Int) rfl (by omega)
      rw [hs] at hcutL
      have hqc : q ≤ c := by omega
      have hrc := hlW.cut (m := q) hq
      have hrt := hlW.take (m := q) hq
      generalize cutA (A) c q 6 = A2 at hcutL hrc
      have HRC := hidp hrc
      have HRT := hidp hrt
      have HBWt : Hid (Below W0.heap.size W0 wt) := hbW
      have hsz : wt.heap.size ≤ wt.heap.size := Nat.le_refl _
      clear hrc hrt hlW hbW
      go_wp2_with fail
      refine wp_region_relJ wt.heap.size (fun k => k == 7 || k == 11) (fun k => k == 0 || k == 4 || k == 6 || k == 7 || k == 11 || k == 12) (Nat.le_refl _) (by kernel_rfl) (by kernel_rfl) (by kernel_rfl) ?_
      refine rel_any (fun v w => ∃ g, v = .slice (some ⟨g, 0, none⟩) 0 0 ∧ wt.heap.size ≤ g ∧ w.heap[g]? = some (.cells #[] 24 (0, 0))) rfl (fun v w w' hb ⟨g, hv, hg, hh⟩ => ⟨g, hv, hg, (hb.block g (lt_of_heap hh)).trans hh⟩) ?_ ?_
      · intro w9 hw
        refine relAt_cps (by rfl) fun T' hT' => ?_
        go_simp
        exact ⟨(Below.refl _ w9).alloc (Nat.le_refl _) _, hT' _ _ ⟨_, rfl, hw.size, World.alloc_heap_new w9 _⟩⟩
      try dsimp only [List.nil_append, List.cons_append]
      apply rel_det
      · repeat (first | refine obl_skip (by rfl) ?_ | refine obl_det (by rfl) ?_ | refine obl_var (by rfl) fun _ => ?_)
        intro w9 hw
        refine relAt_wanted (by rfl) ?_
        go_simp
        exact ⟨Below.refl _ _, rfl⟩
      try dsimp only [List.nil_append, List.cons_append]
      apply rel_det
      · repeat (first | refine obl_skip (by rfl) ?_ | refine obl_det (by rfl) ?_ | refine obl_var (by rfl) fun _ => ?_)
        intro w9 hw
        refine relAt_wanted (by rfl) ?_
        go_simp
        exact ⟨Below.refl _ _, rfl⟩
      try dsimp only [List.nil_append, List.cons_append]
      refine rel_det (x := .slice (A) q c) ?_ ?_
      · repeat (first | refine obl_skip (by rfl) ?_ | refine obl_det (by rfl) ?_ | refine obl_var (by rfl) fun _ => ?_)
        intro w9 hw
        refine relAt_wanted (by rfl) ?_
        go_simp
        exact ⟨Below.refl _ _, rfl⟩
      try dsimp only [List.nil_append, List.cons_append]
      refine rel_any (fun v w => w.ownsRow wt.heap.size 24 6 v q ((l.take q).flatMap rEnc)) rfl (own_stable _ _ _ _ _) ?_ ?_
      · repeat (first | refine obl_skip (by rfl) ?_ | refine obl_det (by rfl) ?_ | refine obl_var (by rfl) fun _ => ?_)
        rintro w9 ⟨hw, g, rfl, hg, hh⟩
        refine relAt_wanted (by rfl) ?_
        obtain ⟨v', w', hrun, hown', hb'⟩ := run_append_first (P := Tryd.prog) (ty := 22) (enc := rEnc) Tryd.underlying22 hi hz hs hbb rfl rEnc_len (by decide) hh hg (HRT.out.keep rStable hw.size hw.block) (by omega) (by omega)
        exact relUpon_append (.tmp 33) (.tmp 36) 22 rfl rfl rfl hrun hb' hown'
      try dsimp only [List.nil_append, List.cons_append]
      refine rel_det (x := .agg #[.int .i64 a.op, .int .i64 a.course, .string ByteArray.empty, .int .i64 a.n, .int .i64 a.d, .slice none 0 0]) ?_ ?_
      · repeat (first | refine obl_skip (by rfl) ?_ | refine obl_det (by rfl) ?_ | refine obl_var (by rfl) fun _ => ?_)
        intro w9 hw
        obtain ⟨x0, x1, x2, x3, x4, x5, hl3⟩ := HXC.out _ (HBWt.out.trans (hw.mono HBWt.out.size))
        refine relAt_wanted (by rfl) ?_
        go_simp
        exact ⟨Below.refl _ _, rfl⟩
      try dsimp only [List.nil_append, List.cons_append]
      refine rel_any (fun v w => ∃ A c, v = .slice A 1 c ∧ rSl w w.heap.size A 1 c [a]) rfl (fun v w w' hb ⟨A, c, hv, hh⟩ => ⟨A, c, hv, hh.keep rStable hb.size hb.block⟩) ?_ ?_
      · repeat (first | refine obl_skip (by rfl) ?_ | refine obl_det (by rfl) ?_ | refine obl_var (by rfl) fun _ => ?_)
        rintro w9 hw
        refine relAt_cps (by rfl) fun T' hT' => ?_
        go_simp
        exact ⟨(Below.refl _ w9).alloc (Nat.le_refl _) _, hT' _ _ ⟨_, _, rfl, rows_of_heap (l := [a]) rEnc_len (World.alloc_heap_new w9 _) (Nat.le_refl _) (by decide) rfl⟩⟩
      try dsimp only [List.nil_append, List.cons_append]
      refine rel_any (fun v w => w.ownsRow wt.heap.size 24 6 v (q + 1) ((l.take q ++ [a]).flatMap rEnc)) rfl (own_stable _ _ _ _ _) ?_ ?_
      · repeat (first | refine obl_skip (by rfl) ?_ | refine obl_det (by rfl) ?_ | refine obl_var (by rfl) fun _ => ?_)
        rintro w9 ⟨⟨hw, hown⟩, A1, c1, rfl, hone⟩
        refine relAt_wanted (by rfl) ?_
        obtain ⟨v', w', hrun, hown', hg, hat⟩ := run_append_rows (P := Tryd.prog) (ty := 22) (enc := rEnc) Tryd.underlying22 hi hz hs hbb rfl rEnc_len (by decide) rEnc_one hown hone (by omega) (by omega) hw.size
        exact relUpon_append (.tmp 37) (.tmp 39) 22 rfl rfl rfl hrun ((Below.refl _ w9).grown hg hw.size (fun g hg => (hown.lt g hg).1)) hown'
      try dsimp only [List.nil_append, List.cons_append]
      apply rel_det
      · repeat (first | refine obl_skip (by rfl) ?_ | refine obl_det (by rfl) ?_ | refine obl_var (by rfl) fun _ => ?_)
        intro w9 hw
        refine relAt_wanted (by rfl) ?_
        go_simp
        exact ⟨Below.refl _ _, rfl⟩
      try dsimp only [List.nil_append, List.cons_append]
      apply rel_det
      · repeat (first | refine obl_skip (by rfl) ?_ | refine obl_det (by rfl) ?_ | refine obl_var (by rfl) fun _ => ?_)
        intro w9 hw
        refine relAt_wanted (by rfl) ?_
        go_simp
        exact ⟨Below.refl _ _, rfl⟩
      try dsimp only [List.nil_append, List.cons_append]
      refine rel_det (x := .slice A2 (q - q) (c - q)) ?_ ?_
      · repeat (first | refine obl_skip (by rfl) ?_ | refine obl_det (by rfl) ?_ | refine obl_var (by rfl) fun _ => ?_)
        intro w9 hw
        refine relAt_wanted (by rfl) ?_
        go_simp
        exact ⟨Below.refl _ _, rfl⟩
      try dsimp only [List.nil_append, List.cons_append]
      refine rel_any (fun v w => w.ownsRow wt.heap.size 24 6 v (q + 1 + (q - q)) ((l.take q ++ [a] ++ l.drop q).flatMap rEnc)) rfl (own_stable _ _ _ _ _) ?_ ?_
      · repeat (first | refine obl_skip (by rfl) ?_ | refine obl_det (by rfl) ?_ | refine obl_var (by rfl) fun _ => ?_)
        rintro w9 ⟨hw, hown⟩
        refine relAt_wanted (by rfl) ?_
        obtain ⟨v', w', hrun, hown', hg, hat⟩ := run_append_rows (P := Tryd.prog) (ty := 22) (enc := rEnc) Tryd.underlying22 hi hz hs hbb rfl rEnc_len (by decide) rEnc_one hown (HRC.out.keep rStable hw.size hw.block) (by omega) (by omega) hw.size
        exact relUpon_append (.tmp 40) (.tmp 43) 22 rfl rfl rfl hrun ((Below.refl _ w9).grown hg hw.size (fun g hg => (hown.lt g hg).1)) hown'
      try dsimp only [List.nil_append, List.cons_append]
      refine rel_any (fun v w => w.ownsRow wt.heap.size 24 6 v (q + 1 + (q - q)) ((l.take q ++ [a] ++ l.drop q).flatMap rEnc)) rfl (own_stable _ _ _ _ _) ?_ ?_
      · repeat (first | refine obl_skip (by rfl) ?_ | refine obl_det (by rfl) ?_ | refine obl_var (by rfl) fun _ => ?_)
        rintro w9 ⟨hw, hown⟩
        refine relAt_cps (by rfl) fun T' hT' => ?_
        go_simp
        exact ⟨Below.refl _ _, hT' _ _ hown⟩
      try dsimp only [List.nil_append, List.cons_append]
      refine fin_dead fun v0 => fin_dead fun v1 => fin_dead fun v2 => fin_dead fun v3 => fin_dead fun v4 => fin_dead fun v5 => fin_dead fun v6 => fin_dead fun v7 => fin_dead fun v8 => fin_dead fun v9 => fin_dead fun v10 => fin_dead fun v11 => fin_var rfl fun v12 => ?_
      rintro w4 ⟨hb4, hown⟩
      obtain ⟨A4, c4, rfl, r4⟩ := own_rows rEnc_len (by decide) hown
      have hb48 := HBWt.out.trans (hb4.mono HBWt.out.size)
      have HR4 := hidp r4
      clear hown r4
      go_simp
      go_wp2_with fail
      go_ret
      exact ⟨A4, _, c4, rfl, by rw [HNe.out]; first | exact HR4.out | (have h9 := HR4.out; rw [Nat.sub_self, Nat.add_zero] at h9; exact h9), HBW.out.trans (hb48.mono HBW.out.size)⟩
end Go.Proofs.YtbmbpannhncpjaaDoor

/- The reference's SameAtoms (printed by tools/gen98.py). -/
namespace Go.Proofs.YtbmbpannhncpjaaDoor
open Go.RowKit Go.Sort

theorem ruSl_to {W : World} {n₀ n c : Nat} {A : Option Addr} {l : List At} (h : ruSl 1 W n₀ A n c (l.map atR)) : rSl W n₀ A n c l := by
  refine ⟨by have := h.1; simpa using this, h.2.1, h.2.2.1, fun hn => ?_⟩
  obtain ⟨b, off, e, hlt, hx⟩ := h.2.2.2 hn
  refine ⟨b, off, e, hlt, fun i x hi => ?_⟩
  obtain ⟨cs, h1, h2⟩ := hx i (atR x) (by rw [List.getElem?_map, hi]; rfl)
  obtain ⟨rfl, _⟩ := h1
  exact ⟨_, rfl, h2⟩
set_option maxRecDepth 100000 in
set_option maxHeartbeats 4000000 in
theorem vSameAtoms_any (A A' : Option Addr) (n c n' c' : Nat) (l l' : List At) (w : World) (hl : rSl w w.heap.size A n c l) (hl' : rSl w w.heap.size A' n' c' l') :
    Calls Tryd.prog 14 #[.slice A n c, .slice A' n' c'] w fun e w' => e = .returned (.bool (decide (l = l'))) ∧ Below w.heap.size w w' := by
  have HN := hidp hl.1
  have HN' := hidp hl'.1
  have hcap := hl.2.2.1
  have hlen := hl.2.1
  have hcap' := hl'.2.2.1
  have hlen' := hl'.2.1
  have HL : Hid (∀ W, Below w.heap.size w W → rSl W W.heap.size A n c l) := fun W h => Rows.keep rStable hl h.size h.block
  have HL' : Hid (∀ W, Below w.heap.size w W → rSl W W.heap.size A' n' c' l') := fun W h => Rows.keep rStable hl' h.size h.block
  clear hl hl'
  by_cases hnn : n = n'
  rotate_left
  · have HR : Hid (decide (l = l') = false) := by
      show _ = _
      rw [decide_eq_false_iff_not]
      rintro rfl
      exact hnn (HN.out.trans HN'.out.symm)
    have e1 : ((n : Int) != (n' : Int)) = true := by simp; omega
    have e2 : ((n : Int) == (n' : Int)) = false := by simp; omega
    clear hnn
    go_enter Tryd.func14, Tryd.ntmps14
    go_wp2_with fail
    go_ret
    exact ⟨ret_bool HR.out.symm, Below.refl _ _⟩
  subst hnn
  go_enter Tryd.func14, Tryd.ntmps14
  go_wp2_with fail
  go_loopw [5] (fun i wr => ∃ k : Nat, k ≤ n ∧ i = .int .i64 k ∧ l.take k = l'.take k ∧ Below w.heap.size w wr) (fun i _ => n - (intOf i).toNat)
  case atStart => exact ⟨0, by omega, rfl, by simp, Below.refl _ _⟩
  case round =>
    obtain ⟨k, hk, rfl, hsame, hbe⟩ := hrel
    have HS := hidp hsame
    clear hsame
    by_cases hlt : k < n
    · obtain ⟨b, off, a, rfl, hb, hza, c0, c1, c2, c3, c4, c5⟩ := rSl.get (HL.out wr hbe) hlt
      obtain ⟨b', off', a', rfl, hb', hza', e0, e1, e2, e3, e4, e5⟩ := rSl.get (HL'.out wr hbe) hlt
      have lb := lt_of_cell c0
      have lb' := lt_of_cell e0
      have HZ := hidp hza
      have HZ' := hidp hza'
      have hkn : (k : Int) < n := by omega
      obtain ⟨q, hq⟩ : ∃ q, decide (a = a') = q := ⟨_, rfl⟩
      have HQ := hidp hq
      clear hza hza' hq
      go_wp2_with fail
      cases q

      · skip
        refine wp_region_S wr.heap.size 38 (fun _ => false) (Nat.le_refl _) (by kernel_rfl) (by kernel_rfl) (by kernel_rfl) ?_
        dsimp only [List.take, List.drop]
        apply relS_det (mask := [])
        · rfl
        · kernel_rfl
        · kernel_rfl
        · dsimp only [oblS]
          rintro w9 h9
          go_simp
          exact ⟨Below.refl _ _, rfl⟩
        dsimp only [List.nil_append, List.cons_append]
        apply relS_det (mask := [false])
        · rfl
        · kernel_rfl
        · kernel_rfl
        · dsimp only [oblS]
          rintro w9 h9
          go_simp
          exact ⟨Below.refl _ _, rfl⟩
        dsimp only [List.nil_append, List.cons_append]
        apply relS_det (mask := [true, true])
        · rfl
        · kernel_rfl
        · kernel_rfl
        · dsimp only [oblS]
          rintro w9 h9
          go_simp
          exact ⟨Below.refl _ _, rfl⟩
        dsimp only [List.nil_append, List.cons_append]
        apply relS_det (mask := [false, false, true]) (x := .agg #[.int .i64 a.op, .int .i64 a.course, .string ByteArray.empty, .int .i64 a.n, .int .i64 a.d, .slice none 0 0])
        · rfl
        · kernel_rfl
        · kernel_rfl
        · dsimp only [oblS]
          rintro w9 h9
          have hc9 := (bcell h9).1
          go_simp
          exact ⟨Below.refl _ _, rfl⟩
        dsimp only [List.nil_append, List.cons_append]
        apply relS_det (mask := [false, false, false, false])
        · rfl
        · kernel_rfl
        · kernel_rfl
        · dsimp only [oblS]
          rintro w9 h9
          go_simp
          exact ⟨Below.refl _ _, rfl⟩
        dsimp only [List.nil_append, List.cons_append]
        apply relS_det (mask := [false, false, false, false, false])
        · rfl
        · kernel_rfl
        · kernel_rfl
        · dsimp only [oblS]
          rintro w9 h9
          go_simp
          exact ⟨Below.refl _ _, rfl⟩
        dsimp only [List.nil_append, List.cons_append]
        apply relS_det (mask := [false, false, false, false, true, true])
        · rfl
        · kernel_rfl
        · kernel_rfl
        · dsimp only [oblS]
          rintro w9 h9
          go_simp
          exact ⟨Below.refl _ _, rfl⟩
        dsimp only [List.nil_append, List.cons_append]
        apply relS_det (mask := [false, false, false, false, false, false, true]) (x := .agg #[.int .i64 a'.op, .int .i64 a'.course, .string ByteArray.empty, .int .i64 a'.n, .int .i64 a'.d, .slice none 0 0])
        · rfl
        · kernel_rfl
        · kernel_rfl
        · dsimp only [oblS]
          rintro w9 h9
          have hc9 := (bcell h9).1
          go_simp
          exact ⟨Below.refl _ _, rfl⟩
        dsimp only [List.nil_append, List.cons_append]
        apply relS_det (mask := [false, false, false, true, false, false, false, true]) (x := .bool false)
        · rfl
        · kernel_rfl
        · kernel_rfl
        · dsimp only [oblS]
          rintro w9 h9
          have hc9 := (bcell h9).1
          go_simp
          refine (vSameAtom_any (atR a) (atR a') w9).mono ?_
          rintro e w1 ⟨rfl, hb⟩
          exact ⟨_, rfl, hb, by show _ = _; rw [show decide (atX (atR a) = atX (atR a')) = false from HQ.out]⟩
        dsimp only [List.nil_append, List.cons_append]
        apply relS_det (mask := [false, false, false, false, false, false, false, false, true]) (x := .bool true)
        · rfl
        · kernel_rfl
        · kernel_rfl
        · dsimp only [oblS]
          rintro w9 h9
          go_simp
          exact ⟨Below.refl _ _, rfl⟩
        dsimp only [List.nil_append, List.cons_append]
        apply relS_det (mask := [false, false, false, false, false, false, false, false, false, true]) (x := .bool true)
        · rfl
        · kernel_rfl
        · kernel_rfl
        · dsimp only [oblS]
          rintro w9 h9
          go_simp
          exact ⟨Below.refl _ _, rfl⟩
        dsimp only [List.nil_append, List.cons_append]
        apply relS_not (mask := [false, false, false, false, false, false, false, false, false, false, true]) (t := 27) (want := false) (hf := by rfl) (hg := by kernel_rfl) (hm := by kernel_rfl)
        · rfl
        dsimp only [List.nil_append, List.cons_append]
        apply relS_not (mask := [false, false, false, false, false, false, false, false, false, false, true, false]) (t := 27) (want := false) (hf := by rfl) (hg := by kernel_rfl) (hm := by kernel_rfl)
        · rfl
        dsimp only [List.nil_append, List.cons_append]
        apply relS_not (mask := [false, false, false, false, false, false, false, false, false, false, true, true, true]) (t := 27) (want := false) (hf := by rfl) (hg := by kernel_rfl) (hm := by kernel_rfl)
        · rfl
        dsimp only [List.nil_append, List.cons_append]
        apply relS_not (mask := [false, false, false, false, false, false, false, false, false, false, true, false, false, true]) (t := 27) (want := false) (hf := by rfl) (hg := by kernel_rfl) (hm := by kernel_rfl)
        · rfl
        dsimp only [List.nil_append, List.cons_append]
        apply relS_not (mask := [false, false, false, false, false, false, false, false, false, false, true, false, false, false, true]) (t := 27) (want := false) (hf := by rfl) (hg := by kernel_rfl) (hm := by kernel_rfl)
        · rfl
        dsimp only [List.nil_append, List.cons_append]
        apply relS_not (mask := [false, false, false, false, false, false, false, false, false, false, true, false, false, false, false, false]) (t := 27) (want := false) (hf := by rfl) (hg := by kernel_rfl) (hm := by kernel_rfl)
        · rfl
        dsimp only [List.nil_append, List.cons_append]
        apply relS_not (mask := [false, false, false, false, false, false, false, false, false, false, true, false, false, false, false, false, false]) (t := 27) (want := false) (hf := by rfl) (hg := by kernel_rfl) (hm := by kernel_rfl)
        · rfl
        dsimp only [List.nil_append, List.cons_append]
        apply relS_not (mask := [false, false, false, false, false, false, false, false, false, false, true, false, false, false, false, false, true, true]) (t := 27) (want := false) (hf := by rfl) (hg := by kernel_rfl) (hm := by kernel_rfl)
        · rfl
        dsimp only [List.nil_append, List.cons_append]
        apply relS_not (mask := [false, false, false, false, false, false, false, false, false, false, true, false, false, false, false, false, false, false, true]) (t := 27) (want := false) (hf := by rfl) (hg := by kernel_rfl) (hm := by kernel_rfl)
        · rfl
        dsimp only [List.nil_append, List.cons_append]
        apply relS_not (mask := [false, false, false, false, false, false, false, false, false, false, true, false, false, false, false, false, false, false, false, true]) (t := 27) (want := false) (hf := by rfl) (hg := by kernel_rfl) (hm := by kernel_rfl)
        · rfl
        dsimp only [List.nil_append, List.cons_append]
        apply relS_not (mask := [false, false, false, false, false, false, false, false, false, false, true, false, false, false, false, true, false, false, false, false, true]) (t := 27) (want := false) (hf := by rfl) (hg := by kernel_rfl) (hm := by kernel_rfl)
        · rfl
        dsimp only [List.nil_append, List.cons_append]
        apply relS_det (mask := [false, false, false, false, false, false, false, false, false, false, true, false, false, false, false, false, false, false, false, false, false, true])
        · rfl
        · kernel_rfl
        · kernel_rfl
        · dsimp only [oblS]
          rintro w9 h9
          go_simp
          exact ⟨Below.refl _ _, rfl⟩
        dsimp only [List.nil_append, List.cons_append]
        apply relS_det (mask := [false, false, false, false, false, false, false, false, false, false, false, false, false, false, false, false, false, false, false, false, false, false, true])
        · rfl
        · kernel_rfl
        · kernel_rfl
        · dsimp only [oblS]
          rintro w9 h9
          go_simp
          exact ⟨Below.refl _ _, rfl⟩
        dsimp only [List.nil_append, List.cons_append]
        apply relS_not (mask := [false, false, false, false, false, false, false, false, false, false, false, false, false, false, false, false, false, false, false, false, false, false, false, true]) (t := 40) (want := false) (hf := by rfl) (hg := by kernel_rfl) (hm := by kernel_rfl)
        · rfl
        dsimp only [List.nil_append, List.cons_append]
        apply relS_not (mask := [false, false, false, false, false, false, false, false, false, false, false, false, false, false, false, false, false, false, false, false, false, false, false, true, false]) (t := 40) (want := false) (hf := by rfl) (hg := by kernel_rfl) (hm := by kernel_rfl)
        · rfl
        dsimp only [List.nil_append, List.cons_append]
        apply relS_not (mask := [false, false, false, false, false, false, false, false, false, false, false, false, false, false, false, false, false, false, false, false, false, false, false, true, true, true]) (t := 40) (want := false) (hf := by rfl) (hg := by kernel_rfl) (hm := by kernel_rfl)
        · rfl
        dsimp only [List.nil_append, List.cons_append]
        apply relS_not (mask := [false, false, false, false, false, false, false, false, false, false, false, false, false, false, false, false, false, false, false, false, false, false, false, true, false, false, true]) (t := 40) (want := false) (hf := by rfl) (hg := by kernel_rfl) (hm := by kernel_rfl)
        · rfl
        dsimp only [List.nil_append, List.cons_append]
        apply relS_not (mask := [false, false, false, false, false, false, false, false, false, false, false, false, false, false, false, false, false, false, false, false, false, false, false, true, false, false, false, true]) (t := 40) (want := false) (hf := by rfl) (hg := by kernel_rfl) (hm := by kernel_rfl)
        · rfl
        dsimp only [List.nil_append, List.cons_append]
        apply relS_not (mask := [false, false, false, false, false, false, false, false, false, false, false, false, false, false, false, false, false, false, false, false, false, false, false, true, false, false, false, false, true]) (t := 40) (want := false) (hf := by rfl) (hg := by kernel_rfl) (hm := by kernel_rfl)
        · rfl
        dsimp only [List.nil_append, List.cons_append]
        apply relS_not (mask := [false, false, false, false, false, false, false, false, false, false, false, false, false, false, false, false, false, false, false, false, false, false, false, true, false, false, false, false, false, false]) (t := 40) (want := false) (hf := by rfl) (hg := by kernel_rfl) (hm := by kernel_rfl)
        · rfl
        dsimp only [List.nil_append, List.cons_append]
        apply relS_not (mask := [false, false, false, false, false, false, false, false, false, false, false, false, false, false, false, false, false, false, false, false, false, false, false, true, false, false, false, false, false, false, false]) (t := 40) (want := false) (hf := by rfl) (hg := by kernel_rfl) (hm := by kernel_rfl)
        · rfl
        dsimp only [List.nil_append, List.cons_append]
        apply relS_not (mask := [false, false, false, false, false, false, false, false, false, false, false, false, false, false, false, false, false, false, false, false, false, false, false, true, false, false, false, false, false, false, true, true]) (t := 40) (want := false) (hf := by rfl) (hg := by kernel_rfl) (hm := by kernel_rfl)
        · rfl
        dsimp only [List.nil_append, List.cons_append]
        apply relS_not (mask := [false, false, false, false, false, false, false, false, false, false, false, false, false, false, false, false, false, false, false, false, false, false, false, true, false, false, false, false, false, false, false, false, true]) (t := 40) (want := false) (hf := by rfl) (hg := by kernel_rfl) (hm := by kernel_rfl)
        · rfl
        dsimp only [List.nil_append, List.cons_append]
        apply relS_not (mask := [false, false, false, false, false, false, false, false, false, false, false, false, false, false, false, false, false, false, false, false, false, false, false, true, false, false, false, false, false, false, false, false, false, true]) (t := 40) (want := false) (hf := by rfl) (hg := by kernel_rfl) (hm := by kernel_rfl)
        · rfl
        dsimp only [List.nil_append, List.cons_append]
        apply relS_not (mask := [false, false, false, false, false, false, false, false, false, false, false, false, false, false, false, false, false, false, false, false, false, false, false, true, false, false, false, false, false, false, false, false, false, false, true]) (t := 40) (want := false) (hf := by rfl) (hg := by kernel_rfl) (hm := by kernel_rfl)
        · rfl
        dsimp only [List.nil_append, List.cons_append]
        apply relS_not (mask := [false, false, false, false, false, false, false, false, false, false, false, false, false, false, false, false, false, false, false, false, false, false, false, true, false, false, false, false, false, true, false, false, false, false, false, true]) (t := 40) (want := false) (hf := by rfl) (hg := by kernel_rfl) (hm := by kernel_rfl)
        · rfl
        dsimp only [List.nil_append, List.cons_append]
        apply relS_det (mask := [false, false, false, false, false, false, false, false, false, false, false, false, false, false, false, false, false, false, false, false, false, false, false, true, false, false, false, false, false, false, false, false, false, false, false, false, true]) (x := .bool true)
        · rfl
        · kernel_rfl
        · kernel_rfl
        · dsimp only [oblS]
          rintro w9 h9
          go_simp
          exact ⟨Below.refl _ _, rfl⟩
        dsimp only [List.nil_append, List.cons_append]
        refine relS_end (by rfl) ?_
        dsimp only [finS]
        -- rintro  w8 hb
        rintro w9 hb9
        have HR : Hid (decide (l = l') = false) := by
          show _ = _
          rw [decide_eq_false_iff_not]
          rintro rfl
          have h1 := HZ.out
          rw [HZ'.out] at h1
          have h2 := HQ.out
          rw [Option.some.inj h1] at h2
          simp at h2
        have hbw := hbe.trans (hb9.mono hbe.size)
        go_simp
        go_wp2_with fail
        go_ret
        exact ⟨ret_bool HR.out.symm, hbw⟩
      · skip
        refine wp_region_S wr.heap.size 38 (fun _ => false) (Nat.le_refl _) (by kernel_rfl) (by kernel_rfl) (by kernel_rfl) ?_
        dsimp only [List.take, List.drop]
        apply relS_det (mask := [])
        · rfl
        · kernel_rfl
        · kernel_rfl
        · dsimp only [oblS]
          rintro w9 h9
          go_simp
          exact ⟨Below.refl _ _, rfl⟩
        dsimp only [List.nil_append, List.cons_append]
        apply relS_det (mask := [false])
        · rfl
        · kernel_rfl
        · kernel_rfl
        · dsimp only [oblS]
          rintro w9 h9
          go_simp
          exact ⟨Below.refl _ _, rfl⟩
        dsimp only [List.nil_append, List.cons_append]
        apply relS_det (mask := [true, true])
        · rfl
        · kernel_rfl
        · kernel_rfl
        · dsimp only [oblS]
          rintro w9 h9
          go_simp
          exact ⟨Below.refl _ _, rfl⟩
        dsimp only [List.nil_append, List.cons_append]
        apply relS_det (mask := [false, false, true]) (x := .agg #[.int .i64 a.op, .int .i64 a.course, .string ByteArray.empty, .int .i64 a.n, .int .i64 a.d, .slice none 0 0])
        · rfl
        · kernel_rfl
        · kernel_rfl
        · dsimp only [oblS]
          rintro w9 h9
          have hc9 := (bcell h9).1
          go_simp
          exact ⟨Below.refl _ _, rfl⟩
        dsimp only [List.nil_append, List.cons_append]
        apply relS_det (mask := [false, false, false, false])
        · rfl
        · kernel_rfl
        · kernel_rfl
        · dsimp only [oblS]
          rintro w9 h9
          go_simp
          exact ⟨Below.refl _ _, rfl⟩
        dsimp only [List.nil_append, List.cons_append]
        apply relS_det (mask := [false, false, false, false, false])
        · rfl
        · kernel_rfl
        · kernel_rfl
        · dsimp only [oblS]
          rintro w9 h9
          go_simp
          exact ⟨Below.refl _ _, rfl⟩
        dsimp only [List.nil_append, List.cons_append]
        apply relS_det (mask := [false, false, false, false, true, true])
        · rfl
        · kernel_rfl
        · kernel_rfl
        · dsimp only [oblS]
          rintro w9 h9
          go_simp
          exact ⟨Below.refl _ _, rfl⟩
        dsimp only [List.nil_append, List.cons_append]
        apply relS_det (mask := [false, false, false, false, false, false, true]) (x := .agg #[.int .i64 a'.op, .int .i64 a'.course, .string ByteArray.empty, .int .i64 a'.n, .int .i64 a'.d, .slice none 0 0])
        · rfl
        · kernel_rfl
        · kernel_rfl
        · dsimp only [oblS]
          rintro w9 h9
          have hc9 := (bcell h9).1
          go_simp
          exact ⟨Below.refl _ _, rfl⟩
        dsimp only [List.nil_append, List.cons_append]
        apply relS_det (mask := [false, false, false, true, false, false, false, true]) (x := .bool true)
        · rfl
        · kernel_rfl
        · kernel_rfl
        · dsimp only [oblS]
          rintro w9 h9
          have hc9 := (bcell h9).1
          go_simp
          refine (vSameAtom_any (atR a) (atR a') w9).mono ?_
          rintro e w1 ⟨rfl, hb⟩
          exact ⟨_, rfl, hb, by show _ = _; rw [show decide (atX (atR a) = atX (atR a')) = true from HQ.out]⟩
        dsimp only [List.nil_append, List.cons_append]
        apply relS_det (mask := [false, false, false, false, false, false, false, false, true]) (x := .bool false)
        · rfl
        · kernel_rfl
        · kernel_rfl
        · dsimp only [oblS]
          rintro w9 h9
          go_simp
          exact ⟨Below.refl _ _, rfl⟩
        dsimp only [List.nil_append, List.cons_append]
        apply relS_det (mask := [false, false, false, false, false, false, false, false, false, true]) (x := .bool false)
        · rfl
        · kernel_rfl
        · kernel_rfl
        · dsimp only [oblS]
          rintro w9 h9
          go_simp
          exact ⟨Below.refl _ _, rfl⟩
        dsimp only [List.nil_append, List.cons_append]
        apply relS_detg (mask := [false, false, false, false, false, false, false, false, false, false, true]) (t := 27) (want := false)
        · rfl
        · kernel_rfl
        · kernel_rfl
        · dsimp only [oblS]
          refine ⟨by rfl, ?_⟩
          rintro w9 h9
          go_simp
          exact ⟨Below.refl _ _, rfl⟩
        dsimp only [List.nil_append, List.cons_append]
        apply relS_detg (mask := [false, false, false, false, false, false, false, false, false, false, true, false]) (t := 27) (want := false)
        · rfl
        · kernel_rfl
        · kernel_rfl
        · dsimp only [oblS]
          refine ⟨by rfl, ?_⟩
          rintro w9 h9
          go_simp
          exact ⟨Below.refl _ _, rfl⟩
        dsimp only [List.nil_append, List.cons_append]
        apply relS_detg (mask := [false, false, false, false, false, false, false, false, false, false, true, true, true]) (t := 27) (want := false)
        · rfl
        · kernel_rfl
        · kernel_rfl
        · dsimp only [oblS]
          refine ⟨by rfl, ?_⟩
          rintro w9 h9
          go_simp
          exact ⟨Below.refl _ _, rfl⟩
        dsimp only [List.nil_append, List.cons_append]
        apply relS_detg (mask := [false, false, false, false, false, false, false, false, false, false, true, false, false, true]) (t := 27) (want := false)
        · rfl
        · kernel_rfl
        · kernel_rfl
        · dsimp only [oblS]
          refine ⟨by rfl, ?_⟩
          rintro w9 h9
          go_simp
          exact ⟨Below.refl _ _, rfl⟩
        dsimp only [List.nil_append, List.cons_append]
        apply relS_detg (mask := [false, false, false, false, false, false, false, false, false, false, true, false, false, false, true]) (t := 27) (want := false)
        · rfl
        · kernel_rfl
        · kernel_rfl
        · dsimp only [oblS]
          refine ⟨by rfl, ?_⟩
          rintro w9 h9
          have hc9 := (bcell h9).1
          go_simp
          exact ⟨Below.refl _ _, rfl⟩
        dsimp only [List.nil_append, List.cons_append]
        apply relS_detg (mask := [false, false, false, false, false, false, false, false, false, false, true, false, false, false, false, false]) (t := 27) (want := false)
        · rfl
        · kernel_rfl
        · kernel_rfl
        · dsimp only [oblS]
          refine ⟨by rfl, ?_⟩
          rintro w9 h9
          go_simp
          exact ⟨Below.refl _ _, rfl⟩
        dsimp only [List.nil_append, List.cons_append]
        apply relS_detg (mask := [false, false, false, false, false, false, false, false, false, false, true, false, false, false, false, false, false]) (t := 27) (want := false)
        · rfl
        · kernel_rfl
        · kernel_rfl
        · dsimp only [oblS]
          refine ⟨by rfl, ?_⟩
          rintro w9 h9
          go_simp
          exact ⟨Below.refl _ _, rfl⟩
        dsimp only [List.nil_append, List.cons_append]
        apply relS_detg (mask := [false, false, false, false, false, false, false, false, false, false, true, false, false, false, false, false, true, true]) (t := 27) (want := false)
        · rfl
        · kernel_rfl
        · kernel_rfl
        · dsimp only [oblS]
          refine ⟨by rfl, ?_⟩
          rintro w9 h9
          go_simp
          exact ⟨Below.refl _ _, rfl⟩
        dsimp only [List.nil_append, List.cons_append]
        apply relS_detg (mask := [false, false, false, false, false, false, false, false, false, false, true, false, false, false, false, false, false, false, true]) (t := 27) (want := false)
        · rfl
        · kernel_rfl
        · kernel_rfl
        · dsimp only [oblS]
          refine ⟨by rfl, ?_⟩
          rintro w9 h9
          go_simp
          exact ⟨Below.refl _ _, rfl⟩
        dsimp only [List.nil_append, List.cons_append]
        apply relS_detg (mask := [false, false, false, false, false, false, false, false, false, false, true, false, false, false, false, false, false, false, false, true]) (t := 27) (want := false)
        · rfl
        · kernel_rfl
        · kernel_rfl
        · dsimp only [oblS]
          refine ⟨by rfl, ?_⟩
          rintro w9 h9
          have hc9 := (bcell h9).1
          go_simp
          exact ⟨Below.refl _ _, rfl⟩
        dsimp only [List.nil_append, List.cons_append]
        apply relS_detg (mask := [false, false, false, false, false, false, false, false, false, false, true, false, false, false, false, true, false, false, false, false, true]) (t := 27) (want := false) (x := .bool false)
        · rfl
        · kernel_rfl
        · kernel_rfl
        · dsimp only [oblS]
          refine ⟨by rfl, ?_⟩
          rintro w9 h9
          go_simp
          exact ⟨Below.refl _ _, rfl⟩
        dsimp only [List.nil_append, List.cons_append]
        apply relS_det (mask := [false, false, false, false, false, false, false, false, false, false, true, false, false, false, false, false, false, false, false, false, false, true]) (x := .bool false)
        · rfl
        · kernel_rfl
        · kernel_rfl
        · dsimp only [oblS]
          rintro w9 h9
          go_simp
          exact ⟨Below.refl _ _, rfl⟩
        dsimp only [List.nil_append, List.cons_append]
        apply relS_det (mask := [false, false, false, false, false, false, false, false, false, false, false, false, false, false, false, false, false, false, false, false, false, false, true]) (x := .bool false)
        · rfl
        · kernel_rfl
        · kernel_rfl
        · dsimp only [oblS]
          rintro w9 h9
          go_simp
          exact ⟨Below.refl _ _, rfl⟩
        dsimp only [List.nil_append, List.cons_append]
        apply relS_detg (mask := [false, false, false, false, false, false, false, false, false, false, false, false, false, false, false, false, false, false, false, false, false, false, false, true]) (t := 40) (want := false)
        · rfl
        · kernel_rfl
        · kernel_rfl
        · dsimp only [oblS]
          refine ⟨by rfl, ?_⟩
          rintro w9 h9
          go_simp
          exact ⟨Below.refl _ _, rfl⟩
        dsimp only [List.nil_append, List.cons_append]
        apply relS_detg (mask := [false, false, false, false, false, false, false, false, false, false, false, false, false, false, false, false, false, false, false, false, false, false, false, true, false]) (t := 40) (want := false)
        · rfl
        · kernel_rfl
        · kernel_rfl
        · dsimp only [oblS]
          refine ⟨by rfl, ?_⟩
          rintro w9 h9
          go_simp
          exact ⟨Below.refl _ _, rfl⟩
        dsimp only [List.nil_append, List.cons_append]
        apply relS_detg (mask := [false, false, false, false, false, false, false, false, false, false, false, false, false, false, false, false, false, false, false, false, false, false, false, true, true, true]) (t := 40) (want := false)
        · rfl
        · kernel_rfl
        · kernel_rfl
        · dsimp only [oblS]
          refine ⟨by rfl, ?_⟩
          rintro w9 h9
          go_simp
          exact ⟨Below.refl _ _, rfl⟩
        dsimp only [List.nil_append, List.cons_append]
        apply relS_detg (mask := [false, false, false, false, false, false, false, false, false, false, false, false, false, false, false, false, false, false, false, false, false, false, false, true, false, false, true]) (t := 40) (want := false)
        · rfl
        · kernel_rfl
        · kernel_rfl
        · dsimp only [oblS]
          refine ⟨by rfl, ?_⟩
          rintro w9 h9
          go_simp
          exact ⟨Below.refl _ _, rfl⟩
        dsimp only [List.nil_append, List.cons_append]
        apply relS_detg (mask := [false, false, false, false, false, false, false, false, false, false, false, false, false, false, false, false, false, false, false, false, false, false, false, true, false, false, false, true]) (t := 40) (want := false)
        · rfl
        · kernel_rfl
        · kernel_rfl
        · dsimp only [oblS]
          refine ⟨by rfl, ?_⟩
          rintro w9 h9
          have hc9 := (bcell h9).1
          go_simp
          exact ⟨Below.refl _ _, rfl⟩
        dsimp only [List.nil_append, List.cons_append]
        apply relS_detg (mask := [false, false, false, false, false, false, false, false, false, false, false, false, false, false, false, false, false, false, false, false, false, false, false, true, false, false, false, false, true]) (t := 40) (want := false)
        · rfl
        · kernel_rfl
        · kernel_rfl
        · dsimp only [oblS]
          refine ⟨by rfl, ?_⟩
          rintro w9 h9
          go_simp
          exact ⟨Below.refl _ _, rfl⟩
        dsimp only [List.nil_append, List.cons_append]
        apply relS_detg (mask := [false, false, false, false, false, false, false, false, false, false, false, false, false, false, false, false, false, false, false, false, false, false, false, true, false, false, false, false, false, false]) (t := 40) (want := false)
        · rfl
        · kernel_rfl
        · kernel_rfl
        · dsimp only [oblS]
          refine ⟨by rfl, ?_⟩
          rintro w9 h9
          go_simp
          exact ⟨Below.refl _ _, rfl⟩
        dsimp only [List.nil_append, List.cons_append]
        apply relS_detg (mask := [false, false, false, false, false, false, false, false, false, false, false, false, false, false, false, false, false, false, false, false, false, false, false, true, false, false, false, false, false, false, false]) (t := 40) (want := false)
        · rfl
        · kernel_rfl
        · kernel_rfl
        · dsimp only [oblS]
          refine ⟨by rfl, ?_⟩
          rintro w9 h9
          go_simp
          exact ⟨Below.refl _ _, rfl⟩
        dsimp only [List.nil_append, List.cons_append]
        apply relS_detg (mask := [false, false, false, false, false, false, false, false, false, false, false, false, false, false, false, false, false, false, false, false, false, false, false, true, false, false, false, false, false, false, true, true]) (t := 40) (want := false)
        · rfl
        · kernel_rfl
        · kernel_rfl
        · dsimp only [oblS]
          refine ⟨by rfl, ?_⟩
          rintro w9 h9
          go_simp
          exact ⟨Below.refl _ _, rfl⟩
        dsimp only [List.nil_append, List.cons_append]
        apply relS_detg (mask := [false, false, false, false, false, false, false, false, false, false, false, false, false, false, false, false, false, false, false, false, false, false, false, true, false, false, false, false, false, false, false, false, true]) (t := 40) (want := false)
        · rfl
        · kernel_rfl
        · kernel_rfl
        · dsimp only [oblS]
          refine ⟨by rfl, ?_⟩
          rintro w9 h9
          go_simp
          exact ⟨Below.refl _ _, rfl⟩
        dsimp only [List.nil_append, List.cons_append]
        apply relS_detg (mask := [false, false, false, false, false, false, false, false, false, false, false, false, false, false, false, false, false, false, false, false, false, false, false, true, false, false, false, false, false, false, false, false, false, true]) (t := 40) (want := false)
        · rfl
        · kernel_rfl
        · kernel_rfl
        · dsimp only [oblS]
          refine ⟨by rfl, ?_⟩
          rintro w9 h9
          have hc9 := (bcell h9).1
          go_simp
          exact ⟨Below.refl _ _, rfl⟩
        dsimp only [List.nil_append, List.cons_append]
        apply relS_detg (mask := [false, false, false, false, false, false, false, false, false, false, false, false, false, false, false, false, false, false, false, false, false, false, false, true, false, false, false, false, false, false, false, false, false, false, true]) (t := 40) (want := false)
        · rfl
        · kernel_rfl
        · kernel_rfl
        · dsimp only [oblS]
          refine ⟨by rfl, ?_⟩
          rintro w9 h9
          go_simp
          exact ⟨Below.refl _ _, rfl⟩
        dsimp only [List.nil_append, List.cons_append]
        apply relS_detg (mask := [false, false, false, false, false, false, false, false, false, false, false, false, false, false, false, false, false, false, false, false, false, false, false, true, false, false, false, false, false, true, false, false, false, false, false, true]) (t := 40) (want := false) (x := .bool false)
        · rfl
        · kernel_rfl
        · kernel_rfl
        · dsimp only [oblS]
          refine ⟨by rfl, ?_⟩
          rintro w9 h9
          go_simp
          exact ⟨Below.refl _ _, rfl⟩
        dsimp only [List.nil_append, List.cons_append]
        apply relS_det (mask := [false, false, false, false, false, false, false, false, false, false, false, false, false, false, false, false, false, false, false, false, false, false, false, true, false, false, false, false, false, false, false, false, false, false, false, false, true]) (x := .bool false)
        · rfl
        · kernel_rfl
        · kernel_rfl
        · dsimp only [oblS]
          rintro w9 h9
          go_simp
          exact ⟨Below.refl _ _, rfl⟩
        dsimp only [List.nil_append, List.cons_append]
        refine relS_end (by rfl) ?_
        dsimp only [finS]
        -- rintro  w8 hb
        rintro w9 hb9
        have hbw := hbe.trans (hb9.mono hbe.size)
        have HT : Hid (l.take (k + 1) = l'.take (k + 1)) := by
          have h2 := HQ.out
          simp at h2
          exact take_eq_step HS.out HZ.out HZ'.out h2
        go_simp
        go_wp2_with fail
        go_roundw
        case rel => exact ⟨k + 1, by omega, by go_num, HT.out, hbw⟩
        case measure => simp [intOf]; omega
    · obtain rfl : k = n := by omega
      have hkk : ¬ ((k : Int) < k) := by omega
      have HR : Hid (decide (l = l') = true) := by
        show _ = _
        rw [decide_eq_true_eq]
        have := HS.out
        rwa [List.take_of_length_le (by have := HN.out; omega), List.take_of_length_le (by have := HN'.out; omega)] at this
      go_wp2_with fail
      go_ret
      exact ⟨ret_bool HR.out.symm, hbe⟩
end Go.Proofs.YtbmbpannhncpjaaDoor

/- The reference's Atoms (printed by tools/gen97.py). -/
namespace Go.Proofs.YtbmbpannhncpjaaDoor
open Go.RowKit Go.Sort

def putAll (s l : List At) : List At := l.foldl (fun s y => insA y s) s
theorem putAll_step {s l : List At} {k : Nat} {y : At} (h : l[k]? = some y) : putAll s (l.take (k + 1)) = insA y (putAll s (l.take k)) := by
  rw [take_snoc h]; simp [putAll]
theorem putAll_len : ∀ (l s : List At), (putAll s l).length ≤ s.length + l.length
  | [], s => by simp [putAll]
  | y :: l, s => by
    have h1 := putAll_len l (insA y s)
    have h2 := ins_len (lt := At.lt) y s
    show (putAll (insA y s) l).length ≤ _
    simp only [insA, List.length_cons] at *
    omega
mutual
def atomsR : Ru → List At
  | .mk op c _ n d _ _ _ ks => atomsL (if withinB op 5 9 = true then [⟨op, c, n, d⟩] else []) ks
def atomsL (s : List At) : List Ru → List At
  | [] => s
  | x :: l => atomsL (putAll s (atomsR x)) l
end
def atomsS (x : Ru) : List At := if withinB x.op 5 9 = true then [atX x] else []
theorem atomsR_eq (x : Ru) : atomsR x = atomsL (atomsS x) x.kids := by cases x; rfl
theorem atomsL_append (l m : List Ru) : ∀ s, atomsL s (l ++ m) = atomsL (atomsL s l) m := by
  induction l with
  | nil => intro s; rfl
  | cons x l ih => intro s; simp [atomsL, ih]
theorem atomsL_step {s : List At} {l : List Ru} {i : Nat} {x : Ru} (h : l[i]? = some x) : atomsL s (l.take (i + 1)) = putAll (atomsL s (l.take i)) (atomsR x) := by
  rw [take_snoc h, atomsL_append]; rfl
theorem atomsL_len : ∀ {l : List Ru} {s : List At}, (∀ y ∈ l, (atomsR y).length ≤ (partsD 1 y).length) → (atomsL s l).length ≤ s.length + (partsL 1 l).length
  | [], s, _ => by simp [atomsL]
  | x :: l, s, h => by
    have h1 := atomsL_len (l := l) (s := putAll s (atomsR x)) fun y hy => h y (by simp [hy])
    have h2 := putAll_len (atomsR x) s
    have h3 := h x (by simp)
    rw [atomsL]
    simp only [partsL, List.length_append]
    omega
theorem atomsS_len (x : Ru) : (atomsS x).length ≤ 1 := by unfold atomsS; split <;> simp
theorem parts_kids (x : Ru) : (partsD 1 x).length = (partsL 1 x.kids).length + 1 := by
  rw [partsD_eq, List.length_cons, partsL_lenD (l := x.kids) (fun y _ => parts_lenD y) (wrap64 (1 + 1)) 1]
theorem atomsR_len (x : Ru) : (atomsR x).length ≤ (partsD 1 x).length := by
  induction x using Ru.ind with
  | h x ih =>
    have h1 := atomsL_len (l := x.kids) (s := atomsS x) ih
    have h2 := atomsS_len x
    rw [atomsR_eq, parts_kids]
    omega
theorem atoms_take (x : Ru) (k : Nat) : (atomsL (atomsS x) (x.kids.take k)).length ≤ (partsD 1 x).length := by
  have h1 := atomsL_len (l := x.kids.take k) (s := atomsS x) fun y _ => atomsR_len y
  have h2 := atomsS_len x
  have h3 : (partsL 1 x.kids).length = (partsL 1 (x.kids.take k)).length + (partsL 1 (x.kids.drop k)).length := by
    conv => lhs; rw [← List.take_append_drop k x.kids, partsL_append]
    simp
  rw [parts_kids]
  omega
theorem kid_parts {x y : Ru} {i : Nat} (h : x.kids[i]? = some y) : (partsD 1 y).length ≤ (partsD 1 x).length := by
  rw [parts_kids x, partsL_split h]
  simp only [List.length_append]
  omega

set_option maxRecDepth 100000 in
set_option maxHeartbeats 2000000 in
theorem vAtoms_any : ∀ (h : Nat) (x : Ru) (w : World), RuIn h w w.heap.size x → (partsD 1 x).length ≤ 300000 → Calls Tryd.prog 16 #[.agg #[.int .i64 x.op, .int .i64 x.course, .string x.name, .int .i64 x.n, .int .i64 x.d, .slice x.kA x.kn x.kc]] w (RPost (atomsR x) w) := by
  intro h
  induction h using Nat.strongRecOn with
  | _ h ih =>
  intro x w hr hlp
  have HI := hidp ih
  have HN := hidp hr.len
  have hcap := hr.2.2.1
  have hlen := hr.2.1
  obtain ⟨W0, hW0⟩ : ∃ W0, w.alloc (.cells #[.int .i64 x.op, .int .i64 x.course, .string x.name, .int .i64 x.n, .int .i64 x.d, .slice x.kA x.kn x.kc] 24) = W0 := ⟨_, rfl⟩
  have hBW : Below w.heap.size w W0 := hW0 ▸ (Below.refl _ w).alloc (Nat.le_refl _) _
  have g1 : W0.heap[w.heap.size]? = some (.cells #[.int .i64 x.op, .int .i64 x.course, .string x.name, .int .i64 x.n, .int .i64 x.d, .slice x.kA x.kn x.kc] 24 (0, 0)) := hW0 ▸ World.alloc_heap_new _ _
  have HW0 := hidp hW0
  have l1 := lt_of_heap g1
  have G1 := hidp g1
  have x0 := cell_of_heap (o := 0) g1
  have x1 := cell_of_heap (o := 1) g1
  have x2 := cell_of_heap (o := 2) g1
  have x3 := cell_of_heap (o := 3) g1
  have x4 := cell_of_heap (o := 4) g1
  have x5 := cell_of_heap (o := 5) g1
  simp only [List.getElem?_toArray, List.getElem?_cons_zero, List.getElem?_cons_succ] at x0 x1 x2 x3 x4 x5
  clear hW0 ih g1

  obtain ⟨i0, hi, hz, hs, hbb⟩ := info_parts ruInfo
  obtain ⟨qa, hqa⟩ : ∃ q, withinB x.op 5 9 = q := ⟨_, rfl⟩
  have HQA := hidp hqa
  clear hqa
  have HAt : ∀ W, Calls Tryd.prog 41 #[.int .i64 x.op] W fun e w' => e = .returned (.bool qa) ∧ W = w' := fun W => by
    have := vAtom_any x.op W
    rwa [HQA.out] at this
  have HAT := hidp HAt
  clear HAt
  go_enter Tryd.func16, Tryd.ntmps16
  go_wp2_with fail
  rw [HW0.out]
  go_wp2_with fail
  refine (HAT.out _).mono ?_
  rintro e w1 ⟨rfl, rfl⟩
  cases qa
  · skip
    have HS0 : Hid (atomsS x = []) := by show _ = _; unfold atomsS; rw [HQA.out]; rfl
    clear x0 x1 x2 x3 x4
    go_wp2_with fail
    go_loopw [3, 4] (fun v i wr => ∃ (k : Nat) (A : Option Addr) (n c : Nat), k ≤ x.kn ∧ v = .slice A n c ∧ i = .int .i64 k ∧ rSl wr wr.heap.size A n c (atomsL (atomsS x) (x.kids.take k)) ∧ Below W0.heap.size W0 wr) (fun _ i _ => x.kn - (intOf i).toNat)
    case atStart => exact ⟨0, _, _, _, by omega, rfl, rfl, by rw [List.take_zero]; show rSl _ _ _ _ _ (atomsS x); rw [HS0.out]; exact Rows.nil (by decide), Below.refl _ _⟩
    case round =>
      obtain ⟨k, A, n, c, hk, rfl, rfl, hrow, hbe⟩ := hrel
      have HRW := hidp hrow
      have hbw := hBW.trans (hbe.mono hBW.size)
      have e1 := (hbe.block _ l1).trans G1.out
      have x5 := cell_of_heap (o := 5) e1
      simp only [List.getElem?_toArray, List.getElem?_cons_zero, List.getElem?_cons_succ] at x5
      have m1 := lt_of_heap e1
      clear e1 hrow
      by_cases hlt : k < x.kn
      · have hrq : RuIn h wr w.heap.size x := hr.below hbw
        obtain ⟨h', b, off, y, rfl, he, hb, hky, hry, c0, c1, c2, c3, c4, c5⟩ := hrq.get hlt
        have lb := lt_of_cell c0
        have hcl := HI.out h' (Nat.lt_succ_self _) y wr (hry.keep hbw.size fun q hq => rfl) (Nat.le_trans (kid_parts hky) hlp)
        have HKY := hidp hky
        have hln : n ≤ 300000 := by have h1 := atoms_take x k; have h2 := HRW.out.1; omega
        have hly : (atomsR y).length ≤ 300000 := by have h1 := atomsR_len y; have h2 := kid_parts hky; omega
        have hkn : (k : Int) < x.kn := by omega
        rw [he] at x5
        rw [he]
        have HCL := hidp hcl
        clear hky hry hrq he hcl
        go_wp2_with fail
        refine HCL.out.mono ?_
        rintro e w5 ⟨A5, n5, c5', rfl, h5, hb5⟩
        have hbe5 := hbe.trans (hb5.mono hbe.size)
        have hn5 := h5.1
        have hcl5 := h5.2.1
        have hcm5 := h5.2.2.1
        have HD : Hid (∀ W, Below w5.heap.size w5 W → rSl W W.heap.size A5 n5 c5' (atomsR y)) := fun W hb => Rows.keep rStable h5 hb.size hb.block
        have HR5 := hidp (HRW.out.keep rStable hb5.size hb5.block)
        have HBE5 := hidp hbe5
        have HN5 := hidp hn5
        have hn5k : n5 ≤ 300000 := by omega
        clear h5 hn5 c0 c1 c2 c3 c4 c5 x5 lb HCL
        go_wp2_with fail
        go_loopw [3, 6] (fun v j wr => ∃ (q : Nat) (A : Option Addr) (n c : Nat), q ≤ n5 ∧ v = .slice A n c ∧ j = .int .i64 q ∧ rSl wr wr.heap.size A n c (putAll (atomsL (atomsS x) (x.kids.take k)) ((atomsR y).take q)) ∧ Below w5.heap.size w5 wr) (fun _ j _ => n5 - (intOf j).toNat)
        case atStart => exact ⟨0, _, _, _, by omega, rfl, rfl, HR5.out, Below.refl _ _⟩
        case round =>
          obtain ⟨q, A6, n6, c6, hq, rfl, rfl, hrow6, hbe6⟩ := hrel
          have HR6 := hidp hrow6
          have HBE6 := hidp hbe6
          have hl6 : n6 ≤ 600000 := by
            have h1 := putAll_len ((atomsR y).take q) (atomsL (atomsS x) (x.kids.take k))
            have h2 := atoms_take x k
            have h3 := hrow6.1
            simp only [List.length_take] at h1
            omega
          clear hrow6
          by_cases hltq : q < n5
          · obtain ⟨b7, off7, a, rfl, hb7, hza, c0, c1, c2, c3, c4, c5⟩ := rSl.get (HD.out wr hbe6) hltq
            have lb7 := lt_of_cell c0
            have HZA := hidp hza
            have hqn : (q : Int) < n5 := by omega
            have HS : Hid (putAll (atomsL (atomsS x) (x.kids.take k)) ((atomsR y).take (q + 1)) = insA a (putAll (atomsL (atomsS x) (x.kids.take k)) ((atomsR y).take q))) := putAll_step HZA.out
            clear hza
            go_wp2_with fail
            refine (vput_any A6 n6 c6 _ a wr HR6.out (by omega)).mono ?_
            rintro e w8 ⟨A8, n8, c8, rfl, h8, hb8⟩
            have hbe8 := HBE6.out.trans (hb8.mono HBE6.out.size)
            have HR8 := hidp h8
            clear h8 c0 c1 c2 c3 c4 c5
            go_wp2_with fail
            go_roundw
            case rel => exact ⟨q + 1, A8, n8, c8, by omega, rfl, by go_num, by rw [HS.out]; exact HR8.out, hbe8⟩
            case measure => simp [intOf]; omega
          · obtain rfl : q = n5 := by omega
            have hqq : ¬ ((q : Int) < q) := by omega
            have HS : Hid (atomsL (atomsS x) (x.kids.take (k + 1)) = putAll (atomsL (atomsS x) (x.kids.take k)) ((atomsR y).take q)) := by
              show _ = _
              have hT : (atomsR y).take q = atomsR y := List.take_of_length_le (by have := HN5.out; omega)
              rw [atomsL_step HKY.out, hT]
            have hbe9 := HBE5.out.trans (HBE6.out.mono HBE5.out.size)
            go_wp2_with fail
            go_roundw
            case rel => exact ⟨k + 1, A6, n6, c6, by omega, rfl, by go_num, by rw [HS.out]; exact HR6.out, hbe9⟩
            case measure => simp [intOf]; omega
      · obtain rfl : k = x.kn := by omega
        have HR : Hid (atomsR x = atomsL (atomsS x) (x.kids.take x.kn)) := by show _ = _; rw [atomsR_eq, HN.out, List.take_length]
        have hkk : ¬ ((x.kn : Int) < x.kn) := by omega
        go_wp2_with fail
        go_ret
        exact ⟨A, n, c, rfl, by rw [HR.out]; exact HRW.out, hbw⟩
  · skip
    have HS0 : Hid (atomsS x = [atX x]) := by show _ = _; unfold atomsS; rw [HQA.out]; rfl
    obtain ⟨v', w5, hrun, hown', hg, hat⟩ := run_append_one (P := Tryd.prog) (ty := 22) (l := ([] : List At)) (enc := rEnc) (w := W0) (base := W0.heap.size) (v := .slice none 0 0) (n := 0) Tryd.underlying22 hi hz hs hbb rfl rEnc_len (by decide) rEnc_one (World.ownsRow_nil _ _ _ _) (atX x) (by omega) (by omega) (Nat.le_refl _)
    obtain ⟨A4, c4, rfl, r4⟩ := own_rows rEnc_len (by decide) hown'
    have hb4 : Below W0.heap.size W0 w5 := ((Below.refl _ W0).alloc (Nat.le_refl _) _).grown hg (by simp) (fun g e => by simp [Value.ownBlock] at e)
    have HR4 := hidp r4
    have HRN := hidp hrun
    clear hrun hown' hg hat r4
    go_wp2_with (at_builtin; refine wpList_append_known rfl (.tmp 10) (.tmp 20) 22 rfl rfl rfl HRN.out ?_)
    clear x0 x1 x2 x3 x4 x5
    go_loopw [3, 4] (fun v i wr => ∃ (k : Nat) (A : Option Addr) (n c : Nat), k ≤ x.kn ∧ v = .slice A n c ∧ i = .int .i64 k ∧ rSl wr wr.heap.size A n c (atomsL (atomsS x) (x.kids.take k)) ∧ Below W0.heap.size W0 wr) (fun _ i _ => x.kn - (intOf i).toNat)
    case atStart => exact ⟨0, _, _, _, by omega, rfl, rfl, by rw [List.take_zero]; show rSl _ _ _ _ _ (atomsS x); rw [HS0.out]; exact HR4.out, hb4⟩
    case round =>
      obtain ⟨k, A, n, c, hk, rfl, rfl, hrow, hbe⟩ := hrel
      have HRW := hidp hrow
      have hbw := hBW.trans (hbe.mono hBW.size)
      have e1 := (hbe.block _ l1).trans G1.out
      have x5 := cell_of_heap (o := 5) e1
      simp only [List.getElem?_toArray, List.getElem?_cons_zero, List.getElem?_cons_succ] at x5
      have m1 := lt_of_heap e1
      clear e1 hrow
      by_cases hlt : k < x.kn
      · have hrq : RuIn h wr w.heap.size x := hr.below hbw
        obtain ⟨h', b, off, y, rfl, he, hb, hky, hry, c0, c1, c2, c3, c4, c5⟩ := hrq.get hlt
        have lb := lt_of_cell c0
        have hcl := HI.out h' (Nat.lt_succ_self _) y wr (hry.keep hbw.size fun q hq => rfl) (Nat.le_trans (kid_parts hky) hlp)
        have HKY := hidp hky
        have hln : n ≤ 300000 := by have h1 := atoms_take x k; have h2 := HRW.out.1; omega
        have hly : (atomsR y).length ≤ 300000 := by have h1 := atomsR_len y; have h2 := kid_parts hky; omega
        have hkn : (k : Int) < x.kn := by omega
        rw [he] at x5
        rw [he]
        have HCL := hidp hcl
        clear hky hry hrq he hcl
        go_wp2_with fail
        refine HCL.out.mono ?_
        rintro e w5 ⟨A5, n5, c5', rfl, h5, hb5⟩
        have hbe5 := hbe.trans (hb5.mono hbe.size)
        have hn5 := h5.1
        have hcl5 := h5.2.1
        have hcm5 := h5.2.2.1
        have HD : Hid (∀ W, Below w5.heap.size w5 W → rSl W W.heap.size A5 n5 c5' (atomsR y)) := fun W hb => Rows.keep rStable h5 hb.size hb.block
        have HR5 := hidp (HRW.out.keep rStable hb5.size hb5.block)
        have HBE5 := hidp hbe5
        have HN5 := hidp hn5
        have hn5k : n5 ≤ 300000 := by omega
        clear h5 hn5 c0 c1 c2 c3 c4 c5 x5 lb HCL
        go_wp2_with fail
        go_loopw [3, 6] (fun v j wr => ∃ (q : Nat) (A : Option Addr) (n c : Nat), q ≤ n5 ∧ v = .slice A n c ∧ j = .int .i64 q ∧ rSl wr wr.heap.size A n c (putAll (atomsL (atomsS x) (x.kids.take k)) ((atomsR y).take q)) ∧ Below w5.heap.size w5 wr) (fun _ j _ => n5 - (intOf j).toNat)
        case atStart => exact ⟨0, _, _, _, by omega, rfl, rfl, HR5.out, Below.refl _ _⟩
        case round =>
          obtain ⟨q, A6, n6, c6, hq, rfl, rfl, hrow6, hbe6⟩ := hrel
          have HR6 := hidp hrow6
          have HBE6 := hidp hbe6
          have hl6 : n6 ≤ 600000 := by
            have h1 := putAll_len ((atomsR y).take q) (atomsL (atomsS x) (x.kids.take k))
            have h2 := atoms_take x k
            have h3 := hrow6.1
            simp only [List.length_take] at h1
            omega
          clear hrow6
          by_cases hltq : q < n5
          · obtain ⟨b7, off7, a, rfl, hb7, hza, c0, c1, c2, c3, c4, c5⟩ := rSl.get (HD.out wr hbe6) hltq
            have lb7 := lt_of_cell c0
            have HZA := hidp hza
            have hqn : (q : Int) < n5 := by omega
            have HS : Hid (putAll (atomsL (atomsS x) (x.kids.take k)) ((atomsR y).take (q + 1)) = insA a (putAll (atomsL (atomsS x) (x.kids.take k)) ((atomsR y).take q))) := putAll_step HZA.out
            clear hza
            go_wp2_with fail
            refine (vput_any A6 n6 c6 _ a wr HR6.out (by omega)).mono ?_
            rintro e w8 ⟨A8, n8, c8, rfl, h8, hb8⟩
            have hbe8 := HBE6.out.trans (hb8.mono HBE6.out.size)
            have HR8 := hidp h8
            clear h8 c0 c1 c2 c3 c4 c5
            go_wp2_with fail
            go_roundw
            case rel => exact ⟨q + 1, A8, n8, c8, by omega, rfl, by go_num, by rw [HS.out]; exact HR8.out, hbe8⟩
            case measure => simp [intOf]; omega
          · obtain rfl : q = n5 := by omega
            have hqq : ¬ ((q : Int) < q) := by omega
            have HS : Hid (atomsL (atomsS x) (x.kids.take (k + 1)) = putAll (atomsL (atomsS x) (x.kids.take k)) ((atomsR y).take q)) := by
              show _ = _
              have hT : (atomsR y).take q = atomsR y := List.take_of_length_le (by have := HN5.out; omega)
              rw [atomsL_step HKY.out, hT]
            have hbe9 := HBE5.out.trans (HBE6.out.mono HBE5.out.size)
            go_wp2_with fail
            go_roundw
            case rel => exact ⟨k + 1, A6, n6, c6, by omega, rfl, by go_num, by rw [HS.out]; exact HR6.out, hbe9⟩
            case measure => simp [intOf]; omega
      · obtain rfl : k = x.kn := by omega
        have HR : Hid (atomsR x = atomsL (atomsS x) (x.kids.take x.kn)) := by show _ = _; rw [atomsR_eq, HN.out, List.take_length]
        have hkk : ¬ ((x.kn : Int) < x.kn) := by omega
        go_wp2_with fail
        go_ret
        exact ⟨A, n, c, rfl, by rw [HR.out]; exact HRW.out, hbw⟩
end Go.Proofs.YtbmbpannhncpjaaDoor

/- The reference's lists of atoms and of courses, plainly: the program's. -/
namespace Go.Proofs.YtbmbpannhncpjaaDoor
open Go.RowKit

def ltI (a b : Int) : Bool := decide (a < b)
def insI (c : Int) (l : List Int) : List Int := ins ltI c l
def ckAdd (s : List Int) (a : At) : List Int := if a.op = 5 ∨ a.op = 6 ∨ a.op = 9 then insI a.course s else s
def coursesR (x : Ru) : List Int := (atomsR x).foldl ckAdd []
theorem linI' : Lin ltI := linI
theorem ck_step {l : List At} {k : Nat} {a : At} (h : l[k]? = some a) : (l.take (k + 1)).foldl ckAdd [] = ckAdd ((l.take k).foldl ckAdd []) a := by
  rw [take_snoc h]; simp
theorem ck_len (l : List At) : ∀ s : List Int, (l.foldl ckAdd s).length ≤ s.length + l.length := by
  induction l with
  | nil => intro s; simp
  | cons a l ih =>
    intro s
    have h1 := ih (ckAdd s a)
    have h2 : (ckAdd s a).length ≤ s.length + 1 := by
      unfold ckAdd
      split
      · exact ins_len (lt := ltI) a.course s
      · omega
    simp only [List.foldl_cons, List.length_cons]
    omega
theorem atSet_nodup (l : List DRu) : (atSet l).Nodup := by
  have : ∀ (l : List DRu) (a : List At), a.Nodup → (l.foldl atAdd a).Nodup := by
    intro l
    induction l with
    | nil => intro a h; exact h
    | cons x l ih =>
      intro a h
      rw [List.foldl_cons]
      refine ih _ ?_
      unfold atAdd
      split
      · exact addKey_nodup h _
      · exact h
  exact this l [] (by simp)
theorem sorted_str {d : List At} (hs : SortedA d) (hn : d.Nodup) : Str At.lt d :=
  (hs.and hn).imp fun {x y} h => by
    rcases At.lt_tri x y with h1 | h1 | h1
    · exact h1
    · exact absurd h1 h.2
    · rw [h.1] at h1; cases h1
theorem putAll_str : ∀ (l s : List At), Str At.lt s → Str At.lt (putAll s l)
  | [], _, h => h
  | y :: l, s, h => putAll_str l (insA y s) (ins_str linA y s h)
theorem putAll_mem (k : At) : ∀ (l s : List At), k ∈ putAll s l ↔ k ∈ s ∨ k ∈ l
  | [], s => by simp [putAll]
  | y :: l, s => by
    have h := putAll_mem k l (insA y s)
    show k ∈ putAll (insA y s) l ↔ _
    rw [h, insA, ins_mem, List.mem_cons, or_comm (a := k = y), or_assoc]
theorem atomsL_str : ∀ (l : List Ru) (s : List At), Str At.lt s → Str At.lt (atomsL s l)
  | [], _, h => h
  | x :: l, s, h => by rw [atomsL]; exact atomsL_str l _ (putAll_str _ _ h)
theorem atomsR_str (x : Ru) : Str At.lt (atomsR x) := by
  rw [atomsR_eq]
  refine atomsL_str _ _ ?_
  unfold atomsS
  split
  · simp [Str]
  · simp [Str]
theorem atomsL_mem (k : At) : ∀ (l : List Ru) (s : List At), k ∈ atomsL s l ↔ k ∈ s ∨ ∃ y ∈ l, k ∈ atomsR y
  | [], s => by simp [atomsL]
  | x :: l, s => by
    rw [atomsL, atomsL_mem k l, putAll_mem, or_assoc]
    simp
theorem atomsR_mem (x : Ru) : ∀ (d : Int) (k : At), k ∈ atomsR x ↔ ∃ y ∈ partsD d x, withinB y.2.op 5 9 = true ∧ atK y = k := by
  induction x using Ru.ind with
  | h x ih =>
    intro d k
    rw [atomsR_eq, atomsL_mem, partsD_eq]
    have h1 : k ∈ atomsS x ↔ withinB x.op 5 9 = true ∧ atX x = k := by
      unfold atomsS
      split
      · rename_i h; simp [h, eq_comm]
      · rename_i h; simp [h]
    rw [h1]
    constructor
    · rintro (⟨h2, h3⟩ | ⟨y, hy, h2⟩)
      · exact ⟨_, List.mem_cons_self .., h2, h3⟩
      · obtain ⟨z, hz, h3⟩ := (ih y hy (wrap64 (d + 1)) k).1 h2
        exact ⟨z, List.mem_cons_of_mem _ (partsL_mem.2 ⟨y, hy, hz⟩), h3⟩
    · rintro ⟨y, hy, h2, h3⟩
      rcases List.mem_cons.1 hy with rfl | hy
      · exact .inl ⟨h2, h3⟩
      · obtain ⟨z, hz, h4⟩ := partsL_mem.1 hy
        exact .inr ⟨z, hz, (ih z hz (wrap64 (d + 1)) k).2 ⟨y, h4, h2, h3⟩⟩
theorem atoms_eq {x : Ru} {d : List At} (hp : d.Perm (atSet (partsD 1 x))) (hs : SortedA d) : d = atomsR x := by
  refine str_ext linA (sorted_str hs ((hp.nodup_iff).2 (atSet_nodup _))) (atomsR_str x) fun k => ?_
  rw [hp.mem_iff, atSet_mem, ← atomsR_mem x 1 k]
theorem ckL_str : ∀ (l : List At) (s : List Int), Str ltI s → Str ltI (l.foldl ckAdd s)
  | [], _, h => h
  | y :: l, s, h => by
    rw [List.foldl_cons]
    refine ckL_str l _ ?_
    unfold ckAdd
    split
    · exact ins_str linI' _ _ h
    · exact h
theorem ckL_mem (c : Int) : ∀ (l : List At) (s : List Int), c ∈ l.foldl ckAdd s ↔ c ∈ s ∨ ∃ a ∈ l, (a.op = 5 ∨ a.op = 6 ∨ a.op = 9) ∧ a.course = c
  | [], s => by simp
  | y :: l, s => by
    rw [List.foldl_cons, ckL_mem c l]
    have h1 : c ∈ ckAdd s y ↔ c ∈ s ∨ ((y.op = 5 ∨ y.op = 6 ∨ y.op = 9) ∧ y.course = c) := by
      unfold ckAdd
      split
      · rename_i h
        rw [insI, ins_mem]
        constructor
        · rintro (h2 | h2)
          · exact .inr ⟨h, h2.symm⟩
          · exact .inl h2
        · rintro (h2 | ⟨_, h2⟩)
          · exact .inr h2
          · exact .inl h2.symm
      · rename_i h; exact ⟨.inl, fun h2 => h2.elim id fun h3 => absurd h3.1 h⟩
    rw [h1, or_assoc]
    simp
theorem courses_eq {x : Ru} {xs : List Int} (hp : xs.Perm (courseSet (partsD 1 x))) : (xs.mergeSort fun x y => decide (x ≤ y)) = coursesR x := by
  have hs := List.pairwise_mergeSort (le := fun x y : Int => decide (x ≤ y)) (fun a b c h1 h2 => by simp at *; omega) (fun a b => by simp; omega) xs
  have hq : (xs.mergeSort fun x y => decide (x ≤ y)).Perm (courseSet (partsD 1 x)) := (List.mergeSort_perm _ _).trans hp
  refine str_ext linI' ?_ (ckL_str _ _ (by simp [Str])) fun c => ?_
  · exact (hs.and ((hq.nodup_iff).2 (courseSet_nodup _))).imp fun {x y} h => by
      have h1 := h.1; have h2 := h.2
      simp only [ltI, decide_eq_true_eq] at *
      omega
  · rw [hq.mem_iff, courseSet_mem]
    show _ ↔ c ∈ (atomsR x).foldl ckAdd []
    rw [ckL_mem]
    constructor
    · rintro ⟨y, hy, h1, h2⟩
      exact .inr ⟨atK y, (atomsR_mem x 1 _).2 ⟨y, hy, by have : y.2.op = 5 ∨ y.2.op = 6 ∨ y.2.op = 9 := h1; simp [withinB]; omega, rfl⟩, h1, h2⟩
    · rintro (h | ⟨a, ha, h1, h2⟩)
      · cases h
      · obtain ⟨y, hy, _, rfl⟩ := (atomsR_mem x 1 a).1 ha
        exact ⟨y, hy, h1, h2⟩
end Go.Proofs.YtbmbpannhncpjaaDoor

