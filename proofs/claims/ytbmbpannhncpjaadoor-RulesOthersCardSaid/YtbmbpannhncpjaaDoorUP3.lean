/- Laws of rules, plainly: other courses do not matter; negations; all, any, at least. -/
import Derived.Test.YtbmbpannhncpjaaDoorUP2
namespace Go.Proofs.YtbmbpannhncpjaaDoor
open Go.RowKit

theorem courseSet_mem (l : List DRu) (c : Int) : c ∈ courseSet l ↔ ∃ y ∈ l, (y.2.op = 5 ∨ y.2.op = 6 ∨ y.2.op = 9) ∧ y.2.course = c := by
  have : ∀ (l : List DRu) (a : List Int), c ∈ l.foldl coursesAdd a ↔ c ∈ a ∨ ∃ y ∈ l, (y.2.op = 5 ∨ y.2.op = 6 ∨ y.2.op = 9) ∧ y.2.course = c := by
    intro l
    induction l with
    | nil => simp
    | cons x l ih =>
      intro a
      rw [List.foldl_cons, ih]
      unfold coursesAdd
      split
      · rename_i h
        rw [addKey_mem2]
        constructor
        · rintro ((h1 | h1) | ⟨y, hy, h2⟩)
          · exact .inl h1
          · exact .inr ⟨x, by simp, h, h1.symm⟩
          · exact .inr ⟨y, by simp [hy], h2⟩
        · rintro (h1 | ⟨y, hy, h2, h3⟩)
          · exact .inl (.inl h1)
          · rcases List.mem_cons.1 hy with rfl | hy
            · exact .inl (.inr h3.symm)
            · exact .inr ⟨y, hy, h2, h3⟩
      · rename_i h
        constructor
        · rintro (h1 | ⟨y, hy, h2⟩)
          · exact .inl h1
          · exact .inr ⟨y, by simp [hy], h2⟩
        · rintro (h1 | ⟨y, hy, h2, h3⟩)
          · exact .inl h1
          · rcases List.mem_cons.1 hy with rfl | hy
            · exact absurd h2 h
            · exact .inr ⟨y, hy, h2, h3⟩
  simpa [courseSet] using this l []
theorem addKey_nodup {α : Type} [DecidableEq α] {ks : List α} (h : ks.Nodup) (a : α) : (addKey ks a).Nodup := by
  unfold addKey
  split
  · exact h
  · rename_i hn
    rw [List.nodup_append]
    refine ⟨h, by simp, fun x hx y hy => ?_⟩
    obtain rfl := List.mem_singleton.1 hy
    rintro rfl
    exact hn hx
theorem courseSet_nodup (l : List DRu) : (courseSet l).Nodup := by
  have : ∀ (l : List DRu) (a : List Int), a.Nodup → (l.foldl coursesAdd a).Nodup := by
    intro l
    induction l with
    | nil => intro a h; exact h
    | cons x l ih =>
      intro a h
      rw [List.foldl_cons]
      refine ih _ ?_
      unfold coursesAdd
      split
      · exact addKey_nodup h _
      · exact h
  exact this l [] (by simp)
/-- What a situation says about courses of a list, as the law's loops collect it. -/
def othersL (cs : List Int) (l : List Sn) : List Sn := l.flatMap fun y => List.replicate (cs.count y.course) y
theorem othersL_step {cs : List Int} {l : List Sn} {i : Nat} {y : Sn} (h : l[i]? = some y) : othersL cs (l.take (i + 1)) = othersL cs (l.take i) ++ List.replicate (cs.count y.course) y := by
  rw [take_snoc h]; simp [othersL]
theorem othersL_filter {cs : List Int} (h : cs.Nodup) (l : List Sn) : othersL cs l = l.filter fun y => decide (y.course ∈ cs) := by
  induction l with
  | nil => rfl
  | cons y l ih =>
    have e : othersL cs (y :: l) = List.replicate (cs.count y.course) y ++ othersL cs l := rfl
    rw [e, ih, List.filter_cons]
    by_cases hm : y.course ∈ cs
    · rw [h.count, if_pos hm, if_pos (by simpa using hm)]; rfl
    · rw [List.count_eq_zero_of_not_mem hm, if_neg (by simpa using hm)]; rfl
theorem count_step {cs : List Int} {k : Nat} {c z : Int} (h : cs[k]? = some z) : (cs.take (k + 1)).count c = (cs.take k).count c + if z = c then 1 else 0 := by
  rw [take_snoc h, List.count_append, List.count_singleton]
  simp
theorem fitsL_filter (p : Sn → Bool) : ∀ (l : List Sn) (a b : Int), fitsL a l = true → b ≤ a → fitsL b (l.filter p) = true
  | [], _, _, _, _ => rfl
  | x :: l, a, b, h, hb => by
    simp only [fitsL, Bool.and_eq_true] at h
    obtain ⟨⟨⟨⟨h1, h2⟩, h3⟩, h4⟩, h5⟩ := h
    simp only [withinB, Bool.and_eq_true, decide_eq_true_eq] at h1
    rw [List.filter_cons]
    split
    · simp only [fitsL, Bool.and_eq_true]
      refine ⟨⟨⟨⟨?_, h2⟩, h3⟩, h4⟩, fitsL_filter p l _ _ h5 (Int.le_refl _)⟩
      simp only [withinB, Bool.and_eq_true, decide_eq_true_eq]
      omega
    · exact fitsL_filter p l _ _ h5 (by omega)
theorem about_filter (p : Sn → Bool) (c : Int) : ∀ (l : List Sn), (∀ y ∈ l, y.course = c → p y = true) → aboutS (l.filter p) c = aboutS l c
  | [], _ => rfl
  | x :: l, h => by
    have ih := about_filter p c l fun y hy => h y (by simp [hy])
    rw [List.filter_cons]
    by_cases hc : x.course = c
    · rw [if_pos (h x (by simp) hc)]
      simp [aboutS, hc]
    · split
      · simp [aboutS, hc, ih]
      · simp [aboutS, hc, ih]
/-- A situation that says nothing about courses that a rule does not mention. -/
theorem others_law {s t : Si} {x : Ru} (hs : t.seen = s.seen.filter fun y => decide (y.course ∈ courseSet (partsD 1 x))) (he : t.earned = s.earned) (hn : t.num = s.num) (hd : t.den = s.den) (hx : checkB x = true) : valR t x = valR s x := by
  refine atoms_law x 1 (allF_of_check hx) fun y hy h59 => ?_
  have hab : (y.2.op = 5 ∨ y.2.op = 6 ∨ y.2.op = 9) → aboutS t.seen y.2.course = aboutS s.seen y.2.course := fun h => by
    rw [hs]
    refine about_filter _ _ _ fun z _ hz => ?_
    rw [decide_eq_true_eq, hz]
    exact (courseSet_mem _ _).2 ⟨y, hy, h, rfl⟩
  rw [valR_eq, valR_eq]
  show holdsK t y.2.op y.2.course y.2.n y.2.d 0 0 = holdsK s y.2.op y.2.course y.2.n y.2.d 0 0
  simp only [withinB, Bool.and_eq_true, decide_eq_true_eq] at h59
  have : y.2.op = 5 ∨ y.2.op = 6 ∨ y.2.op = 7 ∨ y.2.op = 8 ∨ y.2.op = 9 := by omega
  rcases this with e | e | e | e | e
  · simp [holdsK, e, hab (.inl e)]
  · simp [holdsK, e, hab (.inr (.inl e))]
  · simp [holdsK, e, he]
  · simp [holdsK, e, hn, hd]
  · simp [holdsK, e, hab (.inr (.inr e))]
theorem others_fits {s t : Si} {p : Sn → Bool} (hs : t.seen = s.seen.filter p) (he : t.earned = s.earned) (hn : t.num = s.num) (hd : t.den = s.den) (h : fitsB s = true) : fitsB t = true := by
  simp only [fitsB, Bool.and_eq_true] at h ⊢
  rw [hs, he, hn, hd]
  exact ⟨⟨fitsL_filter p _ _ _ h.1.1 (Int.le_refl _), h.1.2⟩, h.2⟩

theorem val_not (s : Si) (c : Int) (nm : ByteArray) (n d : Int) (A : Option Addr) (k m : Nat) (x : Ru) : valR s (.mk 4 c nm n d A k m [x]) = !valR s x := by
  rw [valR_eq]
  show holdsK s 4 c n d 1 (cntR s [x]) = _
  cases h : valR s x <;> simp [holdsK, cntR, h]
theorem val_all (s : Si) (c : Int) (nm : ByteArray) (n d : Int) (A : Option Addr) (k m : Nat) (l : List Ru) : valR s (.mk 1 c nm n d A k m l) = decide (cntR s l = l.length) := by
  rw [valR_eq]
  show holdsK s 1 c n d l.length (cntR s l) = _
  simp [holdsK]
theorem val_any (s : Si) (c : Int) (nm : ByteArray) (n d : Int) (A : Option Addr) (k m : Nat) (l : List Ru) : valR s (.mk 2 c nm n d A k m l) = decide (0 < cntR s l) := by
  rw [valR_eq]
  show holdsK s 2 c n d l.length (cntR s l) = _
  simp [holdsK]
theorem val_least (s : Si) (c : Int) (nm : ByteArray) (n d : Int) (A : Option Addr) (k m : Nat) (l : List Ru) : valR s (.mk 3 c nm n d A k m l) = decide (n ≤ cntR s l) := by
  rw [valR_eq]
  show holdsK s 3 c n d l.length (cntR s l) = _
  simp [holdsK]
theorem cnt_nots (s : Si) : ∀ (l nots : List Ru), nots.map (valR s) = l.map (fun x => !valR s x) → cntR s nots + cntR s l = l.length
  | [], [], _ => rfl
  | [], _ :: _, h => by simp at h
  | _ :: _, [], h => by simp at h
  | x :: l, y :: nots, h => by
    simp only [List.map_cons, List.cons.injEq] at h
    have ih := cnt_nots s l nots h.2
    simp only [cntR, h.1, List.length_cons]
    cases valR s x <;> simp <;> omega
theorem dual_law (s : Si) {l nots : List Ru} (h : nots.map (valR s) = l.map (fun x => !valR s x)) :
    (!decide (cntR s l = l.length)) = decide (0 < cntR s nots) ∧ (!decide (0 < cntR s l)) = decide (cntR s nots = nots.length) := by
  have h1 := cnt_nots s l nots h
  have h2 : nots.length = l.length := by simpa using congrArg List.length h
  have h3 := cntR_le s l
  constructor
  · rw [← decide_not, decide_eq_decide]; omega
  · rw [← decide_not, decide_eq_decide]; omega
end Go.Proofs.YtbmbpannhncpjaaDoor
