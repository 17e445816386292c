/- Several texts in one: Clip ClipR. -/
import Derived.Test.YtpnfpdkoeednhaaM3
section
/- 'append(slices.Clip(l), s...)': a slice without spare places is never written. Over any program. -/
namespace Go.Proofs.Ytpnfpdkoeednhaa
open Go.RowKit

theorem below_drewN {n : Nat} {a b : World} (h : Below n a b) (q : Nat) : Below n a (b.drewN q) := ⟨h.os, h.tape, h.output, h.size, h.block⟩

theorem rows_cells {α : Type} {k : Nat} {enc : α → List Value} {w : World} {n₀ n c : Nat} {ad : Addr} {s : List α} (hk : ∀ x, (enc x).length = k) (h0 : 0 < k) (hs : Rows k (Rep.flat enc) w n₀ (some ad) n c s) : ∀ j u, (s.flatMap enc)[j]? = some u → w.cell? (ad.add j) = some u := by
  intro j u hj
  obtain ⟨x, hx, hu⟩ := flat_at hk h0 s j u hj
  have hm : 0 < n := by
    rw [hs.1]
    exact Nat.lt_of_le_of_lt (Nat.zero_le _) (List.getElem?_eq_some_iff.1 hx).1
  obtain ⟨b, off, he, _, hx'⟩ := hs.2.2.2 hm
  obtain ⟨cs, rfl, hc⟩ := hx' _ _ hx
  injection he with he
  subst he
  rw [addr_add]
  have := hc _ _ hu
  rwa [Nat.add_assoc, Nat.div_add_mod'] at this

theorem run_append_clip {α : Type} {k : Nat} {e : TypeId} {enc : α → List Value} {w : World} {P : Program} {t ty : TypeId} {i : TypeInfo} {z : Value} {bytes n₀ n₁ n m c c' : Nat} {A A' : Option Addr} {l s : List α} (ht : P.underlying t = some (.slice e)) (hi : P.info? e = some i) (hz : i.zero = some z) (hsize : i.size = k) (hby : i.bytes = bytes) (hzs : z.cells.size = k)
    (hk : ∀ x, (enc x).length = k) (h0 : 0 < k) (h1 : ∀ x, ∀ u ∈ enc x, u.oneCell' = true) (hl : Rows k (Rep.flat enc) w n₀ A n c l) (hs : Rows k (Rep.flat enc) w n₁ A' m c' s) (hm : 0 < m)
    (hn : (n + m) * bytes ≤ 140737488355328) (hnm : n + m ≤ 9223372036854775807) :
    ∃ v' w', (Builtin.append_ #[t, t] ty #[.slice A n n, .slice A' m c']).run P w = .ok v' w' ∧ w'.ownsRow w.heap.size e k v' (n + m) ((l ++ s).flatMap enc) ∧ Below w.heap.size w w' := by
  obtain ⟨b, off, rfl, _, _⟩ := hs.2.2.2 hm
  rcases A with _ | ad
  · have hn0 : n = 0 := by
      rcases Nat.eq_zero_or_pos n with h | h
      · exact h
      · obtain ⟨_, _, he, _⟩ := hl.2.2.2 h
        cases he
    subst hn0
    have hl0 : l = [] := List.eq_nil_of_length_eq_zero hl.1.symm
    subst hl0
    obtain ⟨v', w', hrun, h2, h3, _, h5⟩ := run_append_own_at (P := P) w w.heap.size t ty e i z k bytes ht hi hz hsize hby hzs h0 (.slice none 0 0) 0 [] (World.ownsRow_nil _ _ _ _) ⟨b, off, none⟩ m c' (s.flatMap enc)
      (by rw [flat_len hk, hs.1]) (rows_cells hk h0 hs) (fun u hu => by obtain ⟨x, _, hx⟩ := List.mem_flatMap.1 hu; exact h1 x u hx) (by unfold maxLen; omega) hn (Nat.le_refl _)
    refine ⟨v', w', hrun, by simpa using h2, (Below.refl _ _).grown h3 (Nat.le_refl _) (fun q hq => by simp [Value.ownBlock] at hq)⟩
  · subst hsize hby
    have hlen : (l.flatMap enc).length = n * i.size := by rw [flat_len hk, hl.1]
    have hlen' : (s.flatMap enc).length = m * i.size := by rw [flat_len hk, hs.1]
    have hr := run_append_grow (P := P) w t ty e i z ht hi hz ad n n (l.flatMap enc) hlen (rows_cells hk h0 hl) ⟨b, off, none⟩ m c' (s.flatMap enc) hlen' (rows_cells hk h0 hs) (by omega) (by omega) (growslice_fits (by omega) hn)
    have hge := grownCap_ge w (n + m) n e
    have hcm : grownCap w (n + m) n e ≤ maxLen := grownCap_le_maxLen w (n + m) n e (by unfold maxLen; omega)
    refine ⟨_, _, hr, ⟨by rw [flat_len hk, List.length_append, ← hl.1, ← hs.1], .inr ⟨w.heap.size, _, _, rfl, Nat.le_refl _, heap_alloc_new w.drew _, hge, hcm, ?_, ?_⟩⟩, ⟨rfl, rfl, rfl, by simp, fun q hq => heap_alloc_old w.drew _ q hq⟩⟩
    · simp only [Array.size_append, List.size_toArray, size_zeroCells, hzs, hlen, hlen', ← Nat.add_mul]
      congr 1
      omega
    · simp only [Array.toList_append, List.flatMap_append]
      have : (l.flatMap enc ++ s.flatMap enc).length = (n + m) * i.size := by rw [List.length_append, hlen, hlen', Nat.add_mul]
      rw [← this]
      exact List.take_left
end Go.Proofs.Ytpnfpdkoeednhaa

end
section
/- 'append(slices.Clip(l), s...)', s empty or not, as rows. Over any program. -/
namespace Go.Proofs.Ytpnfpdkoeednhaa
open Go.RowKit

theorem run_append_none {P : Program} {w : World} {t ty e : TypeId} {i : TypeInfo} {A A' : Option Addr} {n c c' : Nat} (ht : P.underlying t = some (.slice e)) (hi : P.info? e = some i) (hA : A = none → n = 0) (hc : n ≤ c) :
    (Builtin.append_ #[t, t] ty #[.slice A n c, .slice A' 0 c']).run P w = .ok (.slice A n c) w := by
  have hld : ∀ a : Addr, (loadCells a 0).run P w = .ok #[] w := fun a => by simp [loadCells, loadCellsFrom]
  rcases A with _ | a
  · obtain rfl := hA rfl
    cases A' <;> simp [Builtin.append_, run_underlying ht, sizeOf, typeInfo, hi, Builtin.lenOf, Builtin.firstCells, hc, hld]
  · cases A' <;> simp [Builtin.append_, run_underlying ht, sizeOf, typeInfo, hi, Builtin.lenOf, Builtin.firstCells, storeCells, hc, hld]

theorem run_append_clipR {α : Type} {k : Nat} {e : TypeId} {enc : α → List Value} {w : World} {P : Program} {t ty : TypeId} {i : TypeInfo} {z : Value} {bytes n₀ n₁ n m c c' : Nat} {A A' : Option Addr} {l s : List α} (ht : P.underlying t = some (.slice e)) (hi : P.info? e = some i) (hz : i.zero = some z) (hsize : i.size = k) (hby : i.bytes = bytes) (hzs : z.cells.size = k)
    (hk : ∀ x, (enc x).length = k) (h0 : 0 < k) (h1 : ∀ x, ∀ u ∈ enc x, u.oneCell' = true) (hl : Rows k (Rep.flat enc) w n₀ A n c l) (hn₀ : n₀ ≤ w.heap.size) (hs : Rows k (Rep.flat enc) w n₁ A' m c' s)
    (hn : (n + m) * bytes ≤ 140737488355328) (hnm : n + m ≤ 9223372036854775807) :
    ∃ A2 c2 w', (Builtin.append_ #[t, t] ty #[.slice A n n, .slice A' m c']).run P w = .ok (.slice A2 (n + m) c2) w' ∧ Rows k (Rep.flat enc) w' w'.heap.size A2 (n + m) c2 (l ++ s) ∧ Below w.heap.size w w' := by
  rcases Nat.eq_zero_or_pos m with hm | hm
  · subst hm
    have hs0 : s = [] := List.eq_nil_of_length_eq_zero hs.1.symm
    subst hs0
    refine ⟨A, n, w, run_append_none ht hi (fun hA => ?_) (Nat.le_refl _), ?_, Below.refl _ _⟩
    · rcases Nat.eq_zero_or_pos n with h | h
      · exact h
      · obtain ⟨_, _, he, _⟩ := hl.2.2.2 h
        rw [hA] at he; cases he
    · rw [List.append_nil]
      have := hl.keep (Rep.flat_stable enc) hn₀ (fun _ _ => rfl)
      exact ⟨this.1, Nat.le_refl _, by have := hl.2.1; have := hl.2.2.1; omega, this.2.2.2⟩
  · obtain ⟨v', w', hrun, hown, hb⟩ := run_append_clip (P := P) (ty := ty) ht hi hz hsize hby hzs hk h0 h1 hl hs hm hn hnm
    obtain ⟨A2, c2, rfl, hr⟩ := own_rows hk h0 hown
    exact ⟨A2, c2, w', hrun, hr, hb⟩
end Go.Proofs.Ytpnfpdkoeednhaa

end

