/- Changes in memory, plainly. -/
import Derived.Test.YtologegkbcedhaaF8
import Derived.Test.YtologegkbcedhaaPut
namespace Go.Proofs.Ytologegkbcedhaa
open Go.RowKit Go.Shelf

/-- A change as it lies in memory: its key; the slice of its terms. -/
abbrev Cr := Ky × Option Addr × Nat × Nat
def cEnc (r : Cr) : List Value := [.int .i64 r.1.kind, .int .i64 r.1.subj, .int .i64 r.1.obj, .slice r.2.1 r.2.2.1 r.2.2.2]
theorem cEnc_len (x : Cr) : (cEnc x).length = 4 := rfl
theorem cEnc_one (x : Cr) : ∀ u ∈ cEnc x, u.oneCell' = true := by
  intro u hu; simp [cEnc] at hu; rcases hu with rfl | rfl | rfl | rfl <;> rfl
abbrev cSl := Rows 4 (Rep.flat cEnc)
theorem cStable : (Rep.flat cEnc).Stable := Rep.flat_stable _
theorem cSl.get {n₀ n c k : Nat} {A : Option Addr} {l : List Cr} {W : World} (h : cSl W n₀ A n c l) (hk : k < n) :
    ∃ b off m, A = some ⟨b, off, none⟩ ∧ b < n₀ ∧ l[k]? = some m ∧ W.cell? ⟨b, off + k * 4, none⟩ = some (.int .i64 m.1.kind) ∧ W.cell? ⟨b, off + k * 4 + 1, none⟩ = some (.int .i64 m.1.subj) ∧ W.cell? ⟨b, off + k * 4 + 2, none⟩ = some (.int .i64 m.1.obj) ∧ W.cell? ⟨b, off + k * 4 + 3, none⟩ = some (.slice m.2.1 m.2.2.1 m.2.2.2) := by
  obtain ⟨b, off, m, cs, e, hlt, hk', rfl, hc⟩ := Rows.get h hk
  exact ⟨b, off, m, e, hlt, hk', hc 0 _ rfl, hc 1 _ rfl, hc 2 _ rfl, hc 3 _ rfl⟩
theorem cInfo : (Try.prog.info? 63).map (fun i => (i.zero, i.size, i.bytes)) = some (some (.agg #[.int .i64 0, .int .i64 0, .int .i64 0, .slice none 0 0]), 4, 48) := by kernel_rfl
abbrev Ch := Ky × List (Int × Int)
/-- It reads as the change. -/
def ChOk (W : World) (r : Cr) (ch : Ch) : Prop := r.1 = ch.1 ∧ sSl W W.heap.size r.2.1 r.2.2.1 r.2.2.2 ch.2
def ChOks (W : World) (raw : List Cr) (chs : List Ch) : Prop := raw.length = chs.length ∧ ∀ (i : Nat) (r : Cr) (ch : Ch), raw[i]? = some r → chs[i]? = some ch → ChOk W r ch
theorem ChOk.below {W W' : World} {r : Cr} {ch : Ch} (h : ChOk W r ch) (hb : Below W.heap.size W W') : ChOk W' r ch := ⟨h.1, h.2.keep sStable hb.size hb.block⟩
theorem ChOks.below {W W' : World} {raw : List Cr} {chs : List Ch} (h : ChOks W raw chs) (hb : Below W.heap.size W W') : ChOks W' raw chs := ⟨h.1, fun i r ch h1 h2 => (h.2 i r ch h1 h2).below hb⟩
theorem ChOks.nil (W : World) : ChOks W [] [] := ⟨rfl, fun i r ch h => by simp at h⟩
theorem ChOks.snoc {W : World} {raw : List Cr} {chs : List Ch} {r : Cr} {ch : Ch} (h : ChOks W raw chs) (hr : ChOk W r ch) : ChOks W (raw ++ [r]) (chs ++ [ch]) := by
  refine ⟨by simp [h.1], fun i r' ch' h1 h2 => ?_⟩
  rcases Nat.lt_or_ge i raw.length with hi | hi
  · rw [List.getElem?_append_left hi] at h1
    rw [List.getElem?_append_left (by rw [← h.1]; exact hi)] at h2
    exact h.2 i r' ch' h1 h2
  · rw [List.getElem?_append_right hi] at h1
    rw [List.getElem?_append_right (by rw [← h.1]; exact hi), ← h.1] at h2
    have : i - raw.length = 0 := by
      rcases Nat.eq_zero_or_pos (i - raw.length) with h0 | h0
      · exact h0
      · rw [List.getElem?_eq_none (by simp; omega)] at h1; cases h1
    rw [this] at h1 h2
    simp at h1 h2
    subst h1 h2
    exact hr
/-- What Changed hands back. -/
def ChPost (chs : List Ch) (w : World) (e : Ending) (w' : World) : Prop := ∃ A n c raw, e = .returned (.slice A n c) ∧ cSl w' w'.heap.size A n c raw ∧ ChOks w' raw chs ∧ Below w.heap.size w w'
end Go.Proofs.Ytologegkbcedhaa
