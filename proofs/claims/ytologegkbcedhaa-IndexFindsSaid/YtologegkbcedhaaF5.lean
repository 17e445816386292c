/- slices' functions at facts (printed by wip/tools/genslices.py). -/
import Derived.Test.YtologegkbcedhaaF1
import Derived.Test.YtologegkbcedhaaPut
import Derived.Shelf.Abstract
namespace Go.Proofs.Ytologegkbcedhaa
open Go.RowKit Go.Shelf

abbrev fSl := Rows 8 (Rep.flat fEnc)
theorem fStable : (Rep.flat fEnc).Stable := Rep.flat_stable _
theorem fSl.get {n₀ n c k : Nat} {A : Option Addr} {l : List (Fc)} {W : World} (h : fSl W n₀ A n c l) (hk : k < n) :
    ∃ b off m, A = some ⟨b, off, none⟩ ∧ b < n₀ ∧ l[k]? = some m ∧ W.cell? ⟨b, off + k * 8, none⟩ = some (.int .i64 m.key.kind) ∧ W.cell? ⟨b, off + k * 8 + 1, none⟩ = some (.int .i64 m.key.subj) ∧ W.cell? ⟨b, off + k * 8 + 2, none⟩ = some (.int .i64 m.key.obj) ∧ W.cell? ⟨b, off + k * 8 + 3, none⟩ = some (.int .i64 m.val) ∧ W.cell? ⟨b, off + k * 8 + 4, none⟩ = some (.int .i64 m.fr) ∧ W.cell? ⟨b, off + k * 8 + 5, none⟩ = some (.int .i64 m.to) ∧ W.cell? ⟨b, off + k * 8 + 6, none⟩ = some (.int .i64 m.known) ∧ W.cell? ⟨b, off + k * 8 + 7, none⟩ = some (.int .i64 m.no) := by
  obtain ⟨b, off, m, cs, e, hlt, hk', rfl, hc⟩ := Rows.get h hk
  exact ⟨b, off, m, e, hlt, hk', hc 0 _ rfl, hc 1 _ rfl, hc 2 _ rfl, hc 3 _ rfl, hc 4 _ rfl, hc 5 _ rfl, hc 6 _ rfl, hc 7 _ rfl⟩
theorem fInfo : (Try.prog.info? 86).map (fun i => (i.zero, i.size, i.bytes)) = some (some (.agg #[.int .i64 0, .int .i64 0, .int .i64 0, .int .i64 0, .int .i64 0, .int .i64 0, .int .i64 0, .int .i64 0]), 8, 64) := by kernel_rfl
theorem fZero (w : World) : (zeroValue 86).run Try.prog w = .ok (.agg #[.int .i64 0, .int .i64 0, .int .i64 0, .int .i64 0, .int .i64 0, .int .i64 0, .int .i64 0, .int .i64 0]) w := by
  obtain ⟨i0, hi, hz, _, _⟩ := info_parts fInfo
  simp [zeroValue, typeInfo, hi, hz]

end Go.Proofs.Ytologegkbcedhaa
