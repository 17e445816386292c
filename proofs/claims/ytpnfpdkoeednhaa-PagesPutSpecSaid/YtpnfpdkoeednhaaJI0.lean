/- Integers in slices and as keys (the head of JI). -/
import Derived.Test.YtpnfpdkoeednhaaF1
import Derived.Test.YtpnfpdkoeednhaaM2
namespace Go.Proofs.Ytpnfpdkoeednhaa
open Go.RowKit

theorem iEnc_one (x : Int) : ∀ u ∈ iEnc x, u.oneCell' = true := by
  intro u hu; simp [iEnc] at hu; subst hu; rfl
abbrev iSl := Rows 1 (Rep.flat iEnc)
theorem iSl.get {n₀ n c k : Nat} {A : Option Addr} {l : List Int} {W : World} (h : iSl W n₀ A n c l) (hk : k < n) :
    ∃ b off m, A = some ⟨b, off, none⟩ ∧ b < n₀ ∧ l[k]? = some m ∧ W.cell? ⟨b, off + k, none⟩ = some (.int .i64 m) := by
  obtain ⟨b, off, m, cs, e, hlt, hk', rfl, hc⟩ := Rows.get h hk
  exact ⟨b, off, m, e, hlt, hk', by have := hc 0 _ rfl; simpa using this⟩
theorem iInfo : (Try.prog.info? 3).map (fun i => (i.zero, i.size, i.bytes)) = some (some (.int .i64 0), 1, 8) := by kernel_rfl
end Go.Proofs.Ytpnfpdkoeednhaa

