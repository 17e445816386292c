/- Proved: for all pages, valid or not, and every fact, Check and Put agree with the reference (P47.1, P47.2): the statement PagesPutSpec holds at every input; no conditions. -/
import Derived.Test.YtpnfpdkoeednhaaA50
import Derived.Test.YtpnfpdkoeednhaaPD
namespace Go.Proofs.Ytpnfpdkoeednhaa
open Go.RowKit Go.Shelf Go.ChangeShapes Go.WideShapes Go.ChangeAt
set_option maxRecDepth 100000 in
theorem pagesPutSpec_lifted (os : Os) (started : os.Started) (H : Type) (enc : TypeId × Value → H) :
    ReturnsInHanded {} Try.checked os 3 .any (Rows.pagesPutSpecSpec.pre6 enc Try.prog Try.f3 Rows.pagesPutSpecRow.domain false) (Rows.pagesPutSpecSpec.post enc Try.prog Try.f3 false true false false) := by
  have hc := putP_any
  refine returnsInHanded_of_change_sized (C := Try.checked) Try.own started (by kernel_rfl) Try.func3
    (ChangeSpec.witness6 (enc := enc) (C := Try.checked) false ⟨#[], #[.agg #[.slice none 0 0, .slice none 0 0], .agg #[.int .i64 0, .int .i64 0, .int .i64 0, .int .i64 0, .int .i64 0, .int .i64 0, .int .i64 0, .int .i64 0]], []⟩ 8 (by kernel_rfl) (by kernel_rfl) (by kernel_rfl) (by kernel_rfl)) ?_
  intro W base args ds gs before hval0 hW hcnd hsz _
  have hval : ∀ (j : Nat) t v, Try.f3.params[j]? = some t → args[j]? = some v → Value.okWide Try.prog W .any base t v := hval0
  have hW' := hW
  obtain ⟨p, q, hA0, hV, rfl, hfz, hnd⟩ := hW
  obtain ⟨rfl, rfl⟩ := trodVars_none hV
  have hA : DataW.TrodAll enc Try.prog W 0 (fun _ => true) true Try.f3.params.toList args.toList ds p := hA0
  have hT0 := hA
  simp only [List.append_nil] at hW'
  rw [Try.params3] at hT0 hval
  obtain ⟨v0, vs0, d0, ds0, p0, q0, e0, f0, g0, h0, hT1⟩ := trodAll_cons hT0
  obtain ⟨v1, vs1, d1, ds1, p1, q1, e1, f1, g1, h1, hT2⟩ := trodAll_cons hT1
  subst e1 f1 g1
  obtain ⟨e9, f9, g9⟩ := trodAll_nil hT2
  subst e9 f9 g9
  obtain rfl : args = #[v0, v1] := by cases args; simp_all
  subst f0 g0
  clear e0
  obtain ⟨s0, rfl, r0⟩ := open_pages (hval 0 25 v0 rfl rfl) h0 (light_arg hsz (j := 0) rfl rfl)
  obtain ⟨x1, rfl, wf1⟩ := open_flat (en := fEnc) (k := 8) (d := 4) fDecP Try.underlying31 (by kernel_rfl) (by kernel_rfl) fDecP_enc (hval 1 31 v1 rfl rfl) h1
  refine (hc s0 x1 W r0).mono fun e W' ⟨he, hb⟩ => ?_
  subst he
  exact ⟨_, rfl, law_post Try.laidOut hW' hA (by rfl) rfl (by kernel_rfl) Try.underlying4 (of_decide_eq_true (by kernel_rfl)) hb⟩

theorem pagesPutSpec_holds : Rows.PagesPutSpecSaid :=
  OpenClaim.holds_of_wide 3 Try.f3 rfl rfl rfl rfl rfl rfl rfl ⟨rfl, rfl, rfl, rfl, rfl⟩ rfl rfl rfl rfl rfl (by kernel_rfl) Try.func3 (by kernel_rfl)
    (of_decide_eq_true (by kernel_rfl)) (by unfold Func.isWrapper; rw [if_neg (of_decide_eq_false (by kernel_rfl))]; exact ⟨rfl, rfl⟩)
    (fun os started H enc _ => pagesPutSpec_lifted os started H enc)
theorem pagesPutSpec : Rows.PagesPutSpecSaid := pagesPutSpec_holds
#print axioms pagesPutSpec
end Go.Proofs.Ytpnfpdkoeednhaa

