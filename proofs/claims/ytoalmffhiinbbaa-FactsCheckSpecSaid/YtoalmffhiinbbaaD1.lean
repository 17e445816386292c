import Derived.Test.YtoalmffhiinbbaaF32
namespace Go.Proofs.Ytoalmffhiinbbaa
open Go.RowKit Go.Shelf Go.ChangeShapes Go.WideShapes Go.ChangeAt
set_option maxRecDepth 100000 in
theorem factsCheckSpec_lifted (os : Os) (started : os.Started) (H : Type) (enc : TypeId × Value → H) :
    ReturnsInHanded {} Try.checked os 3 .any (Rows.factsCheckSpecSpec.pre6 enc Try.prog Try.f3 Rows.factsCheckSpecRow.domain false) (Rows.factsCheckSpecSpec.post enc Try.prog Try.f3 false true false false) := by
  have hc := checkSpec_calls
  refine returnsInHanded_of_change (C := Try.checked) Try.own started (by kernel_rfl) Try.func3
    (ChangeSpec.witness6 (enc := enc) (C := Try.checked) false ⟨#[], #[.slice none 0 0, .agg #[.int .i64 0, .int .i64 0, .int .i64 0, .int .i64 0, .int .i64 0, .int .i64 0, .int .i64 0, .int .i64 0]], []⟩ 8 (by kernel_rfl) (by kernel_rfl) (by kernel_rfl) (by kernel_rfl)) ?_
  intro W base args ds gs before hval0 hW hcnd _
  have hval : ∀ (j : Nat) t v, Try.f3.params[j]? = some t → args[j]? = some v → Value.okWide Try.prog W .any base t v := hval0
  have hW' := hW
  obtain ⟨p, q, hA0, hV, rfl, hfz, hnd⟩ := hW
  obtain ⟨rfl, rfl⟩ := trodVars_none hV
  have hA : DataW.TrodAll enc Try.prog W 0 (fun _ => true) true Try.f3.params.toList args.toList ds p := hA0
  have hT0 := hA
  simp only [List.append_nil] at hW'
  rw [Try.params3] at hT0 hval
  obtain ⟨v0, vs0, d0, ds0, p0, q0, e0, f0, g0, h0, hT1⟩ := trodAll_cons hT0
  obtain ⟨v1, vs1, d1, ds1, p1, q1, e1, f1, g1, h1, hT2⟩ := trodAll_cons hT1
  subst e1 f1 g1
  obtain ⟨e9, f9, g9⟩ := trodAll_nil hT2
  subst e9 f9 g9
  obtain rfl : args = #[v0, v1] := by cases args; simp_all
  subst f0 g0
  clear e0
  obtain ⟨A0, n0, c0, l0, rfl, r0, wf0⟩ := open_rows (en := fEnc) (k := 8) (d := 4) fDec Try.underlying22 (by kernel_rfl) (by kernel_rfl) fDec_enc (by decide) (hval 0 22 v0 rfl rfl) h0
  obtain ⟨x1, rfl, wf1⟩ := open_flat (en := fEnc) (k := 8) (d := 4) fDec Try.underlying28 (by kernel_rfl) (by kernel_rfl) fDec_enc (hval 1 28 v1 rfl rfl) h1
  refine (hc A0 n0 c0 l0 x1 W r0).mono fun e W' ⟨he, hb⟩ => ?_
  subst he
  exact ⟨_, rfl, law_post Try.laidOut hW' hA (by rfl) rfl (by kernel_rfl) Try.underlying4 (of_decide_eq_true (by kernel_rfl)) hb⟩

theorem factsCheckSpec_holds : Rows.FactsCheckSpecSaid :=
  OpenClaim.holds_of_wide 3 Try.f3 rfl rfl rfl rfl rfl rfl rfl ⟨rfl, rfl, rfl, rfl, rfl⟩ rfl rfl rfl rfl rfl (by kernel_rfl) Try.func3 (by kernel_rfl)
    (of_decide_eq_true (by kernel_rfl)) (by unfold Func.isWrapper; rw [if_neg (of_decide_eq_false (by kernel_rfl))]; exact ⟨rfl, rfl⟩)
    (fun os started H enc _ => factsCheckSpec_lifted os started H enc)
end Go.Proofs.Ytoalmffhiinbbaa
