/- Values in the domain that fulfil a query have their row; and if all variables are shown, each row belongs to values that fulfil it, all of them in the domain. -/
import Derived.Test.YtbegdcjofnfkiaaDoorJ27
import Derived.Test.YtbegdcjofnfkiaaDoorJD
import Derived.Test.YtbegdcjofnfkiaaDoorJD2
import Derived.Test.YtbegdcjofnfkiaaDoorCards
import Derived.Test.YtbegdcjofnfkiaaDoorTie
import Derived.LaidMore
import Derived.Stop.Joined
import Derived.SevenTiedAt
namespace Go.Proofs.YtbegdcjofnfkiaaDoor
open Go.RowKit Go.Shelf Go.ChangeShapes Go.WideShapes Go.ChangeAt

theorem joinAnswers_door_met (os : Os) (args : Array Value) : laidMetH Tryd.prog [("sizar/query.kindWords", Rows.laid_sizar_query_kindWords)] ((World.doorLaid Tryd.prog 600 os).forCall (fun _ _ => 0) ⟨#[], args, []⟩).memory :=
  laidMetH_of_parts3 (fuel := 8) (laidMet_of_run' 8 (by kernel_rfl) (by kernel_rfl)) (by kernel_rfl) (by kernel_rfl)
set_option maxRecDepth 100000 in
theorem joinAnswers_lifted (os : Os) (started : os.Started) (H : Type) (enc : TypeId × Value → H) :
    ReturnsInHanded {} Tryd.checked os 3 .any (fun w args => (Rows.joinAnswersSpec.pre enc Tryd.prog Tryd.f3 [] false w args ∧ laidMetH Tryd.prog [("sizar/query.kindWords", Rows.laid_sizar_query_kindWords)] w) ∧ sizedMet enc Tryd.prog Tryd.f3 (OpenSpec.ofChange Rows.joinAnswersSpec) false w args)
      (Rows.joinAnswersSpec.post enc Tryd.prog Tryd.f3 false true false false) := by
  have hc := answers_any
  refine returnsInHanded_of_change_and (C := Tryd.checked) (X := fun w _ => laidMetH Tryd.prog [("sizar/query.kindWords", Rows.laid_sizar_query_kindWords)] w) (fun _ _ _ hh h => h.of_heap hh) Tryd.own started (by kernel_rfl) Tryd.func3
    (ChangeSpec.witness_shaped (enc := enc) (C := Tryd.checked) (os := os) (X := fun w _ => laidMetH Tryd.prog [("sizar/query.kindWords", Rows.laid_sizar_query_kindWords)] w) false (World.doorLaid Tryd.prog 600 os) #[.agg #[.slice none 0 0, .slice none 0 0, .slice none 0 0, .slice none 0 0], .slice none 0 0, .slice none 0 0] 8 rfl (World.shaped_of_RefB (by kernel_rfl) (by kernel_rfl)) (by kernel_rfl) (by kernel_rfl) (by kernel_rfl) (joinAnswers_door_met os _)) ?_
  intro W base args ds gs before hval0 hW hcnd hsz hL _
  have hval : ∀ (j : Nat) t v, Tryd.f3.params[j]? = some t → args[j]? = some v → Value.okWide Tryd.prog W .any base t v := hval0
  have hW' := hW
  obtain ⟨p, q, hA0, hV, rfl, hfz, hnd⟩ := hW
  obtain ⟨rfl, rfl⟩ := trodVars_none hV
  have hA : DataW.TrodAll enc Tryd.prog W 0 (fun _ => true) true Tryd.f3.params.toList args.toList ds p := hA0
  have hT0 := hA
  have hkk := words_of_laid hL
  simp only [List.append_nil] at hW'
  rw [Tryd.params3] at hT0 hval
  obtain ⟨v0, vs0, d0, ds0, p0, q0, e0, f0, g0, h0, hT1⟩ := trodAll_cons hT0
  obtain ⟨v1, vs1, d1, ds1, p1, q1, e1, f1, g1, h1, hT2⟩ := trodAll_cons hT1
  subst e1 f1 g1
  obtain ⟨v2, vs2, d2, ds2, p2, q2, e2, f2, g2, h2, hT3⟩ := trodAll_cons hT2
  subst e2 f2 g2
  obtain ⟨e9, f9, g9⟩ := trodAll_nil hT3
  subst e9 f9 g9
  obtain rfl : args = #[v0, v1, v2] := by cases args; simp_all
  subst f0 g0
  clear e0
  obtain ⟨q0, rfl, r0⟩ := open_query (hval 0 27 v0 rfl rfl) h0 (light_arg hsz (j := 0) rfl rfl)
  obtain ⟨A1, n1, c1, l1, rfl, r1, z1⟩ := open_facts (hval 1 28 v1 rfl rfl) h1 (light_arg hsz (j := 1) rfl rfl)
  obtain ⟨A2, n2, c2, l2, rfl, r2⟩ := open_u8s (hval 2 29 v2 rfl rfl) h2 (light_arg hsz (j := 2) rfl rfl)
  refine (hc q0 A1 A2 n1 c1 n2 c2 l1 l2 W r0 hkk r1 r2).mono fun e W' ⟨he, hb⟩ => ?_
  subst he
  exact ⟨_, rfl, law_post Tryd.laidOut hW' hA (by rfl) rfl (by kernel_rfl) Tryd.underlying4 (of_decide_eq_true (by kernel_rfl)) hb⟩

theorem joinAnswers_holds : Rows.JoinAnswersSaid :=
  OpenClaim.holds_of_wide 3 Tryd.f3 rfl rfl rfl rfl rfl rfl rfl ⟨rfl, rfl, rfl, rfl, rfl⟩ rfl rfl rfl rfl rfl (by kernel_rfl) Tryd.func3 (by kernel_rfl)
    (of_decide_eq_true (by kernel_rfl)) (by unfold Func.isWrapper; first | (rw [if_pos (by decide +kernel)]; kernel_rfl) | (rw [if_neg (by decide +kernel)]; exact ⟨rfl, rfl⟩))
    (fun os started H enc _ => joinAnswers_lifted os started H enc)
theorem joinAnswers_plain (f : FuncId) (fn : Func) (hf : Tryd.pinned.checked.prog.funcNamed "sizar/sizarlaw51.JoinAnswers" = some f) (hfn : Tryd.pinned.checked.prog.funcs[f]? = some fn) :
    false = Tryd.pinned.checked.prog.looks [] ∧ ∀ (j : Nat) t, fn.params[j]? = some t → Tryd.pinned.checked.prog.wantsStandIn t = false := by
  obtain rfl : f = 3 := Option.some.inj ((show Tryd.prog.funcNamed "sizar/sizarlaw51.JoinAnswers" = some 3 by kernel_rfl).symm.trans hf) |>.symm
  obtain rfl : fn = Tryd.f3 := (Option.some.inj (Tryd.func3.symm.trans hfn)).symm
  refine ⟨by kernel_rfl, fun j t ht => ?_⟩
  rw [Tryd.params3] at ht
  have hm : t ∈ [27, 28, 29] := by simpa using Array.mem_of_getElem? ht
  have hall : ([27, 28, 29].all fun u => !Tryd.prog.wantsStandIn u) = true := by kernel_rfl
  exact (show Tryd.prog.wantsStandIn t = false by simpa using List.all_eq_true.1 hall t hm)
theorem answers : Rows.JoinAnswersCardSaid :=
  Claim7.holds_tied_plain_at .later [] _ _ _ _ joinAnswers_holds (fun _ h => by cases h) (by kernel_rfl) (fun _ h => by cases h) joinAnswers_row_tie rfl ⟨rfl, rfl⟩ (by kernel_rfl) rfl joinAnswers_plain (by kernel_rfl)
#print axioms answers
end Go.Proofs.YtbegdcjofnfkiaaDoor
