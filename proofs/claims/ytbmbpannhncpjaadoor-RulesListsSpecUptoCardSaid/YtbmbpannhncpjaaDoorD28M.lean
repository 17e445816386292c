/- Proved: for all rules, valid or not, whose bulk is at most 1048576, Atoms and Courses agree with the reference (P12.3): the card RulesListsSpecUpto holds at every such input; conditions: the bulk, and the listed table of kinds, tied to the program's text. -/
import Derived.Test.YtbmbpannhncpjaaDoorU28M
import Derived.Test.YtbmbpannhncpjaaDoorUQ3
import Derived.Test.YtbmbpannhncpjaaDoorCards
import Derived.Test.YtbmbpannhncpjaaDoorTie
import Derived.LaidMore
import Derived.Stop.Joined
import Derived.SevenTiedAt
import Derived.Deep.DeepHandedRow
import Derived.Deep.DeepWitnessRowRef
namespace Go.Proofs.YtbmbpannhncpjaaDoor
open Go.RowKit Go.Shelf Go.ChangeShapes Go.WideShapes Go.ChangeAt

theorem rulesListsSpec_door_met (os : Os) (args : Array Value) : laidMetH Tryd.prog [("sizar/rules.kinds", Rows.laid_sizar_rules_kinds)] ((World.doorLaid Tryd.prog 600 os).forCall (fun _ _ => 0) ⟨#[], args, []⟩).memory :=
  laidMetH_of_parts3 (fuel := 8) (laidMet_of_run' 8 (by kernel_rfl) (by kernel_rfl)) (by kernel_rfl) (by kernel_rfl)
theorem rulesListsSpec_reads (os : Os) {H : Type} (enc : TypeId × Value → H) : ∃ places, DataW.whole enc Tryd.prog ((World.doorLaid Tryd.prog 600 os).forCall (fun _ _ => 0) ⟨#[], #[.agg #[.int .i64 0, .int .i64 0, .string ⟨#[]⟩, .int .i64 0, .int .i64 0, .slice none 0 0]], []⟩).memory Tryd.f4.params.toList Rows.rulesListsSpecSpec.vars false (#[.agg #[.int .i64 0, .int .i64 0, .string ⟨#[]⟩, .int .i64 0, .int .i64 0, .slice none 0 0]] : Array Value).toList 8 = some ([.agg [.lit (.int .i64 0), .lit (.int .i64 0), .lit (.string []), .lit (.int .i64 0), .lit (.int .i64 0), .nil]], [], places) :=
  ⟨[], by kernel_rfl⟩
set_option maxRecDepth 100000 in
theorem rulesListsSpec_lifted (os : Os) (started : os.Started) (H : Type) (enc : TypeId × Value → H) (F : Stop.Interp) :
    ReturnsInHanded {} Tryd.checked os 4 .any ((Rows.OpenSpec.upto Rows.rulesListsSpecSpec).preRow enc Tryd.prog Tryd.f4 Rows.rulesListsSpecUptoRow.domain false Rows.rulesListsSpecUptoRow.laid) (((Rows.OpenSpec.upto Rows.rulesListsSpecSpec).at F).post enc Tryd.prog Tryd.f4 false true false false) := by
  have hc := listsSpec_calls
  obtain ⟨places, hx⟩ := rulesListsSpec_reads os enc
  refine returnsInHanded_of_row (C := Tryd.checked) (s := Rows.OpenSpec.upto Rows.rulesListsSpecSpec) Tryd.own started (by kernel_rfl) Tryd.func4
    (witness_row_atRef (enc := enc) (C := Tryd.checked) false (World.doorLaid Tryd.prog 600 os) #[.agg #[.int .i64 0, .int .i64 0, .string ⟨#[]⟩, .int .i64 0, .int .i64 0, .slice none 0 0]] rfl (by kernel_rfl) (by kernel_rfl) (by kernel_rfl)
      (OpenSpec.preRow_of_cond 8 hx (by kernel_rfl) (fun k hk => by cases hk; kernel_rfl) (by kernel_rfl) (rulesListsSpec_door_met os _))) ?_
  intro W base args ds gs before hval0 hW hcnd hkb hsz hL _ _
  have hval : ∀ (j : Nat) t v, Tryd.f4.params[j]? = some t → args[j]? = some v → Value.okWide Tryd.prog W .any base t v := hval0
  have hW' := hW
  obtain ⟨p, q, hA0, hV, rfl, hfz, hnd⟩ := hW
  obtain ⟨rfl, rfl⟩ := trodVars_none hV
  have hbk : Rows.uptoBulkAll (ds ++ []) ≤ 1048576 := of_decide_eq_true (hkb _ rfl)
  have hA : DataW.TrodAll enc Tryd.prog W 0 (fun _ => true) true Tryd.f4.params.toList args.toList ds p := hA0
  have hT0 := hA
  have hkk := kinds_of_laid hL
  simp only [List.append_nil] at hW' hbk
  rw [Tryd.params4] at hT0 hval
  obtain ⟨v0, vs0, d0, ds0, p0, q0, e0, f0, g0, h0, hT1⟩ := trodAll_cons hT0
  obtain ⟨e9, f9, g9⟩ := trodAll_nil hT1
  subst e9 f9 g9
  obtain rfl : args = #[v0] := by cases args; simp_all
  subst f0 g0
  clear e0
  simp only [Rows.uptoBulkAll] at hbk
  obtain ⟨hh0, x0, rfl, r0, b0⟩ := open_ruleQ (hval 0 24 v0 rfl rfl) h0 (light_arg hsz (j := 0) rfl rfl)
  have b0 : (partsD 1 x0).length ≤ 1048576 := by have := b0 1; omega
  refine (hc hh0 x0 W b0 r0 hkk).mono fun e W' ⟨he, hb⟩ => ?_
  subst he
  exact ⟨_, rfl, law_post Tryd.laidOut hW' hA (by rfl) rfl (by kernel_rfl) Tryd.underlying4 (of_decide_eq_true (by kernel_rfl)) hb⟩

theorem rulesListsSpec_holds : Rows.RulesListsSpecUptoSaid :=
  OpenClaim.holds_of_cond 4 Tryd.f4 rfl rfl rfl rfl rfl rfl rfl ⟨rfl, rfl, rfl, rfl, rfl⟩ rfl rfl rfl rfl rfl (by kernel_rfl) Tryd.func4 (by kernel_rfl)
    (of_decide_eq_true (by kernel_rfl)) (by unfold Func.isWrapper; first | (rw [if_pos (by decide +kernel)]; kernel_rfl) | (rw [if_neg (by decide +kernel)]; exact ⟨rfl, rfl⟩))
    (fun os started H enc _ F => by rw [OpenClaim.pre_eq_preRow]; exact rulesListsSpec_lifted os started H enc F)
theorem rulesListsSpec_plain (f : FuncId) (fn : Func) (hf : Tryd.pinned.checked.prog.funcNamed "sizar/sizarlaw12.RulesListsSpec" = some f) (hfn : Tryd.pinned.checked.prog.funcs[f]? = some fn) :
    false = Tryd.pinned.checked.prog.looks [] ∧ ∀ (j : Nat) t, fn.params[j]? = some t → Tryd.pinned.checked.prog.wantsStandIn t = false := by
  obtain rfl : f = 4 := Option.some.inj ((show Tryd.prog.funcNamed "sizar/sizarlaw12.RulesListsSpec" = some 4 by kernel_rfl).symm.trans hf) |>.symm
  obtain rfl : fn = Tryd.f4 := (Option.some.inj (Tryd.func4.symm.trans hfn)).symm
  refine ⟨by kernel_rfl, fun j t ht => ?_⟩
  rw [Tryd.params4] at ht
  have hm : t ∈ [24] := by simpa using Array.mem_of_getElem? ht
  have hall : ([24].all fun u => !Tryd.prog.wantsStandIn u) = true := by kernel_rfl
  exact (show Tryd.prog.wantsStandIn t = false by simpa using List.all_eq_true.1 hall t hm)
theorem listsSpec : Rows.RulesListsSpecUptoCardSaid :=
  Claim7.holds_tied_plain_at .later [] _ _ _ _ rulesListsSpec_holds (fun _ h => by cases h) (by kernel_rfl) (fun _ h => by cases h) rulesListsSpecUpto_row_tie rfl ⟨rfl, rfl⟩ (by kernel_rfl) rfl rulesListsSpec_plain (by kernel_rfl)
#print axioms listsSpec
end Go.Proofs.YtbmbpannhncpjaaDoor
