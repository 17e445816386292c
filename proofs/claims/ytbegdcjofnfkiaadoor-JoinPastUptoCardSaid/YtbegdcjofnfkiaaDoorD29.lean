/- Facts that become known later than all times in a query change no row (wherever what is read is of bulk at most 1048576). -/
import Derived.Test.YtbegdcjofnfkiaaDoorJ29
import Derived.Test.YtbegdcjofnfkiaaDoorJD
import Derived.Test.YtbegdcjofnfkiaaDoorCards
import Derived.Test.YtbegdcjofnfkiaaDoorTie
import Derived.LaidMore
import Derived.Stop.Joined
import Derived.SevenTiedAt
import Derived.Deep.DeepHandedRow
import Derived.Deep.DeepWitnessRowRef
namespace Go.Proofs.YtbegdcjofnfkiaaDoor
open Go.RowKit Go.Shelf Go.ChangeShapes Go.WideShapes Go.ChangeAt

theorem joinPast_door_met (os : Os) (args : Array Value) : laidMetH Tryd.prog [("sizar/query.kindWords", Rows.laid_sizar_query_kindWords)] ((World.doorLaid Tryd.prog 600 os).forCall (fun _ _ => 0) ⟨#[], args, []⟩).memory :=
  laidMetH_of_parts3 (fuel := 8) (laidMet_of_run' 8 (by kernel_rfl) (by kernel_rfl)) (by kernel_rfl) (by kernel_rfl)
theorem joinPast_reads (os : Os) {H : Type} (enc : TypeId × Value → H) : ∃ places, DataW.whole enc Tryd.prog ((World.doorLaid Tryd.prog 600 os).forCall (fun _ _ => 0) ⟨#[], #[.agg #[.slice none 0 0, .slice none 0 0, .slice none 0 0, .slice none 0 0], .slice none 0 0, .slice none 0 0], []⟩).memory Tryd.f5.params.toList Rows.joinPastSpec.vars false (#[.agg #[.slice none 0 0, .slice none 0 0, .slice none 0 0, .slice none 0 0], .slice none 0 0, .slice none 0 0] : Array Value).toList 8 = some ([.agg [.nil, .nil, .nil, .nil], .nil, .nil], [], places) :=
  ⟨[], by kernel_rfl⟩
set_option maxRecDepth 100000 in
theorem joinPast_lifted (os : Os) (started : os.Started) (H : Type) (enc : TypeId × Value → H) (F : Stop.Interp) :
    ReturnsInHanded {} Tryd.checked os 5 .any ((Rows.OpenSpec.upto Rows.joinPastSpec).preRow enc Tryd.prog Tryd.f5 Rows.joinPastUptoRow.domain false Rows.joinPastUptoRow.laid) (((Rows.OpenSpec.upto Rows.joinPastSpec).at F).post enc Tryd.prog Tryd.f5 false true false false) := by
  have hc := past_any
  obtain ⟨places, hx⟩ := joinPast_reads os enc
  refine returnsInHanded_of_row (C := Tryd.checked) (s := Rows.OpenSpec.upto Rows.joinPastSpec) Tryd.own started (by kernel_rfl) Tryd.func5
    (witness_row_atRef (enc := enc) (C := Tryd.checked) false (World.doorLaid Tryd.prog 600 os) #[.agg #[.slice none 0 0, .slice none 0 0, .slice none 0 0, .slice none 0 0], .slice none 0 0, .slice none 0 0] rfl (by kernel_rfl) (by kernel_rfl) (by kernel_rfl)
      (OpenSpec.preRow_of_cond 8 hx (by kernel_rfl) (fun k hk => by cases hk; kernel_rfl) (by kernel_rfl) (joinPast_door_met os _))) ?_
  intro W base args ds gs before hval0 hW hcnd hkb hsz hL _ _
  have hval : ∀ (j : Nat) t v, Tryd.f5.params[j]? = some t → args[j]? = some v → Value.okWide Tryd.prog W .any base t v := hval0
  have hW' := hW
  obtain ⟨p, q, hA0, hV, rfl, hfz, hnd⟩ := hW
  obtain ⟨rfl, rfl⟩ := trodVars_none hV
  have hbk : Rows.uptoBulkAll (ds ++ []) ≤ 1048576 := of_decide_eq_true (hkb _ rfl)
  have hA : DataW.TrodAll enc Tryd.prog W 0 (fun _ => true) true Tryd.f5.params.toList args.toList ds p := hA0
  have hT0 := hA
  have hkk := words_of_laid hL
  simp only [List.append_nil] at hW' hbk
  rw [Tryd.params5] at hT0 hval
  obtain ⟨v0, vs0, d0, ds0, p0, q0, e0, f0, g0, h0, hT1⟩ := trodAll_cons hT0
  obtain ⟨v1, vs1, d1, ds1, p1, q1, e1, f1, g1, h1, hT2⟩ := trodAll_cons hT1
  subst e1 f1 g1
  obtain ⟨v2, vs2, d2, ds2, p2, q2, e2, f2, g2, h2, hT3⟩ := trodAll_cons hT2
  subst e2 f2 g2
  obtain ⟨e9, f9, g9⟩ := trodAll_nil hT3
  subst e9 f9 g9
  obtain rfl : args = #[v0, v1, v2] := by cases args; simp_all
  subst f0 g0
  clear e0
  simp only [Rows.uptoBulkAll] at hbk
  obtain ⟨q0, rfl, r0⟩ := open_query (hval 0 27 v0 rfl rfl) h0 (light_arg hsz (j := 0) rfl rfl)
  obtain ⟨A1, n1, c1, l1, rfl, r1, z1⟩ := open_facts (hval 1 28 v1 rfl rfl) h1 (light_arg hsz (j := 1) rfl rfl)
  have b1 : n1 ≤ 1048576 := by have := slice_bulk Tryd.underlying28 h1; omega
  obtain ⟨A2, n2, c2, l2, rfl, r2, z2⟩ := open_facts (hval 2 28 v2 rfl rfl) h2 (light_arg hsz (j := 2) rfl rfl)
  have b2 : n2 ≤ 1048576 := by have := slice_bulk Tryd.underlying28 h2; omega
  refine (hc q0 A1 A2 n1 c1 n2 c2 l1 l2 W r0 hkk r1 r2 (by omega)).mono fun e W' ⟨he, hb⟩ => ?_
  subst he
  exact ⟨_, rfl, law_post Tryd.laidOut hW' hA (by rfl) rfl (by kernel_rfl) Tryd.underlying4 (of_decide_eq_true (by kernel_rfl)) hb⟩

theorem joinPast_holds : Rows.JoinPastUptoSaid :=
  OpenClaim.holds_of_cond 5 Tryd.f5 rfl rfl rfl rfl rfl rfl rfl ⟨rfl, rfl, rfl, rfl, rfl⟩ rfl rfl rfl rfl rfl (by kernel_rfl) Tryd.func5 (by kernel_rfl)
    (of_decide_eq_true (by kernel_rfl)) (by unfold Func.isWrapper; first | (rw [if_pos (by decide +kernel)]; kernel_rfl) | (rw [if_neg (by decide +kernel)]; exact ⟨rfl, rfl⟩))
    (fun os started H enc _ F => by rw [OpenClaim.pre_eq_preRow]; exact joinPast_lifted os started H enc F)
theorem joinPast_plain (f : FuncId) (fn : Func) (hf : Tryd.pinned.checked.prog.funcNamed "sizar/sizarlaw51.JoinPast" = some f) (hfn : Tryd.pinned.checked.prog.funcs[f]? = some fn) :
    false = Tryd.pinned.checked.prog.looks [] ∧ ∀ (j : Nat) t, fn.params[j]? = some t → Tryd.pinned.checked.prog.wantsStandIn t = false := by
  obtain rfl : f = 5 := Option.some.inj ((show Tryd.prog.funcNamed "sizar/sizarlaw51.JoinPast" = some 5 by kernel_rfl).symm.trans hf) |>.symm
  obtain rfl : fn = Tryd.f5 := (Option.some.inj (Tryd.func5.symm.trans hfn)).symm
  refine ⟨by kernel_rfl, fun j t ht => ?_⟩
  rw [Tryd.params5] at ht
  have hm : t ∈ [27, 28, 28] := by simpa using Array.mem_of_getElem? ht
  have hall : ([27, 28, 28].all fun u => !Tryd.prog.wantsStandIn u) = true := by kernel_rfl
  exact (show Tryd.prog.wantsStandIn t = false by simpa using List.all_eq_true.1 hall t hm)
theorem past : Rows.JoinPastUptoCardSaid :=
  Claim7.holds_tied_plain_at .later [] _ _ _ _ joinPast_holds (fun _ h => by cases h) (by kernel_rfl) (fun _ h => by cases h) joinPastUpto_row_tie rfl ⟨rfl, rfl⟩ (by kernel_rfl) rfl joinPast_plain (by kernel_rfl)
#print axioms past
end Go.Proofs.YtbegdcjofnfkiaaDoor
