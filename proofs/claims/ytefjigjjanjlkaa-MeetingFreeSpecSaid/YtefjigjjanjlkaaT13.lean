import Derived.Test.YtefjigjjanjlkaaT12
import Derived.Test.YtefjigjjanjlkaaDoor
namespace Go.Proofs.Ytefjigjjanjlkaa
open Go.RowKit Go.Shelf Go.ChangeShapes Go.WideShapes Go.ChangeAt

def mDec : List Int → Mt
  | [a, b, c, d, e] => ⟨a, b, c, d, e⟩
  | _ => ⟨0, 0, 0, 0, 0⟩
theorem mDec_enc (z : List Int) (h : z.length = 5) : mEnc (mDec z) = z.map (.int .i64) := by
  match z, h with
  | [a, b, c, d, e], _ => rfl
theorem Try.own : ownKnob Try.prog.godebug = none := by kernel_rfl
theorem Try.laidOut : laidOutB Try.prog = true := by kernel_rfl

/-- The law's call, at lists that read so. -/
def ApartCalls : Prop := ∀ (A B : Option Addr) (n m ca cb : Nat) (a b : List Mt) (w : World), MSl w w.heap.size A n ca a → MSl w w.heap.size B m cb b →
    Calls Try.prog 5 #[.slice A n ca, .slice B m cb] w fun e w' => e = .returned (.bool true) ∧ Below w.heap.size w w'

set_option maxRecDepth 100000 in
theorem apart_lifted (hc : ApartCalls) (os : Os) (started : os.Started) (H : Type) (enc : TypeId × Value → H) :
    ReturnsInHanded {} Try.checked os 5 .any (Rows.meetingApartSpec.pre6 enc Try.prog Try.f5 Rows.meetingApartRow.domain false) (Rows.meetingApartSpec.post enc Try.prog Try.f5 false true false false) := by
  refine returnsInHanded_of_change (C := Try.checked) Try.own started (by kernel_rfl) Try.func5
    (ChangeSpec.witness6 (enc := enc) (C := Try.checked) false ⟨#[], #[.slice none 0 0, .slice none 0 0], []⟩ 8 (by kernel_rfl) (by kernel_rfl) (by kernel_rfl) (by kernel_rfl)) ?_
  intro W base args ds gs before hval0 hW hcnd _
  have hval : ∀ (j : Nat) t v, Try.f5.params[j]? = some t → args[j]? = some v → Value.okWide Try.prog W .any base t v := hval0
  have hW' := hW
  obtain ⟨p, q, hA0, hV, rfl, hfz, hnd⟩ := hW
  obtain ⟨rfl, rfl⟩ := trodVars_none hV
  have hA : DataW.TrodAll enc Try.prog W 0 (fun _ => true) true Try.f5.params.toList args.toList ds p := hA0
  have hA1 := hA
  simp only [List.append_nil] at hW'
  rw [Try.params5] at hA1 hval
  obtain ⟨v0, v1, d0, d1, p0, p1, rfl, rfl, rfl, h0, h1⟩ := trodAll_two hA1
  obtain ⟨A, n, ca, a, rfl, ra, _⟩ := open_rows (en := mEnc) (k := 5) (d := 3) mDec Try.underlying22 (by kernel_rfl) (by kernel_rfl) mDec_enc (by decide) (hval 0 22 v0 rfl rfl) h0
  obtain ⟨B, m, cb, b, rfl, rb, _⟩ := open_rows (en := mEnc) (k := 5) (d := 3) mDec Try.underlying22 (by kernel_rfl) (by kernel_rfl) mDec_enc (by decide) (hval 1 22 v1 rfl rfl) h1
  refine (hc A B n m ca cb a b W ra rb).mono fun e W' ⟨he, hb⟩ => ?_
  subst he
  exact ⟨_, rfl, law_post Try.laidOut hW' hA (by rfl) rfl (by kernel_rfl) Try.underlying4 (of_decide_eq_true (by kernel_rfl)) hb⟩

theorem apart_holds (hc : ApartCalls) : Rows.MeetingApartSaid :=
  OpenClaim.holds_of_wide 5 Try.f5 rfl rfl rfl rfl rfl rfl rfl ⟨rfl, rfl, rfl, rfl, rfl⟩ rfl rfl rfl rfl rfl (by kernel_rfl) Try.func5 (by kernel_rfl)
    (of_decide_eq_true (by kernel_rfl)) (by unfold Func.isWrapper; rw [if_neg (of_decide_eq_false (by kernel_rfl))]; exact ⟨rfl, rfl⟩)
    (fun os started H enc _ => apart_lifted hc os started H enc)
end Go.Proofs.Ytefjigjjanjlkaa
