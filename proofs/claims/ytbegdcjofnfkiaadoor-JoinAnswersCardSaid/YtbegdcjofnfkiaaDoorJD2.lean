/- Further arguments opened: a condition, a test, small integers, an unsigned integer. -/
import Derived.Test.YtbegdcjofnfkiaaDoorJD
namespace Go.Proofs.YtbegdcjofnfkiaaDoor
open Go.RowKit Go.ChangeShapes Go.WideShapes Go.Deep

theorem u8_wf {z : Int} (h : (Lit.int .u8 z).wf = true) : 0 ≤ z ∧ z ≤ 255 := by
  simp [Lit.wf, IntKind.min, IntKind.max, IntKind.signed, IntKind.bits] at h
  omega
theorem u64_wf {z : Int} (h : (Lit.int .u64 z).wf = true) : 0 ≤ z ∧ z ≤ 18446744073709551615 := by
  simp [Lit.wf, IntKind.min, IntKind.max, IntKind.signed, IntKind.bits] at h
  omega
def u8Enc (n : Fin 256) : List Value := [.int .u8 n.val]
theorem u8Enc_len (n : Fin 256) : (u8Enc n).length = 1 := rfl
section
variable {H : Type} {enc : TypeId × Value → H} {w : World} {base : Nat} {spare : Nat → Bool} {held : Bool}
set_option maxRecDepth 100000 in
theorem open_atom {b0 : Nat} {rr : Reach} {v : Value} {dt : DataW H} {pl : List MemPlace} (hv : Value.okWide Tryd.prog w rr b0 46 v) (h : DataW.Trod enc Tryd.prog w base spare held 46 v dt pl) :
    ∃ a : Am, v = .agg #[.int .i64 a.kind, .bool a.s.var, .int .i64 a.s.n, .bool a.o.var, .int .i64 a.o.n, .bool a.v.var, .int .i64 a.v.n, .int .i64 a.term, .int .i64 a.known] := by
  obtain ⟨cs, rfl, hs⟩ := okWide_struct Tryd.underlying46 hv
  obtain ⟨fuel, hf⟩ := h
  obtain ⟨a, ha⟩ := am_elJ hf
  refine ⟨a, ?_⟩
  obtain ⟨l⟩ := cs
  have ha2 : l = amEnc a := ha
  rw [ha2]; rfl
set_option maxRecDepth 100000 in
theorem open_test {b0 : Nat} {rr : Reach} {v : Value} {dt : DataW H} {pl : List MemPlace} (hv : Value.okWide Tryd.prog w rr b0 48 v) (h : DataW.Trod enc Tryd.prog w base spare held 48 v dt pl) :
    ∃ a : Te, v = .agg #[.int .i64 a.op, .bool a.a.var, .int .i64 a.a.n, .bool a.b.var, .int .i64 a.b.n] := by
  obtain ⟨cs, rfl, hs⟩ := okWide_struct Tryd.underlying48 hv
  obtain ⟨fuel, hf⟩ := h
  obtain ⟨a, ha⟩ := te_elJ hf
  refine ⟨a, ?_⟩
  obtain ⟨l⟩ := cs
  have ha2 : l = teEnc a := ha
  rw [ha2]; rfl
set_option maxRecDepth 100000 in
theorem open_u8s {b0 : Nat} {rr : Reach} {v : Value} {dt : DataW H} {pl : List MemPlace} (hv : Value.okWide Tryd.prog w rr b0 29 v) (h : DataW.Trod enc Tryd.prog w base spare held 29 v dt pl) (hw : Light Tryd.prog 29 dt) :
    ∃ A n c l, v = .slice A n c ∧ Rows 1 (Rep.flat u8Enc) w w.heap.size A n c l := by
  obtain ⟨A, n, c, l, h1, h2, _⟩ := open_arg (r := Rep.flat u8Enc) (k := 1) (e := 5) Tryd.underlying29 (by kernel_rfl) (by decide) (fun _ _ _ ht _ => by
    obtain ⟨z, rfl, _, hz⟩ := DataW.trod_int Tryd.underlying5 ht
    have h := u8_wf hz
    refine ⟨⟨z.toNat, by omega⟩, ?_⟩
    show _ = [Value.int .u8 ((z.toNat : Nat) : Int)]
    rw [Int.toNat_of_nonneg h.1]) hv h hw
  exact ⟨A, n, c, l, h1, h2⟩
end
end Go.Proofs.YtbegdcjofnfkiaaDoor
