/- Several texts in one: AP5 A28. -/
import Derived.Test.YtpnfpdkoeednhaaA26
import Derived.Test.YtpnfpdkoeednhaaA27
import Derived.Deep.DeepCutAuto
import Derived.Deep.CutBlock
import Derived.Deep.RegionHeld3
import Derived.BigRegion
section
/- Pages, plainly: facts put one after the other. -/
namespace Go.Proofs.Ytpnfpdkoeednhaa
open Go.RowKit

def putE (ps : List Pv) (roots : List Int) (f : Fc) : Int := if checkP ps roots = true then (if checkF [f] = 0 then errP (compB f (allT ps (lastR roots))) else checkF [f]) else 470
theorem putErr_eq (s : Ps) (f : Fc) : putErr s f = putE (psV s) s.roots f := rfl
theorem compB_iff {f : Fc} {l : List Fc} : compB f l = true ↔ Comp f l := by
  refine ⟨comp_of, fun h => List.all_eq_true.2 fun x hx => decide_eq_true fun e => ?_⟩
  rcases cmpP_cases f x with ⟨h1, _⟩ | ⟨_, h2, h3⟩ | ⟨h1, _⟩
  · omega
  · rcases h x hx with h4 | h4
    · rw [h3] at h4; cases h4
    · rw [h2] at h4; cases h4
  · omega
theorem checkF_1 (f : Fc) : checkF [f] = if f.ok = true then 0 else 70 := by
  unfold checkF
  by_cases h : f.ok = true <;> simp [h, sortedB]
structure Fst where
  (ps : List Pv) (roots : List Int) (acc : List Fc)
def stepF (st : Fst) (f : Fc) : Fst := if putE st.ps st.roots f = 0 then ⟨(putW st.ps (lastR st.roots) f).1, st.roots ++ [((putW st.ps (lastR st.roots) f).2 : Int)], st.acc ++ [f]⟩ else st
def fst0 : Fst := ⟨[⟨[], []⟩], [0], []⟩
def fillF (l : List Fc) : Fst := l.foldl stepF fst0
theorem fillF_snoc (l : List Fc) (f : Fc) : fillF (l ++ [f]) = stepF (fillF l) f := by simp [fillF]
end Go.Proofs.Ytpnfpdkoeednhaa

end
section
/- The law's filled (printed by tools/gen142.py). -/
namespace Go.Proofs.Ytpnfpdkoeednhaa
open Go.RowKit Go.Shelf

/-- Pages in memory that facts were put into. -/
structure FlS (st : Fst) (s : Ps) (w : World) : Prop where
  inn : PsS s w
  ps : psV s = st.ps
  roots : s.roots = st.roots
theorem FlS.later {st : Fst} {s : Ps} {w w' : World} (h : FlS st s w) (hb : Below w.heap.size w w') : FlS st s w' := ⟨h.inn.later hb, h.ps, h.roots⟩
/-- What Put hands back. -/
def PutRes (ps : List Pv) (roots : List Int) (f : Fc) (s' : Ps) (w : World) : Prop := PsS s' w ∧ (putE ps roots f = 0 → psV s' = (putW ps (lastR roots) f).1 ∧ s'.roots = roots ++ [((putW ps (lastR roots) f).2 : Int)]) ∧ (putE ps roots f ≠ 0 → s'.gs = [] ∧ s'.roots = [])
theorem PutRes.later {ps : List Pv} {roots : List Int} {f : Fc} {s' : Ps} {w w' : World} (h : PutRes ps roots f s' w) (hb : Below w.heap.size w w') : PutRes ps roots f s' w' := ⟨h.1.later hb, h.2⟩
theorem PutRes.only {ps : List Pv} {roots : List Int} {f : Fc} {s' : Ps} {w w' : World} {X : Nat} (h : PutRes ps roots f s' w) (hO : Only X w w') (hX : ∀ x, PsBl s' x → x ≠ X) : PutRes ps roots f s' w' := ⟨⟨h.1.inn.only hO hX, h.1.slim⟩, h.2⟩
theorem put_any (s : Ps) (f : Fc) (n0 : Nat) (w : World) (hs : PsIn s w n0) (hn0 : n0 ≤ w.heap.size) (hsl : ∀ g ∈ s.gs, g.fn ≤ 1000000 ∧ g.kn ≤ 1000000) (hn : s.gs.length ≤ 100000 ∧ s.roots.length ≤ 100000) :
    Calls Try.prog 12 #[psVal s, .agg #[.int .i64 f.key.kind, .int .i64 f.key.subj, .int .i64 f.key.obj, .int .i64 f.val, .int .i64 f.fr, .int .i64 f.to, .int .i64 f.known, .int .i64 f.no]] w fun e w' => ∃ s', e = .returned (.tuple #[psVal s', .int .i64 (putE (psV s) s.roots f)]) ∧ PutRes (psV s) s.roots f s' w' ∧ Below w.heap.size w w' ∧ ∀ x, PsBl s' x → (∃ g ∈ s.gs, PgBl g x) ∨ w.heap.size ≤ x :=
  (pgPut_any s f n0 w hs hn0 hsl hn).mono fun _ _ ⟨s', h1, h2, h3, h4, h5, h6, h7⟩ => ⟨s', h1, ⟨⟨h2, h4⟩, h5, h6⟩, h3, h7⟩
end Go.Proofs.Ytpnfpdkoeednhaa

end

