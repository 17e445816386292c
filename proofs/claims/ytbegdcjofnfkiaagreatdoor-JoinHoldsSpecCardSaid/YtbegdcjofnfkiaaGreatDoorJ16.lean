/- slices.SortFunc at rows of integers. -/
import Derived.Test.YtbegdcjofnfkiaaGreatDoorM1
import Derived.Test.YtbegdcjofnfkiaaGreatDoorShelfJ
import Derived.Test.YtbegdcjofnfkiaaGreatDoorJ15
namespace Go.Proofs.YtbegdcjofnfkiaaGreatDoor
open Go.RowKit Go.Shelf Go.Sort

/-- A row in memory: its slice and what it reads as. -/
structure Rw where
  A : Option Addr
  c : Nat
  l : List Int
def rwV (r : Rw) : Value := .slice r.A r.l.length r.c
/-- It reads so whatever becomes of block G. -/
def RwIn (w : World) (G : Nat) (r : Rw) : Prop := ∀ W, w.heap.size ≤ W.heap.size → (∀ b, b < w.heap.size → b ≠ G → W.heap[b]? = w.heap[b]?) → iSl W W.heap.size r.A r.l.length r.c r.l
theorem rwIn_nil (w : World) (G : Nat) : RwIn w G ⟨none, 0, []⟩ := fun W _ _ => ⟨rfl, Nat.le_refl _, by simp, fun h => by simp at h⟩
instance (w : World) (G : Nat) : Inhabited { r : Rw // RwIn w G r } := ⟨⟨⟨none, 0, []⟩, rwIn_nil w G⟩⟩
theorem ltOfJ {w : World} {G : Nat} (a b : { r : Rw // RwIn w G r }) : ltOf (fun x y : { r : Rw // RwIn w G r } => cmpL x.1.l y.1.l) a b = lexJ a.1.l b.1.l := by
  rw [← cmpL_lex]
  simp [ltOf]
theorem swoJ (w : World) (G : Nat) : SWO (ltOf (fun x y : { r : Rw // RwIn w G r } => cmpL x.1.l y.1.l)) := by
  refine ⟨fun x => by rw [ltOfJ]; exact lexJ_irr _, fun x y z => ?_, fun x y z => ?_⟩
  · rw [ltOfJ, ltOfJ, ltOfJ]; exact lexJ_tr _ _ _
  · rw [ltOfJ, ltOfJ, ltOfJ]
    intro h1 h2
    rcases h : lexJ x.1.l z.1.l with _ | _
    · rfl
    · rcases lexJ_tri x.1.l y.1.l with h3 | h3 | h3
      · rw [h3] at h1; cases h1
      · rw [h3, h2] at h; cases h
      · rw [lexJ_tr _ _ _ h3 h] at h2; cases h2
theorem sortRows_any {w : World} {base G cap n : Nat} (rs : List Rw) (hown : w.ownsRow base 23 1 (.slice (some ⟨G, 0, none⟩) n cap) n (rs.flatMap fun r => [rwV r])) (hrs : ∀ r ∈ rs, RwIn w G r) (hn : n ≤ 1000000) :
    Calls Tryz.prog 33 #[.slice (some ⟨G, 0, none⟩) n cap, .func (.func 34) #[] #[]] w fun e' w' => e' = .returned (.tuple #[]) ∧ ∃ d : List Rw, d.Perm rs ∧ d.Pairwise (fun x y => lexJ y.l x.l = false) ∧ (∀ r ∈ d, RwIn w G r) ∧
      w'.ownsRow base 23 1 (.slice (some ⟨G, 0, none⟩) n cap) n (d.flatMap fun r => [rwV r]) ∧ Below base w w' ∧ Kept (fun b => b = G) w w' := by
  have hatt : ∀ (d : List { r : Rw // RwIn w G r }), (d.flatMap fun x => [rwV x.1]) = (d.map (·.1)).flatMap fun r => [rwV r] := fun d => by rw [List.flatMap_map]
  have hval : (rs.attachWith (RwIn w G) hrs).map (·.1) = rs := by
    first
    | exact List.attachWith_map_subtype_val rs hrs
    | exact List.attachWith_map_val rs hrs
    | exact List.ext_getElem (by simp [List.attachWith]) (fun i _ _ => by simp [List.attachWith])
  have h := sortFunc_one (enc := fun x : { r : Rw // RwIn w G r } => rwV x.1) (ρ := Tryz.sortJ_ren) Tryz.sortJ (fun x => rfl) (fun x y => cmpL x.1.l y.1.l) (swoJ w G) 34 #[] (enters_of Tryz.func34 (by kernel_rfl) rfl) (rs.attachWith (RwIn w G) hrs) (by rw [hatt, hval]; exact hown)
    (fun W hz hb x y => (cmpInts_any x.1.A y.1.A x.1.l.length y.1.l.length x.1.c y.1.c x.1.l y.1.l W (x.2 W hz hb) (y.2 W hz hb)).mono fun e w' ⟨he, hw⟩ => ⟨he, 0, #[], by rw [← hw]; simp [World.drewN]⟩) (by omega)
  refine h.mono ?_
  rintro e w' ⟨he, d, hp, hs, ho, hb, hk⟩
  refine ⟨he, d.map (·.1), ?_, ?_, ?_, ?_, hb, hk⟩
  · have := hp.map (·.1)
    rwa [hval] at this
  · rw [List.pairwise_map]
    refine hs.imp fun {a b} hab => ?_
    rw [← cmpL_lex]
    simpa using hab
  · intro r hr
    obtain ⟨x, _, rfl⟩ := List.mem_map.1 hr
    exact x.2
  · rw [← hatt]; exact ho
end Go.Proofs.YtbegdcjofnfkiaaGreatDoor
