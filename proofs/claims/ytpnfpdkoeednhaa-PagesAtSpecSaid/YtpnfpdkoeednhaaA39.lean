/- The reference's walk from a root; how many levels (printed by tools/gen151.py). -/
import Derived.Test.YtpnfpdkoeednhaaA38
import Derived.Test.YtpnfpdkoeednhaaAP17
import Derived.BigQuiet
namespace Go.Proofs.Ytpnfpdkoeednhaa
open Go.RowKit Go.Shelf

def TopPost (s : Ps) (q : Nat) (w : World) (e : Ending) (w' : World) : Prop :=
  Below w.heap.size w w' ∧ (walkP (psV s) q true [] = none → e = .returned (.tuple #[.slice none 0 0, .int .i64 0, .bool false])) ∧
  ∀ m d, walkP (psV s) q true [] = some (m, d) → ∃ A c, e = .returned (.tuple #[.slice A m.length c, .int .i64 (d : Nat), .bool true]) ∧ fSl w' w'.heap.size A m.length c m
theorem walk_top (s : Ps) (q : Nat) (w : World) (hq : q < s.gs.length) (hps : PsIn s w w.heap.size) (hsm : ∀ g ∈ s.gs, g.fn ≤ 1000000 ∧ g.kn ≤ 1000000) (hT : ((psV s).flatMap (·.facts)).length ≤ 1000000) :
    Calls Try.prog 45 #[psVal s, .int .i64 q, .bool true, .slice none 0 0] w (TopPost s q w) := by
  refine (r47walk_any s w.heap.size w.heap.size (Nat.le_refl _) hsm hT (q + 1) q (by omega) _ (List.getElem?_eq_getElem hq) true [] (.slice none 0 0) w hps (Nat.le_refl _) (by simpa using World.ownsRow_nil _ _ _ _) (InvM.nil _)).mono ?_
  rintro e w' ⟨hk, h1, h2⟩
  refine ⟨hk.toBelow (Nat.le_refl _) (fun b _ h => by cases h), h1, fun m d hm => ?_⟩
  obtain ⟨v, rfl, ho, _⟩ := h2 m d hm
  obtain ⟨A, c, rfl, hr⟩ := own_rows fEnc_len (by decide) ho
  exact ⟨A, c, rfl, hr⟩
theorem few_sum {ps : List Pv} {roots : List Int} (hf : fewP ps roots = true) : (ps.flatMap (·.facts)).length ≤ 1000000 := by
  obtain ⟨h1, h2, _⟩ := few_parts hf
  have := fewG_len h1
  omega
set_option maxRecDepth 100000 in
set_option maxHeartbeats 4000000 in
theorem r47Levels_any (s : Ps) (d : Nat) (w : World) (hps : PsIn s w w.heap.size) (hsm : ∀ g ∈ s.gs, g.fn ≤ 1000000 ∧ g.kn ≤ 1000000) (hT : ((psV s).flatMap (·.facts)).length ≤ 1000000) (hc : checkP (psV s) s.roots = true) (hG : GoodR (psV s) (lastR s.roots) d) :
    Calls Try.prog 31 #[psVal s] w fun e w' => e = .returned (.int .i64 (d : Nat)) ∧ Below w.heap.size w w' := by
  obtain ⟨b, hb⟩ : ∃ b, w.heap.size = b := ⟨_, rfl⟩
  obtain ⟨W, hW⟩ : ∃ W, w.alloc (.cells #[.slice s.pA s.pn s.pc, .slice s.rA s.rn s.rc] 25) = W := ⟨_, rfl⟩
  have c1 : Below w.heap.size w W := hW ▸ (Below.refl _ w).alloc (Nat.le_refl _) _
  have g1 : W.heap[b]? = some (.cells #[.slice s.pA s.pn s.pc, .slice s.rA s.rn s.rc] 25 (0, 0)) := by rw [← hW, ← hb]; exact World.alloc_heap_new _ _
  have HPs : Hid (∀ W', Below W.heap.size W W' → PsIn s W' W'.heap.size) := fun W' h => hps.later (c1.trans (h.mono c1.size))
  have HC1 := hidp c1
  have HSm := hidp hsm
  have HT := hidp hT
  obtain ⟨_, _, hrl, r, hr, hlr⟩ := last_good hc
  have hrn0 : 0 < s.rn := by have := hps.roots.1; omega
  have hr0 : 0 ≤ r := ((checkP_iff.1 hc).2 r (List.mem_of_getElem? hr)).1
  obtain ⟨q, hq⟩ : ∃ q : Nat, r = q := ⟨r.toNat, by omega⟩
  subst hq
  rw [Int.toNat_natCast] at hlr
  rw [hlr] at hG
  obtain ⟨rb, ro, z, hrA, _, hz, q0⟩ := iSl.get (HPs.out W (Below.refl _ _)).roots (show s.rn - 1 < s.rn by omega)
  have e : z = (q : Int) := by
    have h1 : s.rn - 1 = s.roots.length - 1 := by have := hps.roots.1; omega
    rw [h1, hr] at hz
    exact (Option.some.inj hz).symm
  subst e
  have hixr := fun W => ix_intsP (c := s.rc) hrA (show s.rn - 1 < s.rn by omega) W
  have hwr : IntKind.i64.wrap ((s.rn : Int) - 1) = ((s.rn - 1 : Nat) : Int) := by
    have := hps.roots.2.1
    have := hps.roots.2.2.1
    rw [show ((s.rn - 1 : Nat) : Int) = (s.rn : Int) - 1 by omega]
    exact IntWalk.i64_in _ (by omega)
  obtain ⟨rl, hrl2⟩ : ∃ n, s.rn - 1 = n := ⟨_, rfl⟩
  rw [hrl2] at hixr hwr q0
  have HGd := hidp hG
  have HQl : Hid (q < s.gs.length) := by have := hG.1.lt; rw [psV_len] at this; exact this
  have lq := lt_of_cell q0
  have x0 := cell_of_heap (o := 0) g1
  have x1 := cell_of_heap (o := 1) g1
  have x2 := lt_of_heap g1
  simp only [List.getElem?_toArray, List.getElem?_cons_zero, List.getElem?_cons_succ] at x0 x1
  clear hps c1 g1 hsm hT hr0 hr hrl hG hz hrA hrl2 hrn0 hlr hc
  go_enter Try.func31, Try.ntmps31
  go_wp2_with fail
  clear hb hW
  refine wp_region_S W.heap.size 17 (fun _ => false) (Nat.le_refl _) (by kernel_rfl) (by kernel_rfl) (by kernel_rfl) ?_
  dsimp only [List.take, List.drop]
  apply relS_det (mask := []) (x := .agg #[.slice s.pA s.pn s.pc, .slice s.rA s.rn s.rc])
  · rfl
  · kernel_rfl
  · kernel_rfl
  · dsimp only [oblS]
    rintro w9 h9
    have hc9 := (bcell h9).1
    go_simp
    exact ⟨Below.refl _ _, rfl⟩
  dsimp only [List.nil_append, List.cons_append]
  apply relS_det (mask := [false])
  · rfl
  · kernel_rfl
  · kernel_rfl
  · dsimp only [oblS]
    rintro w9 h9
    go_simp
    exact ⟨Below.refl _ _, rfl⟩
  dsimp only [List.nil_append, List.cons_append]
  apply relS_det (mask := [false, true]) (x := .slice s.rA s.rn s.rc)
  · rfl
  · kernel_rfl
  · kernel_rfl
  · dsimp only [oblS]
    rintro w9 h9
    have hc9 := (bcell h9).1
    go_simp
    exact ⟨Below.refl _ _, rfl⟩
  dsimp only [List.nil_append, List.cons_append]
  apply relS_det (mask := [false, false, false])
  · rfl
  · kernel_rfl
  · kernel_rfl
  · dsimp only [oblS]
    rintro w9 h9
    go_simp
    exact ⟨Below.refl _ _, rfl⟩
  dsimp only [List.nil_append, List.cons_append]
  apply relS_det (mask := [false, false, false, true]) (x := .slice s.rA s.rn s.rc)
  · rfl
  · kernel_rfl
  · kernel_rfl
  · dsimp only [oblS]
    rintro w9 h9
    have hc9 := (bcell h9).1
    go_simp
    exact ⟨Below.refl _ _, rfl⟩
  dsimp only [List.nil_append, List.cons_append]
  apply relS_det (mask := [false, false, false, false, true]) (x := .int .i64 (s.rn : Int))
  · rfl
  · kernel_rfl
  · kernel_rfl
  · dsimp only [oblS]
    rintro w9 h9
    go_simp
    exact ⟨Below.refl _ _, rfl⟩
  dsimp only [List.nil_append, List.cons_append]
  apply relS_det (mask := [false, false, false, false, false, true]) (x := .int .i64 (rl : Int))
  · rfl
  · kernel_rfl
  · kernel_rfl
  · dsimp only [oblS]
    rintro w9 h9
    go_simp
    exact ⟨Below.refl _ _, rfl⟩
  dsimp only [List.nil_append, List.cons_append]
  apply relS_det (mask := [false, false, true, false, false, false, true])
  · rfl
  · kernel_rfl
  · kernel_rfl
  · dsimp only [oblS]
    rintro w9 h9
    go_simp
    exact ⟨Below.refl _ _, rfl⟩
  dsimp only [List.nil_append, List.cons_append]
  apply relS_det (mask := [false, false, false, false, false, false, false, true]) (x := .int .i64 (q : Int))
  · rfl
  · kernel_rfl
  · kernel_rfl
  · dsimp only [oblS]
    rintro w9 h9
    have hc9 := (bcell h9).1
    go_simp
    exact ⟨Below.refl _ _, rfl⟩
  dsimp only [List.nil_append, List.cons_append]
  apply relS_any (mask := [true, false, false, false, false, false, false, false, true]) (T := fun v _ => ∃ y : Value, v = .tuple #[y, .int .i64 (d : Nat), .bool true]) (hT := fun v w w' hb h => h)
  · rfl
  · kernel_rfl
  · kernel_rfl
  · dsimp only [oblS]
    rintro w9 h9 T' hT'
    have hc9 := (bcell h9).1
    go_simp
    refine (walk_top s q w9 HQl.out (HPs.out w9 h9) HSm.out HT.out).mono ?_
    rintro e w7 ⟨hb7, -, h7⟩
    obtain ⟨A, c, rfl, -⟩ := h7 _ _ (good_lvG HGd.out).1
    exact ⟨_, rfl, hb7, hT' _ _ ⟨_, rfl⟩⟩
  dsimp only [List.nil_append, List.cons_append]
  apply relS_any (mask := [false, false, false, false, false, false, false, false, false, true]) (T := fun v _ => ∃ y : Value, v = .tuple #[y, .int .i64 (d : Nat), .bool true]) (hT := fun v w w' hb h => h)
  · rfl
  · kernel_rfl
  · kernel_rfl
  · dsimp only [oblS]
    intro v16
    rintro w9 ⟨h9, t16⟩ T' hT'
    obtain ⟨y, e6⟩ := t16
    subst e6
    go_simp
    exact ⟨Below.refl _ _, hT' _ _ ⟨_, rfl⟩⟩
  dsimp only [List.nil_append, List.cons_append]
  apply relS_any (mask := [false, false, false, false, false, false, false, false, false, false, true]) (T := fun _ _ => True) (hT := fun _ _ _ _ h => h)
  · rfl
  · kernel_rfl
  · kernel_rfl
  · dsimp only [oblS]
    intro v6
    rintro w9 ⟨h9, t6⟩ T' hT'
    obtain ⟨y, e6⟩ := t6
    subst e6
    go_simp
    exact ⟨Below.refl _ _, hT' _ _ trivial⟩
  dsimp only [List.nil_append, List.cons_append]
  apply relS_det (mask := [false, false, false, false, false, false, false, false, false, false, true, false]) (x := .int .i64 (d : Nat))
  · rfl
  · kernel_rfl
  · kernel_rfl
  · dsimp only [oblS]
    intro v6
    rintro w9 ⟨h9, t6⟩
    obtain ⟨y, e6⟩ := t6
    subst e6
    go_simp
    exact ⟨Below.refl _ _, rfl⟩
  dsimp only [List.nil_append, List.cons_append]
  apply relS_det (mask := [false, false, false, false, false, false, false, false, false, false, true, false, false]) (x := .bool true)
  · rfl
  · kernel_rfl
  · kernel_rfl
  · dsimp only [oblS]
    intro v6
    rintro w9 ⟨h9, t6⟩
    obtain ⟨y, e6⟩ := t6
    subst e6
    go_simp
    exact ⟨Below.refl _ _, rfl⟩
  dsimp only [List.nil_append, List.cons_append]
  apply relS_any (mask := [false, false, false, false, false, false, false, false, false, false, false, true, false, false]) (T := fun _ _ => True) (hT := fun _ _ _ _ h => h)
  · rfl
  · kernel_rfl
  · kernel_rfl
  · dsimp only [oblS]
    intro v17
    rintro w9 ⟨h9, t17⟩ T' hT'
    go_simp
    exact ⟨Below.refl _ _, hT' _ _ trivial⟩
  dsimp only [List.nil_append, List.cons_append]
  apply relS_det (mask := [false, false, false, false, false, false, false, false, false, false, false, false, true, false, false]) (x := .int .i64 (d : Nat))
  · rfl
  · kernel_rfl
  · kernel_rfl
  · dsimp only [oblS]
    rintro w9 h9
    go_simp
    exact ⟨Below.refl _ _, rfl⟩
  dsimp only [List.nil_append, List.cons_append]
  apply relS_det (mask := [false, false, false, false, false, false, false, false, false, false, false, false, false, true, false, false]) (x := .bool true)
  · rfl
  · kernel_rfl
  · kernel_rfl
  · dsimp only [oblS]
    rintro w9 h9
    go_simp
    exact ⟨Below.refl _ _, rfl⟩
  dsimp only [List.nil_append, List.cons_append]
  refine relS_end (by rfl) ?_
  dsimp only [finS]
  rintro v16 v6 v17 v3 w8 ⟨⟨⟨⟨hb8, -⟩, -⟩, -⟩, -⟩
  go_simp
  go_wp2_with fail
  go_ret
  exact ⟨rfl, HC1.out.trans (hb8.mono HC1.out.size)⟩
end Go.Proofs.Ytpnfpdkoeednhaa
