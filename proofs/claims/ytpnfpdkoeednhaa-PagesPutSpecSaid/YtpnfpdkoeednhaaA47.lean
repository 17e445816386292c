/- The reference's insert (printed by tools/gen156.py). -/
import Derived.Test.YtpnfpdkoeednhaaA38
import Derived.Test.YtpnfpdkoeednhaaMK
import Derived.Test.YtpnfpdkoeednhaaM7
import Derived.Deep.RegionHeld3
import Derived.BigRegion
import Derived.BigQuiet
namespace Go.Proofs.Ytpnfpdkoeednhaa
open Go.RowKit Go.Shelf

theorem pgInfoR : (Try.prog.info? 66).map (fun i => (i.zero, i.size, i.bytes)) = some (some (.agg #[.slice none 0 0, .slice none 0 0]), 2, 48) := by kernel_rfl
/-- An append onto an empty row that is one's own: nothing older is turned. -/
theorem run_append_fresh {α : Type} {k : Nat} {e : TypeId} {enc : α → List Value} {w : World} {P : Program} {t ty : TypeId} {i : TypeInfo} {z : Value} {bytes n₁ m c base g : Nat} {A : Option Addr} {s : List α} (ht : P.underlying t = some (.slice e)) (hi : P.info? e = some i) (hz : i.zero = some z) (hsize : i.size = k) (hby : i.bytes = bytes) (hzs : z.cells.size = k)
    (hk : ∀ x, (enc x).length = k) (h0 : 0 < k) (h1 : ∀ x, ∀ u ∈ enc x, u.oneCell' = true) (hown : w.ownsRow base e k (.slice (some ⟨g, 0, none⟩) 0 0) 0 (([] : List α).flatMap enc)) (hs : Rows k (Rep.flat enc) w n₁ A m c s)
    (hn : m * bytes ≤ 140737488355328) (hnm : m ≤ 9223372036854775807) (hb : base ≤ w.heap.size) :
    ∃ v' w', (Builtin.append_ #[t, t] ty #[.slice (some ⟨g, 0, none⟩) 0 0, .slice A m c]).run P w = .ok v' w' ∧ w'.ownsRow base e k v' m (s.flatMap enc) ∧ Below w.heap.size w w' := by
  obtain ⟨v', w', hrun, ho, _, _⟩ := run_append_rows (P := P) (ty := ty) (l := []) ht hi hz hsize hby hzs hk h0 h1 hown hs (by rw [Nat.zero_add]; exact hn) (by rw [Nat.zero_add]; exact hnm) hb
  obtain ⟨A2, c2, w2, hrun2, _, hb2⟩ := run_append_clipR (P := P) (ty := ty) (A := some ⟨g, 0, none⟩) (n := 0) (c := 0) (l := []) ht hi hz hsize hby hzs hk h0 h1 (Rows.nil (n₀ := w.heap.size) (by omega)) (Nat.le_refl _) hs (by rw [Nat.zero_add]; exact hn) (by rw [Nat.zero_add]; exact hnm)
  rw [hrun] at hrun2
  injection hrun2 with e1 e2
  subst e2
  rw [Nat.zero_add, List.nil_append] at ho
  exact ⟨v', w', hrun, ho, hb2⟩
theorem place_at {F : List Fc} {f : Fc} {k : Nat} (h1 : ∀ (j : Nat) (x : Fc), j < k → F[j]? = some x → ltP x f = true) (h2 : ∀ x, F[k]? = some x → ltP x f = false) (hk : k ≤ F.length) : placeP F f = k := by
  unfold placeP
  have hs : F = F.take k ++ F.drop k := (List.take_append_drop k F).symm
  rw [hs, List.takeWhile_append_of_pos]
  · rw [List.length_append, List.length_take, Nat.min_eq_left hk]
    have : (F.drop k).takeWhile (fun x => ltP x f) = [] := by
      cases hd : F.drop k with
      | nil => rfl
      | cons a t =>
        have ha : F[k]? = some a := by
          have := congrArg (fun l => l[0]?) hd
          simpa using this
        rw [List.takeWhile_cons, h2 a ha]; rfl
    rw [this]; rfl
  · intro x hx
    obtain ⟨j, hj⟩ := List.mem_iff_getElem?.1 hx
    rw [List.getElem?_take] at hj
    split at hj
    · rename_i hlt
      exact h1 j x hlt hj
    · cases hj
/-- What insert hands back. -/
structure InsRes (gs : List Pq) (f : Fc) (q n0 : Nat) (A : Option Addr) (n c : Nat) (gs' : List Pq) (one : Nat) (two : Bool) (uf : Fc) (sec : Nat) (w : World) : Prop where
  own : w.ownsRow n0 66 2 (.slice A n c) n (gs'.flatMap pgEnc)
  each : ∀ g ∈ gs', PgIn g w w.heap.size
  all : gs'.map pgV = (insW f (q + 1) (gs.map pgV) q).1
  one : one = (insW f (q + 1) (gs.map pgV) q).2.1
  no : two = false → (insW f (q + 1) (gs.map pgV) q).2.2 = none
  yes : two = true → (insW f (q + 1) (gs.map pgV) q).2.2 = some (uf, sec)
  slim : ∀ g ∈ gs', g.fn ≤ 1000000 ∧ g.kn ≤ 1000000
  far : ∀ g ∈ gs', g ∈ gs ∨ ∀ x, PgBl g x → n0 ≤ x
  len : n ≤ gs.length + 2 * (q + 1)
  apart : ∀ g ∈ gs', ∀ x, PgBl g x → (Value.slice A n c).ownBlock ≠ some x
theorem own_ne {w : World} {base k n m c x off : Nat} {e : TypeId} {A : Option Addr} {xs : List Value} (h : w.ownsRow base e k (.slice A m c) n xs) (hA : A = some ⟨x, off, none⟩) : base ≤ x := (h.lt x (by rw [hA]; rfl)).1
theorem own_at {w : World} {base k n m c x : Nat} {e : TypeId} {A : Option Addr} {xs : List Value} (h : w.ownsRow base e k (.slice A m c) n xs) (hx : (Value.slice A m c).ownBlock = some x) : A = some ⟨x, 0, none⟩ := by
  rcases h.2 with ⟨h1, _⟩ | ⟨g, cap, cur, h1, _⟩
  · rw [h1] at hx; cases hx
  · rw [h1] at hx
    cases h1
    cases hx
    rfl
theorem InsRes.rows {gs gs' : List Pq} {f uf : Fc} {q n0 n c one sec : Nat} {A : Option Addr} {two : Bool} {w : World} (h : InsRes gs f q n0 A n c gs' one two uf sec w) : pgSl w w.heap.size A n c gs' := by
  obtain ⟨A1, c1, e, h1⟩ := own_rows pgEnc_len (by decide) h.own
  cases e
  exact h1
theorem InsRes.rfar {gs gs' : List Pq} {f uf : Fc} {q n0 n c one sec : Nat} {A : Option Addr} {two : Bool} {w : World} (h : InsRes gs f q n0 A n c gs' one two uf sec w) : ∀ x off, A = some ⟨x, off, none⟩ → n0 ≤ x := fun _ _ e => own_ne h.own e
/-- What stands in memory while insert runs: the fact, the result's fact, the page that is made. -/
structure RiS (f : Fc) (n0 X : Nat) (v1 v2 : Value) (F : List Fc) (K : List Int) (w0 w : World) : Prop where
  below : Below w0.heap.size w0 w
  fb : w.heap[n0]? = some (.cells #[.int .i64 f.key.kind, .int .i64 f.key.subj, .int .i64 f.key.obj, .int .i64 f.val, .int .i64 f.fr, .int .i64 f.to, .int .i64 f.known, .int .i64 f.no] 31 (0, 0))
  ub : w.heap[n0 + 1]? = some (.cells #[.int .i64 0, .int .i64 0, .int .i64 0, .int .i64 0, .int .i64 0, .int .i64 0, .int .i64 0, .int .i64 0] 31 (0, 0))
  gb : w.heap[X]? = some (.cells #[v1, v2] 66 (0, 0))
  fo : w.ownsRow (n0 + 2) 31 8 v1 F.length (F.flatMap fEnc)
  ko : w.ownsRow (n0 + 2) 3 1 v2 K.length (K.flatMap iEnc)
theorem RiS.later {f : Fc} {n0 X : Nat} {v1 v2 : Value} {F : List Fc} {K : List Int} {w0 w w' : World} (h : RiS f n0 X v1 v2 F K w0 w) (hb : Below w.heap.size w w') : RiS f n0 X v1 v2 F K w0 w' :=
  ⟨h.below.trans (hb.mono h.below.size), (hb.block _ (lt_of_heap h.fb)).trans h.fb, (hb.block _ (lt_of_heap h.ub)).trans h.ub, (hb.block _ (lt_of_heap h.gb)).trans h.gb,
    own_keepB h.fo fun g hg => hb.block g (h.fo.lt g hg).2, own_keepB h.ko fun g hg => hb.block g (h.ko.lt g hg).2⟩
theorem RiS.cells {f : Fc} {n0 X : Nat} {v1 v2 : Value} {F : List Fc} {K : List Int} {w0 w : World} (h : RiS f n0 X v1 v2 F K w0 w) :
    (w.cell? ⟨X, 0, none⟩ = some v1 ∧ w.cell? ⟨X, 1, none⟩ = some v2 ∧ X < w.heap.size) ∧
    w.cell? ⟨n0, 0, none⟩ = some (.int .i64 f.key.kind) ∧ w.cell? ⟨n0, 1, none⟩ = some (.int .i64 f.key.subj) ∧ w.cell? ⟨n0, 2, none⟩ = some (.int .i64 f.key.obj) ∧ w.cell? ⟨n0, 3, none⟩ = some (.int .i64 f.val) ∧ w.cell? ⟨n0, 4, none⟩ = some (.int .i64 f.fr) ∧ w.cell? ⟨n0, 5, none⟩ = some (.int .i64 f.to) ∧ w.cell? ⟨n0, 6, none⟩ = some (.int .i64 f.known) ∧ w.cell? ⟨n0, 7, none⟩ = some (.int .i64 f.no) ∧ n0 < w.heap.size :=
  ⟨⟨by rw [cell_of_heap h.gb]; rfl, by rw [cell_of_heap h.gb]; rfl, lt_of_heap h.gb⟩, by rw [cell_of_heap h.fb]; rfl, by rw [cell_of_heap h.fb]; rfl, by rw [cell_of_heap h.fb]; rfl, by rw [cell_of_heap h.fb]; rfl, by rw [cell_of_heap h.fb]; rfl, by rw [cell_of_heap h.fb]; rfl, by rw [cell_of_heap h.fb]; rfl, by rw [cell_of_heap h.fb]; rfl, lt_of_heap h.fb⟩
theorem InsRes.mono {gs gs' : List Pq} {f uf : Fc} {q n0 n1 n c one sec : Nat} {A : Option Addr} {two : Bool} {w : World} (h : InsRes gs f q n1 A n c gs' one two uf sec w) (hn : n0 ≤ n1) : InsRes gs f q n0 A n c gs' one two uf sec w :=
  ⟨own_monoB h.own hn, h.each, h.all, h.one, h.no, h.yes, h.slim, fun g hg => (h.far g hg).imp id fun h x hx => Nat.le_trans hn (h x hx), h.len, h.apart⟩
theorem InsRes.later {gs gs' : List Pq} {f uf : Fc} {q n0 n c one sec : Nat} {A : Option Addr} {two : Bool} {w w' : World} (h : InsRes gs f q n0 A n c gs' one two uf sec w) (hb : Below w.heap.size w w') : InsRes gs f q n0 A n c gs' one two uf sec w' :=
  ⟨own_keepB h.own fun g hg => hb.block g (h.own.lt g hg).2, fun g hg => (h.each g hg).keep hb.size hb.block, h.all, h.one, h.no, h.yes, h.slim, h.far, h.len, h.apart⟩
theorem rows_only {α : Type} {k : Nat} {enc : α → List Value} {n c X : Nat} {A : Option Addr} {l : List α} {w w' : World} (hr : Rows k (Rep.flat enc) w w.heap.size A n c l) (hO : Only X w w') (hx : ∀ x off, 0 < n → A = some ⟨x, off, none⟩ → x ≠ X) : Rows k (Rep.flat enc) w' w'.heap.size A n c l :=
  rows_at hr fun hn b off e => by
    obtain ⟨b2, o2, e2, hlt, _⟩ := hr.2.2.2 hn
    rw [e] at e2; cases e2
    exact ⟨by rw [hO.size]; exact hlt, hO.block b (hx b off hn e)⟩
theorem PgIn.onlyR {g : Pq} {X : Nat} {w w' : World} (h : PgIn g w w.heap.size) (hO : Only X w w') (hX : ∀ x, PgBl g x → x ≠ X) : PgIn g w' w'.heap.size :=
  ⟨rows_only h.1 hO fun x off hn e => hX x (.inl ⟨hn, off, e⟩), rows_only h.2 hO fun x off hn e => hX x (.inr ⟨hn, off, e⟩)⟩
theorem InsRes.only {gs gs' : List Pq} {f uf : Fc} {q n0 n c one sec Z : Nat} {A : Option Addr} {two : Bool} {w w' : World} (h : InsRes gs f q n0 A n c gs' one two uf sec w) (hO : Only Z w w') (hg : ∀ g ∈ gs', ∀ x, PgBl g x → x ≠ Z) (hA : ∀ x off, A = some ⟨x, off, none⟩ → x ≠ Z) : InsRes gs f q n0 A n c gs' one two uf sec w' :=
  ⟨own_keepB h.own fun x e => hO.block x (hA x 0 (own_at h.own e)), fun g hgm => (h.each g hgm).onlyR hO (hg g hgm), h.all, h.one, h.no, h.yes, h.slim, h.far, h.len, h.apart⟩
/-- Pages in memory that lie in none of the boxes. -/
structure PgM (g0 : List Pq) (n0 M : Nat) (A : Option Addr) (n c : Nat) (gs : List Pq) (w : World) : Prop where
  rows : pgSl w w.heap.size A n c gs
  each : ∀ g ∈ gs, PgIn g w w.heap.size
  slim : ∀ g ∈ gs, g.fn ≤ 1000000 ∧ g.kn ≤ 1000000
  orig : ∀ g ∈ gs, g ∈ g0 ∨ ∀ x, PgBl g x → M < x
  old : ∀ g ∈ g0, ∀ x, PgBl g x → x < n0
  rfar : ∀ x off, 0 < n → A = some ⟨x, off, none⟩ → x < n0 ∨ M < x
theorem PgM.far {n0 M n c : Nat} {A : Option Addr} {g0 gs : List Pq} {w : World} (h : PgM g0 n0 M A n c gs w) : ∀ g ∈ gs, ∀ x, PgBl g x → x < n0 ∨ M < x :=
  fun g hg x hx => (h.orig g hg).elim (fun h1 => .inl (h.old g h1 x hx)) fun h1 => .inr (h1 x hx)
theorem PgM.later {n0 M n c : Nat} {A : Option Addr} {g0 gs : List Pq} {w w' : World} (h : PgM g0 n0 M A n c gs w) (hb : Below w.heap.size w w') : PgM g0 n0 M A n c gs w' :=
  ⟨h.rows.keep (Rep.flat_stable _) hb.size hb.block, fun g hg => (h.each g hg).keep hb.size hb.block, h.slim, h.orig, h.old, h.rfar⟩
theorem PgM.only {n0 M n c X : Nat} {A : Option Addr} {g0 gs : List Pq} {w w' : World} (h : PgM g0 n0 M A n c gs w) (hO : Only X w w') (h1 : n0 ≤ X) (h2 : X ≤ M) : PgM g0 n0 M A n c gs w' :=
  ⟨rows_only h.rows hO fun x off hn e => by have := h.rfar x off hn e; omega, fun g hg => (h.each g hg).onlyR hO fun x hx => by have := h.far g hg x hx; omega, h.slim, h.orig, h.old, h.rfar⟩
/-- And the box of the fact in the middle. -/
structure RiM (f mid : Fc) (n0 X M : Nat) (v1 v2 : Value) (F : List Fc) (K : List Int) (w0 w : World) : Prop where
  s : RiS f n0 X v1 v2 F K w0 w
  mb : w.heap[M]? = some (.cells #[.int .i64 mid.key.kind, .int .i64 mid.key.subj, .int .i64 mid.key.obj, .int .i64 mid.val, .int .i64 mid.fr, .int .i64 mid.to, .int .i64 mid.known, .int .i64 mid.no] 31 (0, 0))
  hX : n0 + 2 ≤ X
  hM : X < M
  ne1 : ∀ x, v1.ownBlock = some x → x < M
  ne2 : ∀ x, v2.ownBlock = some x → x < M
theorem RiM.later {f mid : Fc} {n0 X M : Nat} {v1 v2 : Value} {F : List Fc} {K : List Int} {w0 w w' : World} (h : RiM f mid n0 X M v1 v2 F K w0 w) (hb : Below w.heap.size w w') : RiM f mid n0 X M v1 v2 F K w0 w' :=
  ⟨h.s.later hb, (hb.block _ (lt_of_heap h.mb)).trans h.mb, h.hX, h.hM, h.ne1, h.ne2⟩
theorem set8 {w : World} {Z : Nat} {c0 c1 c2 c3 c4 c5 c6 c7 : Value} {t : TypeId} (h : w.heap[Z]? = some (.cells #[c0, c1, c2, c3, c4, c5, c6, c7] t (0, 0))) (a0 a1 a2 a3 a4 a5 a6 a7 : Value) :
    Only Z w ((((((((w.setCell ⟨Z, 0, none⟩ a0).setCell ⟨Z, 1, none⟩ a1).setCell ⟨Z, 2, none⟩ a2).setCell ⟨Z, 3, none⟩ a3).setCell ⟨Z, 4, none⟩ a4).setCell ⟨Z, 5, none⟩ a5).setCell ⟨Z, 6, none⟩ a6).setCell ⟨Z, 7, none⟩ a7) ∧
    ((((((((w.setCell ⟨Z, 0, none⟩ a0).setCell ⟨Z, 1, none⟩ a1).setCell ⟨Z, 2, none⟩ a2).setCell ⟨Z, 3, none⟩ a3).setCell ⟨Z, 4, none⟩ a4).setCell ⟨Z, 5, none⟩ a5).setCell ⟨Z, 6, none⟩ a6).setCell ⟨Z, 7, none⟩ a7).heap[Z]? = some (.cells #[a0, a1, a2, a3, a4, a5, a6, a7] t (0, 0)) := by
  refine ⟨((((((((Only.setCell _ _ _ _).trans (Only.setCell _ _ _ _)).trans (Only.setCell _ _ _ _)).trans (Only.setCell _ _ _ _)).trans (Only.setCell _ _ _ _)).trans (Only.setCell _ _ _ _)).trans (Only.setCell _ _ _ _)).trans (Only.setCell _ _ _ _)), ?_⟩
  have h8 := heap_setN (heap_setN (heap_setN (heap_setN (heap_setN (heap_setN (heap_setN (heap_setN h 0 a0) 1 a1) 2 a2) 3 a3) 4 a4) 5 a5) 6 a6) 7 a7
  simpa using h8
/-- A fact stored cell by cell into a box: the memories between. -/
structure Ch8 (w : World) (Z : Nat) (u : Fc) (c0 c1 c2 c3 c4 c5 c6 c7 : Value) (y1 y2 y3 y4 y5 y6 y7 y8 : World) : Prop where
  e0 : w.setCell ⟨Z, 0, none⟩ (.int .i64 u.key.kind) = y1
  e1 : y1.setCell ⟨Z, 1, none⟩ (.int .i64 u.key.subj) = y2
  e2 : y2.setCell ⟨Z, 2, none⟩ (.int .i64 u.key.obj) = y3
  e3 : y3.setCell ⟨Z, 3, none⟩ (.int .i64 u.val) = y4
  e4 : y4.setCell ⟨Z, 4, none⟩ (.int .i64 u.fr) = y5
  e5 : y5.setCell ⟨Z, 5, none⟩ (.int .i64 u.to) = y6
  e6 : y6.setCell ⟨Z, 6, none⟩ (.int .i64 u.known) = y7
  e7 : y7.setCell ⟨Z, 7, none⟩ (.int .i64 u.no) = y8
  p0 : w.cell? ⟨Z, 0, none⟩ = some c0
  r0 : w.frozen? ⟨Z, 0, none⟩ = false
  l0 : Z < w.heap.size
  p1 : y1.cell? ⟨Z, 1, none⟩ = some c1
  r1 : y1.frozen? ⟨Z, 1, none⟩ = false
  l1 : Z < y1.heap.size
  p2 : y2.cell? ⟨Z, 2, none⟩ = some c2
  r2 : y2.frozen? ⟨Z, 2, none⟩ = false
  l2 : Z < y2.heap.size
  p3 : y3.cell? ⟨Z, 3, none⟩ = some c3
  r3 : y3.frozen? ⟨Z, 3, none⟩ = false
  l3 : Z < y3.heap.size
  p4 : y4.cell? ⟨Z, 4, none⟩ = some c4
  r4 : y4.frozen? ⟨Z, 4, none⟩ = false
  l4 : Z < y4.heap.size
  p5 : y5.cell? ⟨Z, 5, none⟩ = some c5
  r5 : y5.frozen? ⟨Z, 5, none⟩ = false
  l5 : Z < y5.heap.size
  p6 : y6.cell? ⟨Z, 6, none⟩ = some c6
  r6 : y6.frozen? ⟨Z, 6, none⟩ = false
  l6 : Z < y6.heap.size
  p7 : y7.cell? ⟨Z, 7, none⟩ = some c7
  r7 : y7.frozen? ⟨Z, 7, none⟩ = false
  l7 : Z < y7.heap.size
  only : Only Z w y8
  heap : y8.heap[Z]? = some (.cells #[.int .i64 u.key.kind, .int .i64 u.key.subj, .int .i64 u.key.obj, .int .i64 u.val, .int .i64 u.fr, .int .i64 u.to, .int .i64 u.known, .int .i64 u.no] 31 (0, 0))
theorem chain8 {w : World} {Z : Nat} {c0 c1 c2 c3 c4 c5 c6 c7 : Value} (h : w.heap[Z]? = some (.cells #[c0, c1, c2, c3, c4, c5, c6, c7] 31 (0, 0))) (u : Fc) : ∃ y1 y2 y3 y4 y5 y6 y7 y8 : World, Ch8 w Z u c0 c1 c2 c3 c4 c5 c6 c7 y1 y2 y3 y4 y5 y6 y7 y8 := by
  have h0 := h
  have h1 : (w.setCell ⟨Z, 0, none⟩ (.int .i64 u.key.kind)).heap[Z]? = some (.cells #[(.int .i64 u.key.kind), c1, c2, c3, c4, c5, c6, c7] 31 (0, 0)) := by
    have h9 := heap_setN h0 0 (.int .i64 u.key.kind)
    simpa using h9
  have h2 : ((w.setCell ⟨Z, 0, none⟩ (.int .i64 u.key.kind)).setCell ⟨Z, 1, none⟩ (.int .i64 u.key.subj)).heap[Z]? = some (.cells #[(.int .i64 u.key.kind), (.int .i64 u.key.subj), c2, c3, c4, c5, c6, c7] 31 (0, 0)) := by
    have h9 := heap_setN h1 1 (.int .i64 u.key.subj)
    simpa using h9
  have h3 : (((w.setCell ⟨Z, 0, none⟩ (.int .i64 u.key.kind)).setCell ⟨Z, 1, none⟩ (.int .i64 u.key.subj)).setCell ⟨Z, 2, none⟩ (.int .i64 u.key.obj)).heap[Z]? = some (.cells #[(.int .i64 u.key.kind), (.int .i64 u.key.subj), (.int .i64 u.key.obj), c3, c4, c5, c6, c7] 31 (0, 0)) := by
    have h9 := heap_setN h2 2 (.int .i64 u.key.obj)
    simpa using h9
  have h4 : ((((w.setCell ⟨Z, 0, none⟩ (.int .i64 u.key.kind)).setCell ⟨Z, 1, none⟩ (.int .i64 u.key.subj)).setCell ⟨Z, 2, none⟩ (.int .i64 u.key.obj)).setCell ⟨Z, 3, none⟩ (.int .i64 u.val)).heap[Z]? = some (.cells #[(.int .i64 u.key.kind), (.int .i64 u.key.subj), (.int .i64 u.key.obj), (.int .i64 u.val), c4, c5, c6, c7] 31 (0, 0)) := by
    have h9 := heap_setN h3 3 (.int .i64 u.val)
    simpa using h9
  have h5 : (((((w.setCell ⟨Z, 0, none⟩ (.int .i64 u.key.kind)).setCell ⟨Z, 1, none⟩ (.int .i64 u.key.subj)).setCell ⟨Z, 2, none⟩ (.int .i64 u.key.obj)).setCell ⟨Z, 3, none⟩ (.int .i64 u.val)).setCell ⟨Z, 4, none⟩ (.int .i64 u.fr)).heap[Z]? = some (.cells #[(.int .i64 u.key.kind), (.int .i64 u.key.subj), (.int .i64 u.key.obj), (.int .i64 u.val), (.int .i64 u.fr), c5, c6, c7] 31 (0, 0)) := by
    have h9 := heap_setN h4 4 (.int .i64 u.fr)
    simpa using h9
  have h6 : ((((((w.setCell ⟨Z, 0, none⟩ (.int .i64 u.key.kind)).setCell ⟨Z, 1, none⟩ (.int .i64 u.key.subj)).setCell ⟨Z, 2, none⟩ (.int .i64 u.key.obj)).setCell ⟨Z, 3, none⟩ (.int .i64 u.val)).setCell ⟨Z, 4, none⟩ (.int .i64 u.fr)).setCell ⟨Z, 5, none⟩ (.int .i64 u.to)).heap[Z]? = some (.cells #[(.int .i64 u.key.kind), (.int .i64 u.key.subj), (.int .i64 u.key.obj), (.int .i64 u.val), (.int .i64 u.fr), (.int .i64 u.to), c6, c7] 31 (0, 0)) := by
    have h9 := heap_setN h5 5 (.int .i64 u.to)
    simpa using h9
  have h7 : (((((((w.setCell ⟨Z, 0, none⟩ (.int .i64 u.key.kind)).setCell ⟨Z, 1, none⟩ (.int .i64 u.key.subj)).setCell ⟨Z, 2, none⟩ (.int .i64 u.key.obj)).setCell ⟨Z, 3, none⟩ (.int .i64 u.val)).setCell ⟨Z, 4, none⟩ (.int .i64 u.fr)).setCell ⟨Z, 5, none⟩ (.int .i64 u.to)).setCell ⟨Z, 6, none⟩ (.int .i64 u.known)).heap[Z]? = some (.cells #[(.int .i64 u.key.kind), (.int .i64 u.key.subj), (.int .i64 u.key.obj), (.int .i64 u.val), (.int .i64 u.fr), (.int .i64 u.to), (.int .i64 u.known), c7] 31 (0, 0)) := by
    have h9 := heap_setN h6 6 (.int .i64 u.known)
    simpa using h9
  refine ⟨_, _, _, _, _, _, _, _, ⟨rfl, rfl, rfl, rfl, rfl, rfl, rfl, rfl, by rw [cell_of_heap h0]; rfl, frozen_of_heap h0, lt_of_heap h0, by rw [cell_of_heap h1]; rfl, frozen_of_heap h1, lt_of_heap h1, by rw [cell_of_heap h2]; rfl, frozen_of_heap h2, lt_of_heap h2, by rw [cell_of_heap h3]; rfl, frozen_of_heap h3, lt_of_heap h3, by rw [cell_of_heap h4]; rfl, frozen_of_heap h4, lt_of_heap h4, by rw [cell_of_heap h5]; rfl, frozen_of_heap h5, lt_of_heap h5, by rw [cell_of_heap h6]; rfl, frozen_of_heap h6, lt_of_heap h6, by rw [cell_of_heap h7]; rfl, frozen_of_heap h7, lt_of_heap h7, (set8 h _ _ _ _ _ _ _ _).1, (set8 h _ _ _ _ _ _ _ _).2⟩⟩
theorem below_onlyAt {n Z : Nat} {a b c : World} (h : Below n a b) (hO : Only Z b c) (hn : n ≤ Z) : Below n a c :=
  ⟨hO.os.trans h.os, hO.tape.trans h.tape, hO.output.trans h.output, by rw [hO.size]; exact h.size, fun x hx => (hO.block x (by omega)).trans (h.block x hx)⟩
theorem RiM.mid {f mid m : Fc} {n0 X M : Nat} {v1 v2 : Value} {F : List Fc} {K : List Int} {w0 w w' : World} (h : RiM f mid n0 X M v1 v2 F K w0 w) (hO : Only M w w') (hM : w'.heap[M]? = some (.cells #[.int .i64 m.key.kind, .int .i64 m.key.subj, .int .i64 m.key.obj, .int .i64 m.val, .int .i64 m.fr, .int .i64 m.to, .int .i64 m.known, .int .i64 m.no] 31 (0, 0))) (hw : w0.heap.size ≤ M) : RiM f m n0 X M v1 v2 F K w0 w' := by
  have h1 := h.hX
  have h2 := h.hM
  refine ⟨⟨⟨hO.os.trans h.s.below.os, hO.tape.trans h.s.below.tape, hO.output.trans h.s.below.output, by rw [hO.size]; exact h.s.below.size, fun b hb => (hO.block b (by omega)).trans (h.s.below.block b hb)⟩, (hO.block _ (by omega)).trans h.s.fb, (hO.block _ (by omega)).trans h.s.ub, (hO.block _ (by omega)).trans h.s.gb, own_keepB h.s.fo fun x e => hO.block x (by have := h.ne1 x e; omega), own_keepB h.s.ko fun x e => hO.block x (by have := h.ne2 x e; omega)⟩, hM, h.hX, h.hM, h.ne1, h.ne2⟩
theorem RiM.kid {f mid : Fc} {n0 X M g2 cap kn j : Nat} {v1 : Value} {F : List Fc} {K : List Int} {kid a : Int} {w0 w : World} (h : RiM f mid n0 X M v1 (.slice (some ⟨g2, 0, none⟩) kn cap) F K w0 w) (hn : K.length = kn) (hk : K[j]? = some kid) (hw : w0.heap.size ≤ n0 + 2) :
    RiM f mid n0 X M v1 (.slice (some ⟨g2, 0, none⟩) kn cap) F (K.set j a) w0 (w.setCell ⟨g2, j, none⟩ (.int .i64 a)) := by
  have hko := h.s.ko
  rw [hn] at hko
  have hg := (hko.lt g2 rfl).1
  obtain ⟨cs, hcs⟩ := own_kindP hko (g := g2) rfl
  have hne : ∀ (x : Nat) (cs' : Array Value) (t : TypeId), w.heap[x]? = some (.cells cs' t (0, 0)) → t ≠ 3 → x ≠ g2 := fun x cs' t hx ht e => by
    rw [e, hcs] at hx
    injection hx with hx
    injection hx with _ hx
    exact ht hx.symm
  have hO : Only g2 w (w.setCell ⟨g2, j, none⟩ (.int .i64 a)) := Only.setCell _ _ _ _
  have ho := own_set iEnc_len hko (by decide) hk (j := 0) (by decide) (x' := a) (u := .int .i64 a) rfl
  simp only [Nat.mul_one, Nat.add_zero] at ho
  refine ⟨⟨h.s.below.setCell (p := ⟨g2, j, none⟩) (by show _ ≤ g2; omega) _, (hO.block _ (hne _ _ _ h.s.fb (by decide))).trans h.s.fb, (hO.block _ (hne _ _ _ h.s.ub (by decide))).trans h.s.ub, (hO.block _ (hne _ _ _ h.s.gb (by decide))).trans h.s.gb, own_keepB h.s.fo fun x e => hO.block x ?_, ?_⟩, (hO.block _ (hne _ _ _ h.mb (by decide))).trans h.mb, h.hX, h.hM, h.ne1, h.ne2⟩
  · obtain ⟨cs1, hc1⟩ := own_kindP h.s.fo e
    exact hne x _ _ hc1 (by decide)
  · rw [List.length_set, hn]; exact ho
theorem run_cut_full {P : Program} {t e : TypeId} {i : TypeInfo} (w : World) (ht : P.underlying t = some (.slice e)) (hi : P.info? e = some i) (A : Option Addr) (len cap k : Nat) (hk : k ≤ cap) :
    (Instr.slice t (.slice A len cap) none (some (.int .i64 (k : Int))) (some (.int .i64 (k : Int)))).run P w = .ok (.slice A k k) w := by
  have h1 : (k : Int) ≤ (cap : Int) := by omega
  have hA : A.map (·.add 0) = A := by cases A <;> simp [Addr.add]
  simp [Instr.slice, run_underlying ht, Instr.sliceBounds, run_sliceBound, h1, sizeOf, typeInfo, hi, hA]
/-- New facts, or new pages below, for the page that is made. -/
theorem RiS.facts {f : Fc} {n0 X : Nat} {v1 v2 v : Value} {F F2 : List Fc} {K : List Int} {w0 w : World} (h : RiS f n0 X v1 v2 F K w0 w) (ho : w.ownsRow (n0 + 2) 31 8 v F2.length (F2.flatMap fEnc)) (hX : n0 + 2 ≤ X) (hw : w0.heap.size ≤ n0 + 2) : RiS f n0 X v v2 F2 K w0 (w.setCell ⟨X, 0, none⟩ v) := by
  have hO : Only X w (w.setCell ⟨X, 0, none⟩ v) := Only.setCell _ _ _ _
  have hne : ∀ (x : Nat) (cs : Array Value) (t : TypeId), w.heap[x]? = some (.cells cs t (0, 0)) → t ≠ 66 → x ≠ X := fun x cs t hx ht e => by
    rw [e, h.gb] at hx
    injection hx with hx
    injection hx with _ hx
    exact ht hx.symm
  refine ⟨h.below.setCell (p := ⟨X, 0, none⟩) (by show _ ≤ X; omega) _, (hO.block _ (by omega)).trans h.fb, (hO.block _ (by omega)).trans h.ub, by simpa using heap_setN h.gb 0 v, own_keepB ho fun x e => hO.block x ?_, own_keepB h.ko fun x e => hO.block x ?_⟩
  · obtain ⟨cs, hc⟩ := own_kindP ho e
    exact hne x _ _ hc (by decide)
  · obtain ⟨cs, hc⟩ := own_kindP h.ko e
    exact hne x _ _ hc (by decide)
theorem RiS.kids {f : Fc} {n0 X : Nat} {v1 v2 v : Value} {F : List Fc} {K K2 : List Int} {w0 w : World} (h : RiS f n0 X v1 v2 F K w0 w) (ho : w.ownsRow (n0 + 2) 3 1 v K2.length (K2.flatMap iEnc)) (hX : n0 + 2 ≤ X) (hw : w0.heap.size ≤ n0 + 2) : RiS f n0 X v1 v F K2 w0 (w.setCell ⟨X, 1, none⟩ v) := by
  have hO : Only X w (w.setCell ⟨X, 1, none⟩ v) := Only.setCell _ _ _ _
  have hne : ∀ (x : Nat) (cs : Array Value) (t : TypeId), w.heap[x]? = some (.cells cs t (0, 0)) → t ≠ 66 → x ≠ X := fun x cs t hx ht e => by
    rw [e, h.gb] at hx
    injection hx with hx
    injection hx with _ hx
    exact ht hx.symm
  refine ⟨h.below.setCell (p := ⟨X, 1, none⟩) (by show _ ≤ X; omega) _, (hO.block _ (by omega)).trans h.fb, (hO.block _ (by omega)).trans h.ub, by simpa using heap_setN h.gb 1 v, own_keepB h.fo fun x e => hO.block x ?_, own_keepB ho fun x e => hO.block x ?_⟩
  · obtain ⟨cs, hc⟩ := own_kindP h.fo e
    exact hne x _ _ hc (by decide)
  · obtain ⟨cs, hc⟩ := own_kindP ho e
    exact hne x _ _ hc (by decide)
/-- A new page of facts. -/
structure NwP (B X : Nat) (v1 v2 : Value) (F : List Fc) (K : List Int) (w : World) : Prop where
  at_ : B ≤ X
  gb : w.heap[X]? = some (.cells #[v1, v2] 66 (0, 0))
  fo : w.ownsRow B 31 8 v1 F.length (F.flatMap fEnc)
  ko : w.ownsRow B 3 1 v2 K.length (K.flatMap iEnc)
theorem NwP.later {B X : Nat} {v1 v2 : Value} {F : List Fc} {K : List Int} {w w' : World} (h : NwP B X v1 v2 F K w) (hb : Below w.heap.size w w') : NwP B X v1 v2 F K w' :=
  ⟨h.at_, (hb.block _ (lt_of_heap h.gb)).trans h.gb, own_keepB h.fo fun g hg => hb.block g (h.fo.lt g hg).2, own_keepB h.ko fun g hg => hb.block g (h.ko.lt g hg).2⟩
theorem nwP {B X n : Nat} {v1 : Value} {F : List Fc} {w : World} (hX : B ≤ X) (hb : w.heap[X]? = some (.cells #[.slice none 0 0, .slice none 0 0] 66 (0, 0))) (ho : w.ownsRow B 31 8 v1 n (F.flatMap fEnc)) (hne : ∀ x, v1.ownBlock = some x → x ≠ X) :
    Below B w ((w.setCell ⟨X, 0, none⟩ v1).setCell ⟨X, 1, none⟩ (.slice none 0 0)) ∧ NwP B X v1 (.slice none 0 0) F [] ((w.setCell ⟨X, 0, none⟩ v1).setCell ⟨X, 1, none⟩ (.slice none 0 0)) := by
  have hO : Only X w ((w.setCell ⟨X, 0, none⟩ v1).setCell ⟨X, 1, none⟩ (.slice none 0 0)) := (Only.setCell _ _ _ _).trans (Only.setCell _ _ _ _)
  have hbx := heap_setN (heap_setN hb 0 v1) 1 (.slice none 0 0)
  have hl := flat_len fEnc_len (l := F)
  have hn : n = F.length := by have := ho.1; omega
  subst hn
  exact ⟨((Below.refl B w).setCell (p := ⟨X, 0, none⟩) hX _).setCell (p := ⟨X, 1, none⟩) hX _, hX, by simpa using hbx, own_keepB ho fun x e => hO.block x (hne x e), ⟨by simp, .inl ⟨rfl, rfl⟩⟩⟩
theorem nwK {B B' X n : Nat} {v1 v2 v : Value} {F : List Fc} {K K' : List Int} {w : World} (h : NwP B X v1 v2 F K w) (hB : B ≤ B') (hX : X < B') (ho : w.ownsRow B' 3 1 v n (K'.flatMap iEnc)) :
    Below B w (w.setCell ⟨X, 1, none⟩ v) ∧ NwP B X v1 v F K' (w.setCell ⟨X, 1, none⟩ v) := by
  have hO : Only X w (w.setCell ⟨X, 1, none⟩ v) := Only.setCell _ _ _ _
  have hbx := heap_setN h.gb 1 v
  have hl := flat_len iEnc_len (l := K')
  have hn : n = K'.length := by have := ho.1; omega
  subst hn
  refine ⟨(Below.refl B w).setCell (p := ⟨X, 1, none⟩) h.at_ _, h.at_, by simpa using hbx, own_keepB h.fo fun x e => hO.block x fun ex => ?_, own_monoB (own_keepB ho fun x e => hO.block x fun ex => ?_) hB⟩
  · obtain ⟨cs, h1⟩ := own_kindP h.fo e
    rw [ex, h.gb] at h1
    injection h1 with h1
    injection h1 with _ h1
    exact absurd h1 (by decide)
  · have := (ho.lt x e).1
    omega
theorem pgIn_own {w : World} {B X : Nat} {F : List Fc} {K : List Int} {A5 A9 : Option Addr} {fn kn c5 c9 : Nat} (hf : w.ownsRow B 31 8 (.slice A5 fn c5) F.length (F.flatMap fEnc)) (hk : w.ownsRow X 3 1 (.slice A9 kn c9) K.length (K.flatMap iEnc)) : PgIn ⟨A5, fn, c5, F, A9, kn, c9, K⟩ w w.heap.size ∧ (∀ x, PgBl ⟨A5, fn, c5, F, A9, kn, c9, K⟩ x → B ≤ x ∨ X ≤ x) := by
  obtain ⟨A1, c1, e1, h1⟩ := own_rows fEnc_len (by decide) hf
  obtain ⟨A2, c2, e2, h2⟩ := own_rows iEnc_len (by decide) hk
  cases e1; cases e2
  refine ⟨⟨h1, h2⟩, ?_⟩
  rintro x (⟨_, off, e⟩ | ⟨_, off, e⟩)
  · exact .inl (own_ne hf e)
  · exact .inr (own_ne hk e)
theorem insRes_end {g0 gs' new : List Pq} {f uf : Fc} {q n0 X M n' m c' cR sec B : Nat} {two : Bool} {A' AR : Option Addr} {wb w8 wf : World} (hp : PgM g0 n0 M A' n' c' gs' wb) (hX : n0 + 2 ≤ X) (hM : X < M) (hb : Below wb.heap.size wb w8) (hB : n0 + 2 ≤ B) (ho : w8.ownsRow B 66 2 (.slice AR m cR) m ((gs' ++ new).flatMap pgEnc)) (hnew : ∀ g ∈ new, PgIn g w8 w8.heap.size ∧ (∀ x, PgBl g x → n0 + 2 ≤ x) ∧ g.fn ≤ 1000000 ∧ g.kn ≤ 1000000) (hO : Only (n0 + 1) w8 wf)
    (hall : (gs' ++ new).map pgV = (insW f (q + 1) (g0.map pgV) q).1) (hone : n' = (insW f (q + 1) (g0.map pgV) q).2.1) (hno : two = false → (insW f (q + 1) (g0.map pgV) q).2.2 = none) (hyes : two = true → (insW f (q + 1) (g0.map pgV) q).2.2 = some (uf, sec)) (hm : m ≤ g0.length + 2 * (q + 1)) (hap : ∀ g ∈ gs' ++ new, ∀ x, PgBl g x → x < B) : InsRes g0 f q n0 AR m cR (gs' ++ new) n' two uf sec wf := by
  have hold : ∀ g ∈ gs', PgIn g w8 w8.heap.size := fun g hg => (hp.each g hg).keep hb.size hb.block
  refine ⟨own_monoB (own_keepB ho fun x e => hO.block x (by have := (ho.lt x e).1; omega)) (by omega), fun g hg => ?_, hall, hone, hno, hyes, fun g hg => ?_, fun g hg => ?_, hm, fun g hg x hx e => by have := (ho.lt x e).1; have := hap g hg x hx; omega⟩
  · rcases List.mem_append.1 hg with h | h
    · exact (hold g h).onlyR hO fun x hx => by have := hp.far g h x hx; omega
    · exact (hnew g h).1.onlyR hO fun x hx => by have := (hnew g h).2.1 x hx; omega
  · rcases List.mem_append.1 hg with h | h
    · exact hp.slim g h
    · exact (hnew g h).2.2
  · rcases List.mem_append.1 hg with h | h
    · exact (hp.orig g h).imp id fun h1 x hx => by have := h1 x hx; omega
    · exact .inr fun x hx => by have := (hnew g h).2.1 x hx; omega
theorem insRes_one {g0 gs' : List Pq} {f uf : Fc} {q n0 X M n' c' fn2 c5 kn2 c9 cR : Nat} {A' A5 A9 AR : Option Addr} {F2 : List Fc} {K2 : List Int} {w wb w8 wf : World} (hs : RiS f n0 X (.slice A5 fn2 c5) (.slice A9 kn2 c9) F2 K2 w wb) (hp : PgM g0 n0 M A' n' c' gs' wb) (hX : n0 + 2 ≤ X) (hM : X < M) (hF : F2.length = fn2) (h4 : fn2 ≤ 4) (hk : kn2 ≤ 1000000) (hb : Below wb.heap.size wb w8) (ho : w8.ownsRow wb.heap.size 66 2 (.slice AR (n' + 1) cR) (n' + 1) ((gs' ++ [(⟨A5, fn2, c5, F2, A9, kn2, c9, K2⟩ : Pq)]).flatMap pgEnc)) (hO : Only (n0 + 1) w8 wf)
    (hsp : insW f (q + 1) (g0.map pgV) q = splitP (gs'.map pgV) ⟨F2, K2⟩) (hln : n' ≤ g0.length + 2 * q) : InsRes g0 f q n0 AR (n' + 1) cR (gs' ++ [⟨A5, fn2, c5, F2, A9, kn2, c9, K2⟩]) n' false uf 0 wf := by
  have hs8 := hs.later hb
  obtain ⟨hin, hbl⟩ := pgIn_own hs8.fo hs8.ko
  have hgX := lt_of_heap hs.gb
  have hn := hp.rows.1
  have hsp1 : splitP (gs'.map pgV) ⟨F2, K2⟩ = (gs'.map pgV ++ [⟨F2, K2⟩], (gs'.map pgV).length, none) := by
    unfold splitP
    rw [if_pos (show F2.length ≤ 4 by omega)]
  refine insRes_end hp hX hM hb (by omega) ho (fun g hg => ?_) hO ?_ ?_ (fun _ => ?_) (fun h => by cases h) (by omega) (fun g hg x hx => ?_)
  · obtain rfl := List.mem_singleton.1 hg
    exact ⟨hin, fun x hx => by have := hbl x hx; omega, by show fn2 ≤ _; omega, hk⟩
  · rw [hsp, hsp1]; simp [pgV]
  · rw [hsp, hsp1]; simpa using hn
  · rw [hsp, hsp1]
  · rcases List.mem_append.1 hg with h | h
    · exact PgBl.lt (hp.each g h) hx
    · obtain rfl := List.mem_singleton.1 h
      exact PgBl.lt (pgIn_own hs.fo hs.ko).1 hx
theorem insRes_two {g0 gs' : List Pq} {f : Fc} {q n0 X M n' c' c7 c8 k7 k8 d7 d8 cR X7 X8 B7 B8 B : Nat} {A' A7 A8 E7 E8 AR : Option Addr} {F2 : List Fc} {K2 : List Int} {we w8 wf : World} (hp : PgM g0 n0 M A' n' c' gs' we) (hX : n0 + 2 ≤ X) (hM : X < M) (hF : F2.length = 5) (hB7 : n0 + 2 ≤ B7) (hB8 : n0 + 2 ≤ B8) (hB : n0 + 2 ≤ B) (hBe : we.heap.size ≤ B) (h7 : NwP B7 X7 (.slice A7 2 c7) (.slice E7 k7 d7) (F2.take 2) (K2.take 3) we) (h8 : NwP B8 X8 (.slice A8 2 c8) (.slice E8 k8 d8) (F2.drop 3) (K2.drop 3) we) (hk : K2.length ≤ 1000000) (hb : Below we.heap.size we w8)
    (ho : w8.ownsRow B 66 2 (.slice AR (n' + 2) cR) (n' + 2) ((gs' ++ [(⟨A7, 2, c7, F2.take 2, E7, k7, d7, K2.take 3⟩ : Pq), ⟨A8, 2, c8, F2.drop 3, E8, k8, d8, K2.drop 3⟩]).flatMap pgEnc)) (hO : Only (n0 + 1) w8 wf) (hsp : insW f (q + 1) (g0.map pgV) q = splitP (gs'.map pgV) ⟨F2, K2⟩) (hln : n' ≤ g0.length + 2 * q) :
    InsRes g0 f q n0 AR (n' + 2) cR (gs' ++ [⟨A7, 2, c7, F2.take 2, E7, k7, d7, K2.take 3⟩, ⟨A8, 2, c8, F2.drop 3, E8, k8, d8, K2.drop 3⟩]) n' true (F2.getD 2 default) (n' + 1) wf := by
  have h7' := h7.later hb
  have h8' := h8.later hb
  obtain ⟨hin7, hbl7⟩ := pgIn_own h7'.fo h7'.ko
  obtain ⟨hin8, hbl8⟩ := pgIn_own h8'.fo h8'.ko
  have hn := hp.rows.1
  have hk7 : k7 = (K2.take 3).length := by have := hin7.2.1; exact this
  have hk8 : k8 = (K2.drop 3).length := by have := hin8.2.1; exact this
  rw [List.length_take] at hk7
  rw [List.length_drop] at hk8
  have hsp1 : splitP (gs'.map pgV) ⟨F2, K2⟩ = (gs'.map pgV ++ [⟨F2.take 2, K2.take 3⟩, ⟨F2.drop 3, K2.drop 3⟩], (gs'.map pgV).length, some (F2.getD 2 default, (gs'.map pgV).length + 1)) := by
    unfold splitP
    rw [if_neg (show ¬ F2.length ≤ 4 by omega)]
  refine insRes_end hp hX hM hb hB ho (fun g hg => ?_) hO ?_ ?_ (fun h => by cases h) (fun _ => ?_) (by omega) (fun g hg x hx => ?_)
  · rcases List.mem_cons.1 hg with rfl | hg
    · exact ⟨hin7, fun x hx => by have := hbl7 x hx; omega, by show 2 ≤ _; omega, by show k7 ≤ _; omega⟩
    · obtain rfl := List.mem_singleton.1 hg
      exact ⟨hin8, fun x hx => by have := hbl8 x hx; omega, by show 2 ≤ _; omega, by show k8 ≤ _; omega⟩
  · rw [hsp, hsp1]; simp [pgV]
  · rw [hsp, hsp1]; simpa using hn
  · rw [hsp, hsp1, List.length_map, ← hn]
  · refine Nat.lt_of_lt_of_le ?_ hBe
    rcases List.mem_append.1 hg with h | h
    · exact PgBl.lt (hp.each g h) hx
    · rcases List.mem_cons.1 h with rfl | h
      · exact PgBl.lt (pgIn_own h7.fo h7.ko).1 hx
      · obtain rfl := List.mem_singleton.1 h
        exact PgBl.lt (pgIn_own h8.fo h8.ko).1 hx
theorem NwP.only {B X Y : Nat} {v1 v2 : Value} {F : List Fc} {K : List Int} {w w' : World} {cs : Array Value} (h : NwP B X v1 v2 F K w) (hO : Only Y w w') (hY : w.heap[Y]? = some (.cells cs 66 (0, 0))) (hne : X ≠ Y) : NwP B X v1 v2 F K w' := by
  refine ⟨h.at_, (hO.block X hne).trans h.gb, own_keepB h.fo fun g hg => hO.block g fun e => ?_, own_keepB h.ko fun g hg => hO.block g fun e => ?_⟩
  · obtain ⟨cs, h1⟩ := own_kindP h.fo hg
    rw [e, hY] at h1
    injection h1 with h1
    injection h1 with _ h1
    exact absurd h1 (by decide)
  · obtain ⟨cs, h1⟩ := own_kindP h.ko hg
    rw [e, hY] at h1
    injection h1 with h1
    injection h1 with _ h1
    exact absurd h1 (by decide)
theorem alloc2_new (w : World) (o1 o2 : Obj) : ((w.alloc o1).alloc o2).heap[w.heap.size + 1]? = some o2 := by simpa using World.alloc_heap_new (w.alloc o1) o2
theorem alloc2_old (w : World) (o1 o2 : Obj) : ((w.alloc o1).alloc o2).heap[w.heap.size]? = some o1 := (Below.heap_alloc _ _ _ (by simp)).trans (World.alloc_heap_new w o1)
def InsRet (gs : List Pq) (f : Fc) (q : Nat) (w : World) (e : Ending) (w' : World) : Prop :=
  Below w.heap.size w w' ∧ ∃ A n c gs' one two uf sec, e = .returned (.tuple #[.slice A n c, .int .i64 (one : Nat), .bool two, .agg #[.int .i64 uf.key.kind, .int .i64 uf.key.subj, .int .i64 uf.key.obj, .int .i64 uf.val, .int .i64 uf.fr, .int .i64 uf.to, .int .i64 uf.known, .int .i64 uf.no], .int .i64 (sec : Nat)]) ∧ InsRes gs f q w.heap.size A n c gs' one two uf sec w'
end Go.Proofs.Ytpnfpdkoeednhaa

