import Derived.Test.YtbegdcjofnfkiaaGreatDoorQ17
import Derived.Test.YtbegdcjofnfkiaaGreatDoorQ18
import Derived.Test.YtbegdcjofnfkiaaGreatDoorQ19
namespace Go.Proofs.YtbegdcjofnfkiaaGreatDoor
open Go.RowKit Go.Shelf
def OwnB (B b : Nat) (w : World) : Prop := ∃ A n c, w.heap[B]? = some (.cells #[.slice A n c] 98 (0, 0)) ∧ (Value.slice A n c).ownBlock = some b
structure WrR (B : Nat) (w w' : World) : Prop where
 lt : B < w.heap.size
 os : w'.os = w.os
 tape : w'.tape = w.tape
 output : w'.output = w.output
 size : w.heap.size ≤ w'.heap.size
 block : ∀ b, b < w.heap.size → b ≠ B → ¬ OwnB B b w → w'.heap[b]? = w.heap[b]?
 own : ∀ b, OwnB B b w' → OwnB B b w ∨ w.heap.size ≤ b
 lim : (∀ b, OwnB B b w → b < w.heap.size) → ∀ b, OwnB B b w' → b < w'.heap.size
theorem WrR.trans {B : Nat} {a b c : World} (h : WrR B a b) (k : WrR B b c) : WrR B a c :=
 ⟨h.lt, k.os.trans h.os, k.tape.trans h.tape, k.output.trans h.output, Nat.le_trans h.size k.size, fun x hx h1 h2 => (k.block x (Nat.lt_of_lt_of_le hx h.size) h1 fun h3 => (h.own x h3).elim h2 fun h4 => by omega).trans (h.block x hx h1 h2),
  fun x hx => (k.own x hx).elim (h.own x) fun h1 => .inr (Nat.le_trans h.size h1), fun hl => k.lim (h.lim hl)⟩
theorem OwnB.below {B b : Nat} {w w' : World} (hB : B < w.heap.size) (hb : Below w.heap.size w w') (h : OwnB B b w') : OwnB B b w := by
 obtain ⟨A, n, c, h1, h2⟩ := h
 exact ⟨A, n, c, (hb.block B hB).symm.trans h1, h2⟩
theorem WrR.of_below {B : Nat} {w w' : World} (hB : B < w.heap.size) (h : Below w.heap.size w w') : WrR B w w' :=
 ⟨hB, h.os, h.tape, h.output, h.size, fun x hx _ _ => h.block x hx, fun _ hx => .inl (hx.below hB h), fun hl x hx => Nat.lt_of_lt_of_le (hl x (hx.below hB h)) h.size⟩
theorem WrB.ownB {B base c b : Nat} {A : Option Addr} {ps : List Pq} {w : World} (h : WrB B base A c ps w) (hb : OwnB B b w) : (Value.slice A ps.length c).ownBlock = some b := by
 obtain ⟨A', n', c', h1, h2⟩ := hb
 have := h.box.symm.trans h1
 injection this with this
 injection this with this
 simp at this
 obtain ⟨rfl, rfl, rfl⟩ := this
 exact h2
theorem WrB.owned {B base c b : Nat} {A : Option Addr} {ps : List Pq} {w : World} (h : WrB B base A c ps w) (hb : (Value.slice A ps.length c).ownBlock = some b) : OwnB B b w := ⟨A, _, c, h.box, hb⟩
theorem WrB.ownLt {B base c b : Nat} {A : Option Addr} {ps : List Pq} {w : World} (h : WrB B base A c ps w) (hb : OwnB B b w) : base ≤ b ∧ b < w.heap.size := h.own.lt b (h.ownB hb)
theorem WrR.of_add {B base c c' : Nat} {A A' : Option Addr} {ps ps' : List Pq} {w w' : World} (h : WrB B base A c ps w) (h' : WrB B base A' c' ps' w') (hk : Kept (fun b => b = B ∨ (Value.slice A ps.length c).ownBlock = some b ∨ w.heap.size ≤ b) w w')
  (ho : (Value.slice A' ps'.length c').ownBlock = (Value.slice A ps.length c).ownBlock ∨ ∃ b, (Value.slice A' ps'.length c').ownBlock = some b ∧ w.heap.size ≤ b) : WrR B w w' :=
 ⟨lt_of_heap h.box, hk.os, hk.tape, hk.output, hk.size, fun b hb h1 h2 => hk.block b hb (by
   rintro (h3 | h3 | h3)
   ·exact h1 h3
   ·exact h2 (h.owned h3)
   ·omega), fun b hb => by
  have := h'.ownB hb
  rcases ho with h1 | ⟨b', h1, h2⟩
  ·exact .inl (h.owned (h1 ▸ this))
  ·rw [h1] at this; cases this; exact .inr h2, fun _ b hb => (h'.ownLt hb).2⟩
theorem WrB.below {B base c : Nat} {A : Option Addr} {ps : List Pq} {w w' : World} (h : WrB B base A c ps w) (hb : Below w.heap.size w w') : WrB B base A c ps w' :=
 ⟨(hb.block B (lt_of_heap h.box)).trans h.box, own_keepB h.own fun b e => hb.block b (h.own.lt b e).2⟩
def Away (B b : Nat) (w : World) : Prop := b < w.heap.size ∧ b ≠ B ∧ ¬ OwnB B b w
theorem Away.turn {B b : Nat} {w w' : World} (h : Away B b w) (hr : WrR B w w') : Away B b w' :=
 ⟨Nat.lt_of_lt_of_le h.1 hr.size, h.2.1, fun h1 => (hr.own b h1).elim h.2.2 fun h2 => by have := h.1; omega⟩
theorem Away.same {B b : Nat} {w w' : World} (h : Away B b w) (hr : WrR B w w') : w'.heap[b]? = w.heap[b]? := hr.block b h.1 h.2.1 h.2.2
theorem Away.new {B base c b : Nat} {A : Option Addr} {ps : List Pq} {w w' : World} (h : WrB B base A c ps w) (hb : Below w.heap.size w w') (h1 : w.heap.size ≤ b) (h2 : b < w'.heap.size) : Away B b w' := by
 refine ⟨h2, fun e => ?_, fun ho => ?_⟩
 ·have := lt_of_heap h.box; omega
 ·have := (h.ownLt (ho.below (lt_of_heap h.box) hb)).2; omega
theorem rows_at {α : Type} {k : Nat} {enc : α → List Value} {W W' : World} {n₀ n₁ n c : Nat} {A : Option Addr} {l : List α} (h : Rows k (Rep.flat enc) W n₀ A n c l) (hk : 0 < n → ∀ b off, A = some ⟨b, off, none⟩ → b < n₁ ∧ W'.heap[b]? = W.heap[b]?) : Rows k (Rep.flat enc) W' n₁ A n c l := by
 refine ⟨h.1, h.2.1, h.2.2.1, fun hn => ?_⟩
 obtain ⟨b, off, e, hlt, hx⟩ := h.2.2.2 hn
 obtain ⟨h1, h2⟩ := hk hn b off e
 refine ⟨b, off, e, h1, fun i x hi => ?_⟩
 obtain ⟨cs, h3, h4⟩ := hx i x hi
 exact ⟨cs, h3, fun j u hj => (World.cell?_of_block (w := W) (w' := W') (a := ⟨b, _, none⟩) h2).trans (h4 j u hj)⟩
def PgBl (g : Pq) (x : Nat) : Prop := (0 < g.fn ∧ ∃ off, g.fA = some ⟨x, off, none⟩) ∨ (0 < g.kn ∧ ∃ off, g.kA = some ⟨x, off, none⟩)
structure PgAt (B : Nat) (g : Pq) (w : World) : Prop where
 inn : PgIn g w w.heap.size
 away : ∀ x, PgBl g x → Away B x w
theorem PgAt.move {B : Nat} {g : Pq} {w w' : World} (h : PgAt B g w) (hs : ∀ x, PgBl g x → w'.heap[x]? = w.heap[x]? ∧ Away B x w') : PgAt B g w' :=
 ⟨⟨rows_at h.inn.1 fun hn b off e => ⟨(hs b (.inl ⟨hn, off, e⟩)).2.1, (hs b (.inl ⟨hn, off, e⟩)).1⟩, rows_at h.inn.2 fun hn b off e => ⟨(hs b (.inr ⟨hn, off, e⟩)).2.1, (hs b (.inr ⟨hn, off, e⟩)).1⟩⟩, fun x hx => (hs x hx).2⟩
theorem PgAt.turn {B : Nat} {g : Pq} {w w' : World} (h : PgAt B g w) (hr : WrR B w w') : PgAt B g w' := h.move fun x hx => ⟨(h.away x hx).same hr, (h.away x hx).turn hr⟩
theorem own_away {B base n k : Nat} {t : TypeId} {v : Value} {cs : List Value} {w w' : World} (h : w.ownsRow base t k v n cs) (ha : ∀ b, v.ownBlock = some b → Away B b w) (hr : WrR B w w') : w'.ownsRow base t k v n cs :=
 own_keepB h fun b e => (ha b e).same hr
theorem own_slice {α : Type} {enc : α → List Value} {k : Nat} {w : World} {base : Nat} {e : TypeId} {v : Value} {n : Nat} {l : List α} (hk : ∀ x, (enc x).length = k) (h0 : 0 < k) (h : w.ownsRow base e k v n (l.flatMap enc)) :
  ∃ A c, v = .slice A n c ∧ Rows k (Rep.flat enc) w w.heap.size A n c l ∧ ∀ b off x, A = some ⟨b, off, x⟩ → v.ownBlock = some b := by
 obtain ⟨A, c, rfl, hr⟩ := own_rows hk h0 h
 refine ⟨A, c, rfl, hr, fun b off x e => ?_⟩
 rcases h.2 with ⟨h1, _⟩ | ⟨g, cap, cur, h1, _⟩
 ·cases h1; cases e
 ·cases h1; cases e; rfl
structure InsDone (B base : Nat) (ps : List Pq) (f : Fc) (p : Nat) (w w' : World) (new : List Pq) (one : Nat) (two : Int) (up : Option Addr) (o : Option (Fc × Nat)) (A' : Option Addr) (c' : Nat) : Prop where
 wr : WrB B base A' c' (ps ++ new) w'
 pages : ∀ g ∈ ps ++ new, PgAt B g w'
 turn : WrR B w w'
 ins : insW f (p + 1) (ps.map pgV) p = ((ps ++ new).map pgV, one, o)
 few : new.length ≤ 2 * (p + 1)
 slim : ∀ g ∈ new, g.fn ≤ 1000000 ∧ g.kn ≤ 1000000
 fresh : ∀ g ∈ new, ∀ x, PgBl g x → w.heap.size ≤ x ∧ ∃ cur t, w'.heap[x]? = some (.cells cur t (0, 0)) ∧ (t = 54 ∨ t = 3)
 none : o = none → up = none
 some : ∀ m b, o = some (m, b) → two = (b : Nat) ∧ ∃ u, up = some ⟨u, 0, .none⟩ ∧ w'.heap[u]? = some (.cells (fEnc m).toArray 54 (0, 0)) ∧ Away B u w' ∧ w.heap.size ≤ u
def grV (one : Nat) (two : Int) (up : Option Addr) : Value := .agg #[.int .i64 one, .int .i64 two, .pointer up]
def InsWPost (B base : Nat) (ps : List Pq) (f : Fc) (p : Nat) (w : World) (e : Ending) (w' : World) : Prop :=
 ∃ new one two up o A' c', e = .returned (grV one two up) ∧ InsDone B base ps f p w w' new one two up o A' c'
theorem InsDone.move {B base p one c' : Nat} {two : Int} {ps new : List Pq} {f : Fc} {w w' w'' : World} {up : Option Addr} {o : Option (Fc × Nat)} {A' : Option Addr} (h : InsDone B base ps f p w w' new one two up o A' c') (hr : WrR B w' w'') (hw : WrB B base A' c' (ps ++ new) w'') : InsDone B base ps f p w w'' new one two up o A' c' where
 wr := hw
 pages := fun g hg => (h.pages g hg).turn hr
 turn := h.turn.trans hr
 ins := h.ins
 few := h.few
 slim := h.slim
 fresh := fun g hg x hx => by
  obtain ⟨h1, cur, t, h2, h3⟩ := h.fresh g hg x hx
  exact ⟨h1, cur, t, (((h.pages g (List.mem_append_right _ hg)).away x hx).same hr).trans h2, h3⟩
 none := h.none
 some := fun m b e => by
  obtain ⟨h1, u, h2, h3, h4, h5⟩ := h.some m b e
  exact ⟨h1, u, h2, (h4.same hr).trans h3, h4.turn hr, h5⟩
theorem InsDone.later {B base p one c' : Nat} {two : Int} {ps new : List Pq} {f : Fc} {w w' w'' : World} {up : Option Addr} {o : Option (Fc × Nat)} {A' : Option Addr} (h : InsDone B base ps f p w w' new one two up o A' c') (hb : Below w'.heap.size w' w'') : InsDone B base ps f p w w'' new one two up o A' c' :=
 h.move (.of_below (lt_of_heap h.wr.box) hb) (h.wr.below hb)
theorem InsDone.lower {B base p one c' : Nat} {two : Int} {ps new : List Pq} {f : Fc} {w0 w w' : World} {up : Option Addr} {o : Option (Fc × Nat)} {A' : Option Addr} (h : InsDone B base ps f p w w' new one two up o A' c') (hr : WrR B w0 w) : InsDone B base ps f p w0 w' new one two up o A' c' where
 wr := h.wr
 pages := h.pages
 turn := hr.trans h.turn
 ins := h.ins
 few := h.few
 slim := h.slim
 fresh := fun g hg x hx => by
  obtain ⟨h1, h2⟩ := h.fresh g hg x hx
  exact ⟨Nat.le_trans hr.size h1, h2⟩
 none := h.none
 some := fun m b e => by
  obtain ⟨h1, u, h2, h3, h4, h5⟩ := h.some m b e
  exact ⟨h1, u, h2, h3, h4, Nat.le_trans hr.size h5⟩
structure Only (X : Nat) (w w' : World) : Prop where
 os : w'.os = w.os
 tape : w'.tape = w.tape
 output : w'.output = w.output
 size : w'.heap.size = w.heap.size
 block : ∀ x, x ≠ X → w'.heap[x]? = w.heap[x]?
theorem Only.setRow (w : World) (X : Nat) (cs : Array Value) : Only X w (w.setRow X cs) :=
 ⟨rfl, rfl, rfl, by simp [World.setRow], fun x hx => setRow_other w X x cs hx⟩
theorem Only.setCell (w : World) (X o : Nat) (v : Value) : Only X w (w.setCell ⟨X, o, none⟩ v) :=
 ⟨rfl, rfl, rfl, by simp [World.setCell], fun x hx => heap_set_ne rfl hx _ _⟩
theorem Only.trans {X : Nat} {a b c : World} (h : Only X a b) (k : Only X b c) : Only X a c :=
 ⟨k.os.trans h.os, k.tape.trans h.tape, k.output.trans h.output, k.size.trans h.size, fun x hx => (k.block x hx).trans (h.block x hx)⟩
theorem insDone_only {B base p one c' X : Nat} {two : Int} {ps new : List Pq} {f : Fc} {w w' w'' : World} {up : Option Addr} {o : Option (Fc × Nat)} {A' : Option Addr} {cs : Array Value} (h : InsDone B base ps f p w w' new one two up o A' c')
  (hO : Only X w' w'') (hx : w'.heap[X]? = some (.cells cs 101 (0, 0))) (haw : Away B X w') (hX : w.heap.size ≤ X) (hps : ∀ g ∈ ps, ∀ x, PgBl g x → x < w.heap.size) : InsDone B base ps f p w w'' new one two up o A' c' := by
 have hne := hO.block
 have hB : B ≠ X := fun e => haw.2.1 e.symm
 have hown : ∀ x, OwnB B x w'' → OwnB B x w' := fun x ⟨A, n, c, h1, h2⟩ => ⟨A, n, c, (hne B hB).symm.trans h1, h2⟩
 have haw' : ∀ x, Away B x w' → Away B x w'' := fun x h1 => ⟨by have := h1.1; have := hO.size; omega, h1.2.1, fun h2 => h1.2.2 (hown x h2)⟩
 have hbl : ∀ g ∈ ps ++ new, ∀ x, PgBl g x → x ≠ X := fun g hg x hxb e => by
  subst e
  rcases List.mem_append.1 hg with hg | hg
  ·have := hps g hg x hxb; omega
  ·obtain ⟨_, cur, t, h1, h2⟩ := h.fresh g hg x hxb
   rw [hx] at h1; cases h1
   rcases h2 with h2 | h2 <;> exact absurd h2 (by decide)
 exact {
  wr := ⟨(hne B hB).trans h.wr.box, own_keepB h.wr.own fun x e => hne x fun e2 => haw.2.2 (e2 ▸ h.wr.owned e)⟩
  pages := fun g hg => (h.pages g hg).move fun x hxb => ⟨hne x (hbl g hg x hxb), haw' x ((h.pages g hg).away x hxb)⟩
  turn := ⟨h.turn.lt, hO.os.trans h.turn.os, hO.tape.trans h.turn.tape, hO.output.trans h.turn.output, by have := h.turn.size; have := hO.size; omega, fun x h1 h2 h3 => (hne x (by omega)).trans (h.turn.block x h1 h2 h3), fun x hx => h.turn.own x (hown x hx), fun hl x hx => by have := h.turn.lim hl x (hown x hx); have := hO.size; omega⟩
  ins := h.ins
  few := h.few
  slim := h.slim
  fresh := fun g hg x hxb => by
   obtain ⟨h0, cur, t, h1, h2⟩ := h.fresh g hg x hxb
   exact ⟨h0, cur, t, (hne x (hbl g (List.mem_append_right _ hg) x hxb)).trans h1, h2⟩
  none := h.none
  some := fun m b e => by
   obtain ⟨h1, u, h2, h3, h4, h5⟩ := h.some m b e
   exact ⟨h1, u, h2, (hne u fun e2 => by rw [e2, hx] at h3; cases h3).trans h3, haw' u h4, h5⟩ }
theorem own_heap {base n k x : Nat} {t : TypeId} {v : Value} {cs : List Value} {w : World} (h : w.ownsRow base t k v n cs) (e : v.ownBlock = some x) : ∃ cur, w.heap[x]? = some (.cells cur t (0, 0)) := by
 rcases h.2 with ⟨h1, _⟩ | ⟨g, cap, cur', rfl, h2, h3, _⟩
 ·rw [h1] at e; cases e
 ·cases e; exact ⟨_, h3⟩
theorem kid_cell {base n c G i : Nat} {l : List Int} {x : Int} {w : World} (h : w.ownsRow base 3 1 (.slice (some ⟨G, 0, none⟩) n c) n (l.flatMap iEnc)) (hi : l[i]? = some x) : w.cell? ⟨G, i, none⟩ = some (.int .i64 x) := by
 obtain ⟨A2, c2, e2, hr2⟩ := own_rows iEnc_len (by decide) h
 injection e2 with e1 e2 e3
 subst e1 e3
 have hin : i < n := by rw [hr2.1]; exact (List.getElem?_eq_some_iff.1 hi).1
 obtain ⟨b5, off5, x5, cs5, e5, _, hx5, rfl, hc5⟩ := hr2.get hin
 injection e5 with e5
 injection e5 with e5 e6
 subst e5 e6
 rw [hi] at hx5; cases hx5
 have := hc5 0 _ rfl
 simpa using this
structure InSt (B base b X : Nat) (ps : List Pq) (p : Nat) (w w9 : World) (vF vK : Value) (nF nK : Nat) (F : List Fc) (K : List Int) (A1 : Option Addr) (c1 : Nat) (new : List Pq) : Prop where
 box : w9.heap[X]? = some (.cells #[vF, vK] 86 (0, 0))
 oF : w9.ownsRow (b + 3) 54 8 vF nF (F.flatMap fEnc)
 oK : w9.ownsRow (b + 3) 3 1 vK nK (K.flatMap iEnc)
 aF : ∀ x, vF.ownBlock = some x → Away B x w9
 aK : ∀ x, vK.ownBlock = some x → Away B x w9
 aX : Away B X w9
 lX : b + 3 ≤ X
 res : w9.heap[b + 1]? = some (.cells #[.int .i64 0, .int .i64 0, .pointer none] 101 (0, 0))
 wr : WrB B base A1 c1 (ps ++ new) w9
 pages : ∀ g ∈ ps ++ new, PgAt B g w9
 apart : ∀ g ∈ ps ++ new, ∀ x, PgBl g x → vF.ownBlock ≠ some x ∧ vK.ownBlock ≠ some x ∧ x ≠ X
 fresh : ∀ g ∈ new, ∀ x, PgBl g x → b ≤ x ∧ ∃ cur t, w9.heap[x]? = some (.cells cur t (0, 0)) ∧ (t = 54 ∨ t = 3)
 slim : ∀ g ∈ new, g.fn ≤ 1000000 ∧ g.kn ≤ 1000000
 turn : WrR B w w9
 few : new.length ≤ 2 * p
section
variable {B base b X p nF nK c1 : Nat} {ps new : List Pq} {w w9 w8 : World} {vF vK : Value} {F : List Fc} {K : List Int} {A1 : Option Addr}
theorem InSt.move {vF' vK' : Value} {nF' nK' : Nat} {F' : List Fc} {K' : List Int} (h : InSt B base b X ps p w w9 vF vK nF nK F K A1 c1 new) (hb : w.heap.size = b) (hk : Kept (fun x => vF.ownBlock = some x ∨ vK.ownBlock = some x ∨ x = X) w9 w8)
  (hbox : w8.heap[X]? = some (.cells #[vF', vK'] 86 (0, 0))) (hF : w8.ownsRow (b + 3) 54 8 vF' nF' (F'.flatMap fEnc)) (hK : w8.ownsRow (b + 3) 3 1 vK' nK' (K'.flatMap iEnc))
  (bF : ∀ x, vF'.ownBlock = some x → vF.ownBlock = some x ∨ w9.heap.size ≤ x) (bK : ∀ x, vK'.ownBlock = some x → vK.ownBlock = some x ∨ w9.heap.size ≤ x) : InSt B base b X ps p w w8 vF' vK' nF' nK' F' K' A1 c1 new := by
 have hBlt := lt_of_heap h.wr.box
 have hsame : ∀ x, x < w9.heap.size → vF.ownBlock ≠ some x → vK.ownBlock ≠ some x → x ≠ X → w8.heap[x]? = w9.heap[x]? := fun x h1 h2 h3 h4 => hk.block x h1 (by rintro (h5 | h5 | h5); exact h2 h5; exact h3 h5; exact h4 h5)
 have nF' : ∀ x, vF.ownBlock = some x → b + 3 ≤ x := fun x e => (h.oF.lt x e).1
 have nK' : ∀ x, vK.ownBlock = some x → b + 3 ≤ x := fun x e => (h.oK.lt x e).1
 have hlX := h.lX
 have hBb : B < b := by have := h.turn.lt; omega
 have sB : w8.heap[B]? = w9.heap[B]? := hsame B hBlt (fun e => by have := nF' B e; omega) (fun e => by have := nK' B e; omega) (by omega)
 have hown : ∀ x, OwnB B x w8 ↔ OwnB B x w9 := fun x => ⟨fun ⟨A, n, c, h1, h2⟩ => ⟨A, n, c, sB.symm.trans h1, h2⟩, fun ⟨A, n, c, h1, h2⟩ => ⟨A, n, c, sB.trans h1, h2⟩⟩
 have haw : ∀ x, Away B x w9 → Away B x w8 := fun x ha => ⟨Nat.lt_of_lt_of_le ha.1 hk.size, ha.2.1, fun ho => ha.2.2 ((hown x).1 ho)⟩
 have hnew : ∀ x, w9.heap.size ≤ x → x < w8.heap.size → Away B x w8 := fun x h1 h2 => ⟨h2, by omega, fun ho => by have := (h.wr.ownLt ((hown x).1 ho)).2; omega⟩
 have hpg : ∀ g ∈ ps ++ new, ∀ x, PgBl g x → w8.heap[x]? = w9.heap[x]? := fun g hg x hx => by
  obtain ⟨h1, h2, h3⟩ := h.apart g hg x hx
  exact hsame x ((h.pages g hg).away x hx).1 h1 h2 h3
 refine ⟨hbox, hF, hK, fun x e => ?_, fun x e => ?_, haw X h.aX, hlX, ?_, ?_, fun g hg => (h.pages g hg).move fun x hx => ⟨hpg g hg x hx, haw x ((h.pages g hg).away x hx)⟩, fun g hg x hx => ?_, fun g hg x hx => ?_, h.slim, ?_, h.few⟩
 ·rcases bF x e with h1 | h1
  ·exact haw x (h.aF x h1)
  ·exact hnew x h1 (hF.lt x e).2
 ·rcases bK x e with h1 | h1
  ·exact haw x (h.aK x h1)
  ·exact hnew x h1 (hK.lt x e).2
 ·exact (hsame _ (lt_of_heap h.res) (fun e => by have := nF' _ e; omega) (fun e => by have := nK' _ e; omega) (by omega)).trans h.res
 ·refine ⟨sB.trans h.wr.box, own_keepB h.wr.own fun x e => hsame x (h.wr.own.lt x e).2 (fun e2 => ?_) (fun e2 => ?_) fun e2 => ?_⟩
  ·exact (h.aF x e2).2.2 (h.wr.owned e)
  ·exact (h.aK x e2).2.2 (h.wr.owned e)
  ·subst e2; exact h.aX.2.2 (h.wr.owned e)
 ·obtain ⟨h1, h2, h3⟩ := h.apart g hg x hx
  have hlt := ((h.pages g hg).away x hx).1
  refine ⟨fun e => ?_, fun e => ?_, h3⟩
  ·rcases bF x e with h4 | h4
   ·exact h1 h4
   ·omega
  ·rcases bK x e with h4 | h4
   ·exact h2 h4
   ·omega
 ·obtain ⟨h1, cur, t, h2, h3⟩ := h.fresh g hg x hx
  exact ⟨h1, cur, t, (hpg g (List.mem_append_right _ hg) x hx).trans h2, h3⟩
 ·exact ⟨h.turn.lt, hk.os.trans h.turn.os, hk.tape.trans h.turn.tape, hk.output.trans h.turn.output, Nat.le_trans h.turn.size hk.size, fun x hx h1 h2 => (hsame x (Nat.lt_of_lt_of_le hx h.turn.size) (fun e => by have := nF' x e; omega) (fun e => by have := nK' x e; omega) (by omega)).trans (h.turn.block x hx h1 h2), fun x hx => h.turn.own x ((hown x).1 hx), fun hl x hx => Nat.lt_of_lt_of_le (h.turn.lim hl x ((hown x).1 hx)) hk.size⟩
theorem InSt.later (h : InSt B base b X ps p w w9 vF vK nF nK F K A1 c1 new) (hb : w.heap.size = b) (hk : Below w9.heap.size w9 w8) : InSt B base b X ps p w w8 vF vK nF nK F K A1 c1 new :=
 h.move hb ((Kept.refl _ w9).below hk fun x h1 h2 => by omega) ((hk.block X (lt_of_heap h.box)).trans h.box) (own_keepB h.oF fun x e => hk.block x (h.oF.lt x e).2) (own_keepB h.oK fun x e => hk.block x (h.oK.lt x e).2) (fun _ e => .inl e) (fun _ e => .inl e)
theorem heap_setN {w : World} {b : Nat} {cs : Array Value} {t : TypeId} {fr : Nat × Nat} (h : w.heap[b]? = some (.cells cs t fr)) (o : Nat) (u : Value) : (w.setCell ⟨b, o, none⟩ u).heap[b]? = some (.cells (cs.setIfInBounds o u) t fr) := by
 simp [World.setCell, Array.getElem?_modify, h]
theorem InSt.insF {wy w' : World} {v' : Value} {F' : List Fc} (h : InSt B base b X ps p w w9 vF vK nF nK F K A1 c1 new) (hb : w.heap.size = b) (hal : Below w9.heap.size w9 wy) (ho : w'.ownsRow (b + 3) 54 8 v' (nF + 1) (F'.flatMap fEnc))
  (hat : v'.ownBlock = vF.ownBlock ∨ ∃ x, v'.ownBlock = some x ∧ wy.heap.size ≤ x) (hk : Kept (fun x => vF.ownBlock = some x) wy w') : InSt B base b X ps p w (w'.setCell ⟨X, 0, none⟩ v') v' vK (nF + 1) nK F' K A1 c1 new := by
 have h1 := h.later hb hal
 have hXF := own_neT h1.oF h1.box (by decide)
 have hXK := own_neT h1.oK h1.box (by decide)
 have hXl := lt_of_heap h1.box
 have sX : w'.heap[X]? = wy.heap[X]? := hk.block X hXl hXF
 have hv' : ∀ x, v'.ownBlock = some x → x ≠ X := fun x e e2 => by
  subst e2
  rcases hat with h2 | ⟨y, h2, h3⟩
  ·exact hXF (h2 ▸ e)
  ·rw [h2] at e; cases e; omega
 refine h1.move hb (Kept.setCell (p := ⟨X, 0, none⟩) (hk.mono fun x _ e => .inl e) (.inl (.inr (.inr rfl))) _) (by simpa using heap_setN (sX.trans h1.box) 0 v') (own_keepB ho fun x e => heap_set_ne rfl (hv' x e) _ _)
  (own_keepB h1.oK fun x e => (heap_set_ne rfl (fun (e2 : x = X) => hXK (e2 ▸ e)) _ _).trans (hk.block x (h1.oK.lt x e).2 fun e2 => ?_)) (fun x e => ?_) (fun _ e => .inl e)
 ·obtain ⟨c1, h2⟩ := own_heap h1.oF e2
  obtain ⟨c2, h3⟩ := own_heap h1.oK e
  rw [h2] at h3; cases h3
 ·rcases hat with h2 | ⟨y, h2, h3⟩
  ·exact .inl (h2 ▸ e)
  ·rw [h2] at e; cases e; exact .inr h3
theorem InSt.insK {wy w' : World} {v' : Value} {K' : List Int} (h : InSt B base b X ps p w w9 vF vK nF nK F K A1 c1 new) (hb : w.heap.size = b) (hal : Below w9.heap.size w9 wy) (ho : w'.ownsRow (b + 3) 3 1 v' (nK + 1) (K'.flatMap iEnc))
  (hat : v'.ownBlock = vK.ownBlock ∨ ∃ x, v'.ownBlock = some x ∧ wy.heap.size ≤ x) (hk : Kept (fun x => vK.ownBlock = some x) wy w') : InSt B base b X ps p w (w'.setCell ⟨X, 1, none⟩ v') vF v' nF (nK + 1) F K' A1 c1 new := by
 have h1 := h.later hb hal
 have hXF := own_neT h1.oF h1.box (by decide)
 have hXK := own_neT h1.oK h1.box (by decide)
 have hXl := lt_of_heap h1.box
 have sX : w'.heap[X]? = wy.heap[X]? := hk.block X hXl hXK
 have hv' : ∀ x, v'.ownBlock = some x → x ≠ X := fun x e e2 => by
  subst e2
  rcases hat with h2 | ⟨y, h2, h3⟩
  ·exact hXK (h2 ▸ e)
  ·rw [h2] at e; cases e; omega
 refine h1.move hb (Kept.setCell (p := ⟨X, 1, none⟩) (hk.mono fun x _ e => .inr (.inl e)) (.inl (.inr (.inr rfl))) _) (by simpa using heap_setN (sX.trans h1.box) 1 v')
  (own_keepB h1.oF fun x e => (heap_set_ne rfl (fun (e2 : x = X) => hXF (e2 ▸ e)) _ _).trans (hk.block x (h1.oF.lt x e).2 fun e2 => ?_)) (own_keepB ho fun x e => heap_set_ne rfl (hv' x e) _ _) (fun _ e => .inl e) (fun x e => ?_)
 ·obtain ⟨c1, h2⟩ := own_heap h1.oF e
  obtain ⟨c2, h3⟩ := own_heap h1.oK e2
  rw [h2] at h3; cases h3
 ·rcases hat with h2 | ⟨y, h2, h3⟩
  ·exact .inl (h2 ▸ e)
  ·rw [h2] at e; cases e; exact .inr h3
theorem InSt.setK {G cK i : Nat} {y u : Int} (h : InSt B base b X ps p w w9 vF (.slice (some ⟨G, 0, none⟩) nK cK) nF nK F K A1 c1 new) (hb : w.heap.size = b) (hi : K[i]? = some y) : InSt B base b X ps p w (w9.setCell ⟨G, i, none⟩ (.int .i64 u)) vF (.slice (some ⟨G, 0, none⟩) nK cK) nF nK F (K.set i u) A1 c1 new := by
 have hG : (Value.slice (some ⟨G, 0, none⟩) nK cK).ownBlock = some G := rfl
 have hXK := own_neT h.oK h.box (by decide)
 have hs := own_set (j := 0) (x := y) (x' := u) iEnc_len h.oK (by decide) hi (by decide) (u := .int .i64 u) rfl
 rw [Nat.mul_one, Nat.add_zero] at hs
 refine h.move hb (Kept.setCell (p := ⟨G, i, none⟩) (Kept.refl _ _) (.inl (.inr (.inl hG))) _) ((heap_set_ne rfl (fun (e : X = G) => hXK (e ▸ hG)) _ _).trans h.box) (own_keepB h.oF fun x e => heap_set_ne rfl (fun e2 => ?_) _ _) hs (fun _ e => .inl e) (fun _ e => .inl e)
 subst e2
 obtain ⟨c1, h2⟩ := own_heap h.oF e
 obtain ⟨c2, h3⟩ := own_heap h.oK hG
 rw [h2] at h3; cases h3
theorem InSt.below {f : Fc} {q one c2 : Nat} {two : Int} {up : Option Addr} {o : Option (Fc × Nat)} {A2 : Option Addr} (h : InSt B base b X ps p w w9 vF vK nF nK F K A1 c1 []) (hb : w.heap.size = b) (hq : q < p) (hd : InsDone B base ps f q w9 w8 new one two up o A2 c2) : InSt B base b X ps p w w8 vF vK nF nK F K A2 c2 new := by
 have hr := hd.turn
 have hlX := h.lX
 have hw := h.turn.size
 have hBb := h.turn.lt
 refine ⟨(h.aX.same hr).trans h.box, own_away h.oF h.aF hr, own_away h.oK h.aK hr, fun x e => (h.aF x e).turn hr, fun x e => (h.aK x e).turn hr, h.aX.turn hr, hlX, ?_, hd.wr, hd.pages, fun g hg x hx => ?_, fun g hg x hx => ?_, hd.slim, h.turn.trans hr, by have := hd.few; omega⟩
 ·refine (hr.block _ (lt_of_heap h.res) (by omega) fun ho => ?_).trans h.res
  rcases h.turn.own _ ho with h1 | h1
  ·obtain ⟨cur, h2⟩ := own_heap h.wr.own (h.wr.ownB ho)
   rw [h.res] at h2; cases h2
  ·obtain ⟨cur, h2⟩ := own_heap h.wr.own (h.wr.ownB ho)
   rw [h.res] at h2; cases h2
 ·rcases List.mem_append.1 hg with hg | hg
  ·exact h.apart g (List.mem_append_left _ hg) x hx
  ·have h1 := (hd.fresh g hg x hx).1
   exact ⟨fun e => by have := (h.oF.lt x e).2; omega, fun e => by have := (h.oK.lt x e).2; omega, by have := h.aX.1; omega⟩
 ·obtain ⟨h1, h2⟩ := hd.fresh g hg x hx
  exact ⟨by omega, h2⟩
end
theorem place_of {F : List Fc} {f : Fc} {k : Nat} (hS : StrP F) (hk : k ≤ F.length) (hl : LowOk F f k) (hh : HighOk F f k) : placeP F f = k := by
 obtain ⟨h0, h1, h2⟩ := takeWhile_split (fun x => ltP x f) F
 have hle : placeP F f ≤ F.length := by unfold placeP; exact (List.takeWhile_sublist _).length_le
 rcases Nat.lt_trichotomy (placeP F f) k with h | h | h
 ·-- the one at its place stands ahead of a smaller one
  exfalso
  obtain ⟨j, rfl⟩ : ∃ j, k = j + 1 := ⟨k - 1, by omega⟩
  obtain ⟨x, hx, hc⟩ := hl j rfl
  have hxf : ltP x f = true := by rw [← cmpP_neg]; exact decide_eq_true hc
  obtain ⟨hjl, hxe⟩ := List.getElem?_eq_some_iff.1 hx
  obtain ⟨y, hy⟩ : ∃ y, F[placeP F f]? = some y := ⟨_, List.getElem?_eq_getElem (by omega)⟩
  have hyf := h2 y hy
  obtain ⟨hpl, hye⟩ := List.getElem?_eq_some_iff.1 hy
  rcases Nat.eq_or_lt_of_le (show placeP F f ≤ j by omega) with h3 | h3
  ·rw [h3, hx] at hy; cases hy; rw [hxf] at hyf; cases hyf
  ·have := List.pairwise_iff_getElem.1 hS _ _ hpl hjl h3
   rw [hye, hxe] at this
   rw [ltP_tr _ _ _ this hxf] at hyf; cases hyf
 ·exact h
 ·exfalso
  obtain ⟨x, hx⟩ : ∃ x, F[k]? = some x := ⟨_, List.getElem?_eq_getElem (by omega)⟩
  have hc := hh x hx
  have : ltP x f = true := h1 x (by
   refine List.mem_of_getElem? (i := k) ?_
   show (F.take (placeP F f))[k]? = some x
   rw [List.getElem?_take, if_pos h, hx])
  rw [← cmpP_neg] at this
  exact hc (of_decide_eq_true this)
theorem InSt.one {B base b X p nF nK c1 c2 cF cK : Nat} {ps new : List Pq} {f : Fc} {w w9 w8 : World} {FA KA : Option Addr} {F : List Fc} {K : List Int} {A1 A2 : Option Addr}
  (h : InSt B base b X ps p w w9 (.slice FA nF cF) (.slice KA nK cK) nF nK F K A1 c1 new) (hb : w.heap.size = b) (h4 : F.length ≤ 4) (hK : K.length ≤ 6) (hins : insW f (p + 1) (ps.map pgV) p = splitP ((ps ++ new).map pgV) ⟨F, K⟩)
  (hw : WrB B base A2 c2 (ps ++ new ++ [⟨FA, nF, cF, F, KA, nK, cK, K⟩]) w8) (hr : WrR B w9 w8) : InsDone B base ps f p w w8 (new ++ [⟨FA, nF, cF, F, KA, nK, cK, K⟩]) (ps ++ new).length 0 none none A2 c2 := by
 obtain ⟨A3, c3, e3, hF3, ho3⟩ := own_slice fEnc_len (by decide) h.oF
 injection e3 with e1 e2 e3
 subst e1 e3
 obtain ⟨A4, c4, e4, hK4, ho4⟩ := own_slice iEnc_len (by decide) h.oK
 injection e4 with e1 e2 e3
 subst e1 e3
 have hbl : ∀ x, PgBl (⟨FA, nF, cF, F, KA, nK, cK, K⟩ : Pq) x → Away B x w9 ∧ b + 3 ≤ x ∧ ∃ cur t, w9.heap[x]? = .some (.cells cur t (0, 0)) ∧ (t = 54 ∨ t = 3) := by
  rintro x (⟨_, off, e⟩ | ⟨_, off, e⟩)
  ·have e2 := ho3 x off .none e
   obtain ⟨cur, h2⟩ := own_heap h.oF e2
   exact ⟨h.aF x e2, (h.oF.lt x e2).1, cur, _, h2, .inl rfl⟩
  ·have e2 := ho4 x off .none e
   obtain ⟨cur, h2⟩ := own_heap h.oK e2
   exact ⟨h.aK x e2, (h.oK.lt x e2).1, cur, _, h2, .inr rfl⟩
 have hnF := own_len fEnc_len (by decide) h.oF
 have hnK := own_len iEnc_len (by decide) h.oK
 have hg2 : PgAt B ⟨FA, nF, cF, F, KA, nK, cK, K⟩ w9 := ⟨⟨hF3, hK4⟩, fun x hx => (hbl x hx).1⟩
 exact {
  wr := by rw [← List.append_assoc]; exact hw
  pages := fun g hg => by
   rw [← List.append_assoc] at hg
   rcases List.mem_append.1 hg with hg | hg
   ·exact (h.pages g hg).turn hr
   ·rw [List.mem_singleton] at hg; subst hg; exact hg2.turn hr
  turn := h.turn.trans hr
  ins := by
   rw [hins]
   unfold splitP
   rw [if_pos h4]
   simp [pgV]
  few := by have := h.few; simp; omega
  slim := fun g hg => by
   rcases List.mem_append.1 hg with hg | hg
   ·exact h.slim g hg
   ·rw [List.mem_singleton] at hg; subst hg; dsimp only; omega
  fresh := fun g hg x hx => by
   rcases List.mem_append.1 hg with hg | hg
   ·obtain ⟨h1, cur, t, h2, h3⟩ := h.fresh g hg x hx
    exact ⟨by omega, cur, t, (((h.pages g (List.mem_append_right _ hg)).away x hx).same hr).trans h2, h3⟩
   ·rw [List.mem_singleton] at hg; subst hg
    obtain ⟨h1, h2, cur, t, h3, h4⟩ := hbl x hx
    exact ⟨by omega, cur, t, (h1.same hr).trans h3, h4⟩
  none := fun _ => rfl
  some := fun m b e => by cases e }
theorem alloc3 {wc : World} {c1 c2 c3 : Array Value} {t1 t2 t3 : TypeId} :
  (((wc.alloc (.cells c1 t1)).alloc (.cells c2 t2)).alloc (.cells c3 t3)).drew.heap[wc.heap.size]? = some (.cells c1 t1 (0, 0)) ∧ (((wc.alloc (.cells c1 t1)).alloc (.cells c2 t2)).alloc (.cells c3 t3)).drew.heap[wc.heap.size + 1]? = some (.cells c2 t2 (0, 0)) ∧
  (((wc.alloc (.cells c1 t1)).alloc (.cells c2 t2)).alloc (.cells c3 t3)).drew.heap[wc.heap.size + 1 + 1]? = some (.cells c3 t3 (0, 0)) ∧ Below wc.heap.size wc (((wc.alloc (.cells c1 t1)).alloc (.cells c2 t2)).alloc (.cells c3 t3)).drew := by
 have z1 : (wc.alloc (.cells c1 t1)).heap.size = wc.heap.size + 1 := by simp
 have z2 : ((wc.alloc (.cells c1 t1)).alloc (.cells c2 t2)).heap.size = wc.heap.size + 1 + 1 := by simp
 have h1 := World.alloc_heap_new wc (.cells c1 t1)
 have h2 := World.alloc_heap_new (wc.alloc (.cells c1 t1)) (.cells c2 t2)
 have h3 := World.alloc_heap_new ((wc.alloc (.cells c1 t1)).alloc (.cells c2 t2)) (.cells c3 t3)
 rw [z1] at h2
 rw [z2] at h3
 refine ⟨?_, ?_, h3, (((Below.refl _ wc).alloc (Nat.le_refl _) _).alloc (by omega) _ |>.alloc (by omega) _).drew⟩
 ·exact (Below.heap_alloc _ _ _ (by omega)).trans ((Below.heap_alloc _ _ _ (by omega)).trans h1)
 ·exact (Below.heap_alloc _ _ _ (by omega)).trans h2
theorem cellB {wc w' : World} {a : Addr} {v : Value} (hb : Below wc.heap.size wc w') (h : wc.cell? a = some v) : w'.cell? a = some v := (hb.cell (World.block_lt_of_cell? wc a h)).trans h
structure SplSt (wc wx : World) (GF cF : Nat) (m : List Value) (k1 k2 : Value) (X12 X13 X14 : Nat) : Prop where
 below : Below wc.heap.size wc wx
 l12 : wc.heap.size ≤ X12
 l13 : wc.heap.size ≤ X13
 l14 : wc.heap.size ≤ X14
 b12 : wx.heap[X12]? = some (.cells #[.slice (some ⟨GF, 0, none⟩) 2 2, k1] 86 (0, 0))
 b13 : wx.heap[X13]? = some (.cells #[.slice (some ⟨GF, 24, none⟩) 2 (cF - 3), k2] 86 (0, 0))
 b14 : wx.heap[X14]? = some (.cells m.toArray 54 (0, 0))
 ne : X12 ≠ X13
theorem SplSt.kids {wc wx : World} {GF cF : Nat} {m : List Value} {k1 k2 : Value} {X12 X13 X14 : Nat} (h : SplSt wc wx GF cF m k1 k2 X12 X13 X14) (v1 v2 : Value) : SplSt wc ((wx.setCell ⟨X12, 1, none⟩ v1).setCell ⟨X13, 1, none⟩ v2).drew GF cF m v1 v2 X12 X13 X14 where
 below := ((h.below.setCell (p := ⟨X12, 1, none⟩) h.l12 v1).setCell (p := ⟨X13, 1, none⟩) h.l13 v2).drew
 l12 := h.l12
 l13 := h.l13
 l14 := h.l14
 b12 := heap_set_ne (by simpa using heap_setN h.b12 1 v1) h.ne _ _
 b13 := by
  have := heap_setN (heap_set_ne h.b13 (fun e => h.ne e.symm) 1 v1) 1 v2
  simp only [List.setIfInBounds_toArray, List.set_cons_succ, List.set_cons_zero] at this
  exact this
 b14 := heap_set_ne (heap_set_ne h.b14 (fun e => by have h1 := h.b14; rw [e, h.b12] at h1; cases h1) _ _) (fun e => by have h1 := h.b14; rw [e, h.b13] at h1; cases h1) _ _
 ne := h.ne
theorem rows_sub {α : Type} {k : Nat} {enc : α → List Value} {W : World} {n₀ n c : Nat} {b off : Nat} {l : List α} (h : Rows k (Rep.flat enc) W n₀ (some ⟨b, off, none⟩) n c l) (i m c' : Nat) (hm : i + m ≤ n) (hc : m ≤ c') (hc' : c' ≤ 9223372036854775807) :
  Rows k (Rep.flat enc) W n₀ (some ⟨b, off + i * k, none⟩) m c' ((l.drop i).take m) := by
 refine ⟨by rw [List.length_take, List.length_drop, ← h.1]; omega, hc, hc', fun hn => ?_⟩
 obtain ⟨b5, off5, e, hlt, hx⟩ := h.2.2.2 (by omega)
 cases e
 refine ⟨b, off + i * k, rfl, hlt, fun j x hj => ?_⟩
 rw [List.getElem?_take] at hj
 split at hj
 ·rw [List.getElem?_drop] at hj
  obtain ⟨cs, h1, h2⟩ := hx (i + j) x hj
  refine ⟨cs, h1, fun q u hq => ?_⟩
  have := h2 q u hq
  have e1 : off + (i + j) * k + q = off + i * k + j * k + q := by rw [Nat.add_mul]; omega
  rw [e1] at this
  exact this
 ·cases hj
theorem InSt.two {B base b X p nK c1 c2 cF cK : Nat} {ps new : List Pq} {f m : Fc} {w wc wd w8 : World} {KA kA1 kA2 : Option Addr} {kn1 kc1 kn2 kc2 GF X12 X13 X14 : Nat} {F : List Fc} {K : List Int} {A1 A2 : Option Addr}
  (h : InSt B base b X ps p w wc (.slice (some ⟨GF, 0, none⟩) 5 cF) (.slice KA nK cK) 5 nK F K A1 c1 new) (hb : w.heap.size = b) (hins : insW f (p + 1) (ps.map pgV) p = splitP ((ps ++ new).map pgV) ⟨F, K⟩) (hm : F[2]? = some m) (hcF : cF ≤ 9223372036854775807) (h5 : 5 ≤ cF)
  (hs : SplSt wc wd GF cF (fEnc m) (.slice kA1 kn1 kc1) (.slice kA2 kn2 kc2) X12 X13 X14) (hk1 : iSl wc wc.heap.size kA1 kn1 kc1 (K.take 3)) (hk2 : iSl wc wc.heap.size kA2 kn2 kc2 (K.drop 3)) (hK : K.length ≤ 6)
  (ho1 : ∀ x off, kA1 = some ⟨x, off, none⟩ → (Value.slice KA nK cK).ownBlock = some x) (ho2 : ∀ x off, kA2 = some ⟨x, off, none⟩ → (Value.slice KA nK cK).ownBlock = some x)
  (hw : WrB B base A2 c2 (ps ++ new ++ [⟨some ⟨GF, 0, none⟩, 2, 2, F.take 2, kA1, kn1, kc1, K.take 3⟩, ⟨some ⟨GF, 24, none⟩, 2, cF - 3, F.drop 3, kA2, kn2, kc2, K.drop 3⟩]) w8) (hr : WrR B wd w8) :
  InsDone B base ps f p w w8 (new ++ [⟨some ⟨GF, 0, none⟩, 2, 2, F.take 2, kA1, kn1, kc1, K.take 3⟩, ⟨some ⟨GF, 24, none⟩, 2, cF - 3, F.drop 3, kA2, kn2, kc2, K.drop 3⟩]) (ps ++ new).length ((ps ++ new).length + 1 : Nat) (some ⟨X14, 0, none⟩) (some (m, (ps ++ new).length + 1)) A2 c2 := by
 have hFl := own_len fEnc_len (by decide) h.oF
 have hBc := lt_of_heap h.wr.box
 have hrc : WrR B wc w8 := (WrR.of_below hBc hs.below).trans hr
 have hG : (Value.slice (some ⟨GF, 0, none⟩) 5 cF).ownBlock = some GF := rfl
 obtain ⟨A3, c3, e3, hF3, ho3⟩ := own_slice fEnc_len (by decide) h.oF
 injection e3 with e1 e2 e3
 subst e1 e3
 have hKi : ∀ x, (Value.slice KA nK cK).ownBlock = some x → Away B x wc ∧ b + 3 ≤ x ∧ ∃ cur t, wc.heap[x]? = some (.cells cur t (0, 0)) ∧ (t = 54 ∨ t = 3) := fun x e2 => by
  obtain ⟨cur, h2⟩ := own_heap h.oK e2
  exact ⟨h.aK x e2, (h.oK.lt x e2).1, cur, _, h2, .inr rfl⟩
 have hFi : ∀ x, (Value.slice (some ⟨GF, 0, none⟩) 5 cF).ownBlock = some x → Away B x wc ∧ b + 3 ≤ x ∧ ∃ cur t, wc.heap[x]? = some (.cells cur t (0, 0)) ∧ (t = 54 ∨ t = 3) := fun x e2 => by
  obtain ⟨cur, h2⟩ := own_heap h.oF e2
  exact ⟨h.aF x e2, (h.oF.lt x e2).1, cur, _, h2, .inl rfl⟩
 have bl1 : ∀ x, PgBl (⟨some ⟨GF, 0, none⟩, 2, 2, F.take 2, kA1, kn1, kc1, K.take 3⟩ : Pq) x → Away B x wc ∧ b + 3 ≤ x ∧ ∃ cur t, wc.heap[x]? = some (.cells cur t (0, 0)) ∧ (t = 54 ∨ t = 3) := by
  rintro x (⟨_, off, e⟩ | ⟨_, off, e⟩)
  ·cases e; exact hFi _ hG
  ·exact hKi x (ho1 x off e)
 have bl2 : ∀ x, PgBl (⟨some ⟨GF, 24, none⟩, 2, cF - 3, F.drop 3, kA2, kn2, kc2, K.drop 3⟩ : Pq) x → Away B x wc ∧ b + 3 ≤ x ∧ ∃ cur t, wc.heap[x]? = some (.cells cur t (0, 0)) ∧ (t = 54 ∨ t = 3) := by
  rintro x (⟨_, off, e⟩ | ⟨_, off, e⟩)
  ·cases e; exact hFi _ hG
  ·exact hKi x (ho2 x off e)
 have g1 : PgAt B ⟨some ⟨GF, 0, none⟩, 2, 2, F.take 2, kA1, kn1, kc1, K.take 3⟩ wc := by
  refine ⟨⟨?_, hk1⟩, fun x hx => (bl1 x hx).1⟩
  have := rows_sub hF3 0 2 2 (by omega) (by omega) (by omega)
  simpa using this
 have g2 : PgAt B ⟨some ⟨GF, 24, none⟩, 2, cF - 3, F.drop 3, kA2, kn2, kc2, K.drop 3⟩ wc := by
  refine ⟨⟨?_, hk2⟩, fun x hx => (bl2 x hx).1⟩
  have := rows_sub hF3 3 2 (cF - 3) (by omega) (by omega) (by omega)
  rw [List.take_of_length_le (by rw [List.length_drop]; omega)] at this
  simpa using this
 have aw14 : Away B X14 wd := Away.new h.wr hs.below hs.l14 (lt_of_heap hs.b14)
 have hsz := h.turn.size
 exact {
  wr := by rw [← List.append_assoc]; exact hw
  pages := fun g hg => by
   rw [← List.append_assoc] at hg
   rcases List.mem_append.1 hg with hg | hg
   ·exact (h.pages g hg).turn hrc
   ·rcases List.mem_cons.1 hg with rfl | hg
    ·exact g1.turn hrc
    ·rw [List.mem_singleton] at hg; subst hg; exact g2.turn hrc
  turn := h.turn.trans hrc
  ins := by
   rw [hins]
   unfold splitP
   rw [if_neg (by rw [← hFl]; omega)]
   have e2 : F.getD 2 default = m := by rw [List.getD_eq_getElem?_getD, hm]; rfl
   rw [e2]
   simp [pgV]
  few := by have := h.few; simp; omega
  slim := fun g hg => by
   rcases List.mem_append.1 hg with hg | hg
   ·exact h.slim g hg
   ·have l1 := hk1.1
    have l2 := hk2.1
    rw [List.length_take] at l1
    rw [List.length_drop] at l2
    rcases List.mem_cons.1 hg with rfl | hg
    ·dsimp only; omega
    ·rw [List.mem_singleton] at hg; subst hg; dsimp only; omega
  fresh := fun g hg x hx => by
   rcases List.mem_append.1 hg with hg | hg
   ·obtain ⟨h1, cur, t, h2, h3⟩ := h.fresh g hg x hx
    exact ⟨by omega, cur, t, (((h.pages g (List.mem_append_right _ hg)).away x hx).same hrc).trans h2, h3⟩
   ·have : Away B x wc ∧ b + 3 ≤ x ∧ ∃ cur t, wc.heap[x]? = .some (.cells cur t (0, 0)) ∧ (t = 54 ∨ t = 3) := by
     rcases List.mem_cons.1 hg with rfl | hg
     ·exact bl1 x hx
     ·rw [List.mem_singleton] at hg; subst hg; exact bl2 x hx
    obtain ⟨h1, h2, cur, t, h3, h4⟩ := this
    exact ⟨by omega, cur, t, (h1.same hrc).trans h3, h4⟩
  none := fun e => by cases e
  some := fun m' b' e => by
   cases e
   exact ⟨rfl, X14, rfl, (aw14.same hr).trans hs.b14, aw14.turn hr, by have := hs.l14; omega⟩ }
end Go.Proofs.YtbegdcjofnfkiaaGreatDoor
