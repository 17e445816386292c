/- A query, a condition and a test in boxes, and three queries made of them. -/
import Derived.Test.YtbegdcjofnfkiaaDoorJM
import Derived.Test.YtbegdcjofnfkiaaDoorJN
namespace Go.Proofs.YtbegdcjofnfkiaaDoor
open Go.RowKit Go.Shelf Go.Sort

structure FwB (q : Qu) (a : Am) (t : Te) (b X Y Z : Nat) (u v z : Value) (w W : World) : Prop where
  qb : QBox q b W
  ab : W.heap[b + 1]? = some (.cells #[.int .i64 a.kind, .bool a.s.var, .int .i64 a.s.n, .bool a.o.var, .int .i64 a.o.n, .bool a.v.var, .int .i64 a.v.n, .int .i64 a.term, .int .i64 a.known] 46 (0, 0))
  tb : W.heap[b + 2]? = some (.cells #[.int .i64 t.op, .bool t.a.var, .int .i64 t.a.n, .bool t.b.var, .int .i64 t.b.n] 48 (0, 0))
  xb : W.heap[X]? = some (.cells #[.slice q.nA q.nn q.nc, .slice q.sA q.sn q.sc, u, .slice q.tA q.tn q.tc] 27 (0, 0))
  yb : W.heap[Y]? = some (.cells #[.slice q.nA q.nn q.nc, .slice q.sA q.sn q.sc, .slice q.aA q.an q.ac, v] 27 (0, 0))
  zb : W.heap[Z]? = some (.cells #[.slice q.nA q.nn q.nc, .slice q.sA q.sn q.sc, .slice q.aA q.an q.ac, z] 27 (0, 0))
  bel : Below b w W
  lx : b + 2 < X
  ly : b + 2 < Y
  lz : b + 2 < Z
  xy : X ≠ Y
  xz : X ≠ Z
  yz : Y ≠ Z
section
variable {q : Qu} {a : Am} {t : Te} {b X Y Z : Nat} {u v z : Value} {w W W' : World}
theorem FwB.lt (h : FwB q a t b X Y Z u v z w W) : X < W.heap.size ∧ Y < W.heap.size ∧ Z < W.heap.size ∧ b + 2 < W.heap.size := ⟨lt_of_heap h.xb, lt_of_heap h.yb, lt_of_heap h.zb, lt_of_heap h.tb⟩
theorem FwB.keepN {N : Nat} (h : FwB q a t b X Y Z u v z w W) (hN : X < N ∧ Y < N ∧ Z < N) (hk : ∀ x, x < N → W'.heap[x]? = W.heap[x]?) (hb : Below b W W') : FwB q a t b X Y Z u v z w W' := by
  have := h.lx
  exact ⟨⟨(hk _ (by omega)).trans h.qb.box⟩, (hk _ (by omega)).trans h.ab, (hk _ (by omega)).trans h.tb, (hk _ hN.1).trans h.xb, (hk _ hN.2.1).trans h.yb, (hk _ hN.2.2).trans h.zb, h.bel.trans hb, h.lx, h.ly, h.lz, h.xy, h.xz, h.yz⟩
theorem FwB.keep (h : FwB q a t b X Y Z u v z w W) (hb : Below W.heap.size W W') : FwB q a t b X Y Z u v z w W' :=
  h.keepN ⟨h.lt.1, h.lt.2.1, h.lt.2.2.1⟩ hb.block (hb.mono (by have := h.lt; omega))
theorem FwB.setX (h : FwB q a t b X Y Z u v z w W) (y : Value) : FwB q a t b X Y Z y v z w (W.setCell ⟨X, 2, none⟩ y) := by
  have := h.lx; have := h.xy; have := h.xz
  exact ⟨⟨heap_set_ne h.qb.box (by omega) _ _⟩, heap_set_ne h.ab (by omega) _ _, heap_set_ne h.tb (by omega) _ _, heap_setO h.xb 2 _, heap_set_ne h.yb (by omega) _ _, heap_set_ne h.zb (by omega) _ _, h.bel.setCell (p := ⟨X, 2, none⟩) (by show _ ≤ X; omega) _, h.lx, h.ly, h.lz, h.xy, h.xz, h.yz⟩
theorem FwB.setY (h : FwB q a t b X Y Z u v z w W) (y : Value) : FwB q a t b X Y Z u y z w (W.setCell ⟨Y, 3, none⟩ y) := by
  have := h.ly; have := h.xy; have := h.yz
  exact ⟨⟨heap_set_ne h.qb.box (by omega) _ _⟩, heap_set_ne h.ab (by omega) _ _, heap_set_ne h.tb (by omega) _ _, heap_set_ne h.xb (by omega) _ _, heap_setO h.yb 3 _, heap_set_ne h.zb (by omega) _ _, h.bel.setCell (p := ⟨Y, 3, none⟩) (by show _ ≤ Y; omega) _, h.lx, h.ly, h.lz, h.xy, h.xz, h.yz⟩
theorem FwB.setZ (h : FwB q a t b X Y Z u v z w W) (y : Value) : FwB q a t b X Y Z u v y w (W.setCell ⟨Z, 3, none⟩ y) := by
  have := h.lz; have := h.xz; have := h.yz
  exact ⟨⟨heap_set_ne h.qb.box (by omega) _ _⟩, heap_set_ne h.ab (by omega) _ _, heap_set_ne h.tb (by omega) _ _, heap_set_ne h.xb (by omega) _ _, heap_set_ne h.yb (by omega) _ _, heap_setO h.zb 3 _, h.bel.setCell (p := ⟨Z, 3, none⟩) (by show _ ≤ Z; omega) _, h.lx, h.ly, h.lz, h.xy, h.xz, h.yz⟩
theorem FwB.setT (h : FwB q a t b X Y Z u v z w W) (o : Int) : FwB q a ⟨o, t.a, t.b⟩ b X Y Z u v z w (W.setCell ⟨b + 2, 0, none⟩ (.int .i64 o)) := by
  have := h.lx; have := h.ly; have := h.lz
  exact ⟨⟨heap_set_ne h.qb.box (by omega) _ _⟩, heap_set_ne h.ab (by omega) _ _, heap_setO h.tb 0 _, heap_set_ne h.xb (by omega) _ _, heap_set_ne h.yb (by omega) _ _, heap_set_ne h.zb (by omega) _ _, h.bel.setCell (p := ⟨b + 2, 0, none⟩) (by show _ ≤ b + 2; omega) _, h.lx, h.ly, h.lz, h.xy, h.xz, h.yz⟩
theorem FwB.atom (h : FwB q a t b X Y Z u v z w W) : W.cell? ⟨b + 1, 0, none⟩ = some (.int .i64 a.kind) ∧ W.cell? ⟨b + 1, 1, none⟩ = some (.bool a.s.var) ∧ W.cell? ⟨b + 1, 2, none⟩ = some (.int .i64 a.s.n) ∧ W.cell? ⟨b + 1, 3, none⟩ = some (.bool a.o.var) ∧ W.cell? ⟨b + 1, 4, none⟩ = some (.int .i64 a.o.n) ∧ W.cell? ⟨b + 1, 5, none⟩ = some (.bool a.v.var) ∧ W.cell? ⟨b + 1, 6, none⟩ = some (.int .i64 a.v.n) ∧ W.cell? ⟨b + 1, 7, none⟩ = some (.int .i64 a.term) ∧ W.cell? ⟨b + 1, 8, none⟩ = some (.int .i64 a.known) ∧ b + 1 < W.heap.size :=
  ⟨cell_of_heap (o := 0) h.ab, cell_of_heap (o := 1) h.ab, cell_of_heap (o := 2) h.ab, cell_of_heap (o := 3) h.ab, cell_of_heap (o := 4) h.ab, cell_of_heap (o := 5) h.ab, cell_of_heap (o := 6) h.ab, cell_of_heap (o := 7) h.ab, cell_of_heap (o := 8) h.ab, lt_of_heap h.ab⟩
theorem FwB.test (h : FwB q a t b X Y Z u v z w W) : W.cell? ⟨b + 2, 0, none⟩ = some (.int .i64 t.op) ∧ W.cell? ⟨b + 2, 1, none⟩ = some (.bool t.a.var) ∧ W.cell? ⟨b + 2, 2, none⟩ = some (.int .i64 t.a.n) ∧ W.cell? ⟨b + 2, 3, none⟩ = some (.bool t.b.var) ∧ W.cell? ⟨b + 2, 4, none⟩ = some (.int .i64 t.b.n) ∧ b + 2 < W.heap.size :=
  ⟨cell_of_heap (o := 0) h.tb, cell_of_heap (o := 1) h.tb, cell_of_heap (o := 2) h.tb, cell_of_heap (o := 3) h.tb, cell_of_heap (o := 4) h.tb, lt_of_heap h.tb⟩
theorem FwB.xc (h : FwB q a t b X Y Z u v z w W) : W.cell? ⟨X, 0, none⟩ = some (.slice q.nA q.nn q.nc) ∧ W.cell? ⟨X, 1, none⟩ = some (.slice q.sA q.sn q.sc) ∧ W.cell? ⟨X, 2, none⟩ = some u ∧ W.cell? ⟨X, 3, none⟩ = some (.slice q.tA q.tn q.tc) ∧ X < W.heap.size :=
  ⟨cell_of_heap (o := 0) h.xb, cell_of_heap (o := 1) h.xb, cell_of_heap (o := 2) h.xb, cell_of_heap (o := 3) h.xb, lt_of_heap h.xb⟩
theorem FwB.yc (h : FwB q a t b X Y Z u v z w W) : W.cell? ⟨Y, 0, none⟩ = some (.slice q.nA q.nn q.nc) ∧ W.cell? ⟨Y, 1, none⟩ = some (.slice q.sA q.sn q.sc) ∧ W.cell? ⟨Y, 2, none⟩ = some (.slice q.aA q.an q.ac) ∧ W.cell? ⟨Y, 3, none⟩ = some v ∧ Y < W.heap.size :=
  ⟨cell_of_heap (o := 0) h.yb, cell_of_heap (o := 1) h.yb, cell_of_heap (o := 2) h.yb, cell_of_heap (o := 3) h.yb, lt_of_heap h.yb⟩
theorem FwB.zc (h : FwB q a t b X Y Z u v z w W) : W.cell? ⟨Z, 0, none⟩ = some (.slice q.nA q.nn q.nc) ∧ W.cell? ⟨Z, 1, none⟩ = some (.slice q.sA q.sn q.sc) ∧ W.cell? ⟨Z, 2, none⟩ = some (.slice q.aA q.an q.ac) ∧ W.cell? ⟨Z, 3, none⟩ = some z ∧ Z < W.heap.size :=
  ⟨cell_of_heap (o := 0) h.zb, cell_of_heap (o := 1) h.zb, cell_of_heap (o := 2) h.zb, cell_of_heap (o := 3) h.zb, lt_of_heap h.zb⟩
end
end Go.Proofs.YtbegdcjofnfkiaaDoor
