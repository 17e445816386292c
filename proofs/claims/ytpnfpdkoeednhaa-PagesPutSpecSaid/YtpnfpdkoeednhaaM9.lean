/- Several texts in one: Door DoorR. -/
import Derived.Test.YtpnfpdkoeednhaaM1
import Derived.Deep.Slices
import Derived.ChangeArms
import Derived.WideShapes
import Derived.ProofKit
import Derived.OpenShut
import Derived.SizedLaws
section
/- How arguments read, over any program: structs of integers, and slices of them, opened. -/
namespace Go.Proofs.Ytpnfpdkoeednhaa
open Go.RowKit Go.ChangeShapes Go.WideShapes Go.Deep

/-- All cells of a value of type t are int's. -/
def flatInt (P : Program) : Nat → TypeId → Bool
  | 0, _ => false
  | d + 1, t => match P.underlying t with
    | some (.int .i64) => P.cellsOf t == 1
    | some (.struct fs) => (List.range (P.cellsOf t)).all fun q => fs.any fun f => decide (f.offset ≤ q) && decide (q < f.offset + P.cellsOf f.type) && flatInt P d f.type
    | _ => false
def wf64 (z : Int) : Prop := (Lit.int .i64 z).wf = true
section
variable {H : Type} {enc : TypeId × Value → H} {P : Program} {w : World} {base : Nat} {spare : Nat → Bool} {held : Bool}
theorem flat_cells : ∀ (d : Nat) (t : TypeId) (fuel : Nat) (cs : List Value) (x : DataW H × List MemPlace), flatInt P d t = true → DataW.trod enc P w base spare held fuel t cs = some x →
    cs.length = P.cellsOf t ∧ ∀ v ∈ cs, ∃ z : Int, v = .int .i64 z ∧ wf64 z
  | 0, _, _, _, _, h, _ => by simp [flatInt] at h
  | d + 1, t, fuel, cs, x, h, ht => by
    unfold flatInt at h
    split at h
    · rename_i hu
      obtain ⟨n, rfl, _, hw⟩ := DataW.trod_int hu ht
      refine ⟨by simp at h; simp [h], fun v hv => ?_⟩
      simp at hv
      exact ⟨n, hv, hw⟩
    · rename_i fs hu
      obtain ⟨ys, n, _, _, hlen, _, hf⟩ := DataW.trod_struct hu ht
      refine ⟨hlen, fun v hv => ?_⟩
      obtain ⟨q, hq, rfl⟩ := List.mem_iff_getElem.1 hv
      rw [List.all_eq_true] at h
      have hc := h q (List.mem_range.2 (by omega))
      rw [Array.any_eq_true] at hc
      obtain ⟨j, hj, hc⟩ := hc
      simp only [Bool.and_eq_true, decide_eq_true_eq] at hc
      obtain ⟨⟨h1, h2⟩, h3⟩ := hc
      have hfj := hf j fs[j] (Array.getElem?_eq_getElem hj)
      have hys : ∃ y, ys[j]? = some y := by
        cases hy : ys[j]? with
        | some y => exact ⟨y, rfl⟩
        | none =>
          have := List.getElem?_eq_none_iff.1 hy
          omega
      obtain ⟨y, hy⟩ := hys
      rw [hy] at hfj
      refine (flat_cells d _ n _ y h3 hfj).2 _ ?_
      refine List.mem_iff_getElem?.2 ⟨q - fs[j].offset, ?_⟩
      rw [List.getElem?_take, if_pos (by omega), List.getElem?_drop, show fs[j].offset + (q - fs[j].offset) = q by omega, List.getElem?_eq_getElem hq]
    · cases h

theorem ints_of : ∀ (cs : List Value), (∀ v ∈ cs, ∃ z : Int, v = .int .i64 z ∧ wf64 z) → ∃ zs : List Int, cs = zs.map (.int .i64) ∧ ∀ z ∈ zs, wf64 z
  | [], _ => ⟨[], rfl, by simp⟩
  | v :: cs, h => by
    obtain ⟨z, rfl, hz⟩ := h v (by simp)
    obtain ⟨zs, rfl, hzs⟩ := ints_of cs fun v hv => h v (by simp [hv])
    exact ⟨z :: zs, rfl, fun y hy => by
      rcases List.mem_cons.1 hy with rfl | hy
      · exact hz
      · exact hzs y hy⟩

end

section
variable {H : Type} {enc : TypeId × Value → H} {P : Program}
/-- The row's last step where of the world behind the call 'Below' alone is known. -/
theorem post_of_below {f : Func} {s : ChangeSpec} {apart fresh handsOn again : Bool} {W W' : World} {args : Array Value} {v : Value} {ds gs : List (DataW H)} {before pa pv : List MemPlace}
    (hW : DataW.Whole enc P f.params.toList s.vars apart W args.toList ds gs before)
    (hres : ∀ (b : Nat) (sp : Nat → Bool) (hd : Bool), DataW.TrodAll enc P W' b sp hd f.resultTypes.toList (v.resultList f.resultTypes.size) (s.fn H (ds ++ gs)).results [])
    (hargs : ∀ sp : Nat → Bool, (∀ p ∈ before, sp p.block = true) → DataW.TrodAll enc P W' 0 sp true f.params.toList args.toList (s.fn H (ds ++ gs)).args pa)
    (hvars : ∀ sp : Nat → Bool, (∀ p ∈ before, sp p.block = true) → DataW.TrodVars enc P W' sp s.vars (s.fn H (ds ++ gs)).vars pv)
    (hps : before = pa ++ pv) (hb : Below W.heap.size W W')
    (hok : ∀ (j : Nat) (t : TypeId) (r : Value), f.resultTypes[j]? = some t → (v.resultList f.resultTypes.size)[j]? = some r → Value.okWide P W' .any 0 t r) :
    s.post enc P f apart fresh handsOn again W args v W' := by
  have hlt : ∀ p ∈ before, p.block < W.heap.size := fun p hp => hW.lt p hp
  have hold : ∀ p ∈ before, (fun b => decide (b < W.heap.size)) p.block = true := fun p hp => by simpa using hlt p hp
  refine ⟨ds, gs, before, [], pa, pv, hW, hres _ _ _, hargs _ hold, hvars _ hold, World.keptBut_mono (fun p hp => ⟨hp, ?_⟩) (hb.frame (· ∈ before)), fun _ => ?_⟩
  · rw [hps, List.mem_append] at hp
    exact Or.inr hp
  · obtain ⟨_, _, _, _, _, hz, hn⟩ := hW
    refine ⟨hok, _, _, ([] ++ pa) ++ pv, ⟨[] ++ pa, pv, trodAll_append (hargs _ (fun _ _ => rfl)) (hres _ _ _), hvars _ (fun _ _ => rfl), rfl, ?_, ?_⟩, ?_⟩
    · intro b off hp
      have hin : MemPlace.cell b off ∈ before := by rw [hps]; simpa using hp
      rw [hb.frozen (hlt _ hin)]
      exact hz b off hin
    · intro ha
      have := hn ha
      rw [hps] at this
      simpa using this
    · intro p hp _
      rw [hps]
      simpa using hp
end
section
variable {H : Type} {enc : TypeId × Value → H} {P : Program}
theorem trodAll_stays (hl : laidOutB P = true) {W W' : World} {sp : Nat → Bool} (hb : Below W.heap.size W W') : ∀ (ts : List TypeId) (vs : List Value) (ds : List (DataW H)) (ps : List MemPlace), (∀ t ∈ ts, P.readableRec t = true ∧ t < P.types.size) →
    DataW.TrodAll enc P W 0 (fun _ => true) true ts vs ds ps → (∀ x ∈ ps, x.block < W.heap.size ∧ sp x.block = true) → DataW.TrodAll enc P W' 0 sp true ts vs ds ps
  | [], vs, ds, ps, _, h, _ => by
    obtain ⟨rfl, rfl, rfl⟩ := trodAll_nil h
    exact trodAll_mk0
  | t :: ts, vs, ds, ps, hr, h, hp => by
    obtain ⟨v, vs', d, ds', p, q, rfl, rfl, rfl, h1, h2⟩ := trodAll_cons h
    exact trodAll_cons_mk (WideElems.Trod_stays hl (hr t (by simp)).1 (hr t (by simp)).2 h1 (fun x hx => hb.same (hp x (by simp [hx])).1) (fun x hx => (hp x (by simp [hx])).2))
      (trodAll_stays hl hb ts vs' ds' q (fun t' ht => hr t' (by simp [ht])) h2 (fun x hx => hp x (by simp [hx])))
/-- A law's last step: it has returned true; of the world behind the call 'Below' is known. -/
theorem law_post {f : Func} {s : ChangeSpec} {apart fresh handsOn again : Bool} {W W' : World} {args : Array Value} {ds : List (DataW H)} {before : List MemPlace} {bt : TypeId} (hl : laidOutB P = true)
    (hW : DataW.Whole enc P f.params.toList s.vars apart W args.toList ds [] before) (hA : DataW.TrodAll enc P W 0 (fun _ => true) true f.params.toList args.toList ds before) (hs : s.fn H (ds ++ []) = { results := [.lit (.bool true)], args := ds }) (hvs : s.vars = [])
    (hrt : f.resultTypes = #[bt]) (hbt : P.underlying bt = some .bool) (hpt : ∀ t ∈ f.params.toList, P.readableRec t = true ∧ t < P.types.size) (hb : Below W.heap.size W W') : s.post enc P f apart fresh handsOn again W args (.bool true) W' := by
  refine post_of_below (pa := before) (pv := []) hW (fun _ _ _ => ?_) (fun sp h => ?_) (fun sp h => ?_) (by simp) hb ?_
  · rw [hs, hrt]; exact trodAll_mk1 (shut_bool hbt true)
  · rw [hs]; exact trodAll_stays hl hb _ _ _ _ hpt hA (fun x hx => ⟨hW.lt x hx, h x hx⟩)
  · rw [hs, hvs]; rfl
  · exact ok_one hrt rfl (okWide_bool_mk hbt true)
end
end Go.Proofs.Ytpnfpdkoeednhaa
namespace Go.Proofs.Ytpnfpdkoeednhaa
open Go.RowKit Go.ChangeShapes Go.WideShapes Go.Deep
theorem open_flat {H : Type} {enc : TypeId × Value → H} {P : Program} {w : World} {base : Nat} {spare : Nat → Bool} {held : Bool} {α : Type} {en : α → List Value} {k : Nat} {t : TypeId} {fs : Array Field} {r : Reach} {b0 d : Nat} {v : Value} {dt : DataW H} {pl : List MemPlace}
    (dec : List Int → α) (ht : P.underlying t = some (.struct fs)) (hfl : flatInt P d t = true) (hC : P.cellsOf t = k) (hdec : ∀ z : List Int, z.length = k → en (dec z) = z.map (.int .i64)) (hv : Value.okWide P w r b0 t v) (h : DataW.Trod enc P w base spare held t v dt pl) :
    ∃ x, v = .agg (en x).toArray ∧ ∃ z : List Int, x = dec z ∧ z.length = k ∧ ∀ y ∈ z, wf64 y := by
  obtain ⟨cs, rfl, hs⟩ := okWide_struct ht hv
  obtain ⟨fuel, hf⟩ := h
  obtain ⟨hl, hints⟩ := flat_cells d t fuel _ _ hfl hf
  obtain ⟨zs, hz, hwf⟩ := ints_of _ hints
  simp only [Value.cells] at hz hl
  have hzl : zs.length = k := by
    have := congrArg List.length hz
    simp at this hl
    omega
  refine ⟨dec zs, ?_, zs, rfl, hzl, hwf⟩
  rw [hdec zs hzl, ← hz]
end Go.Proofs.Ytpnfpdkoeednhaa

end
section
/- Slices whose elements are told by a representation, opened; how long they are. Over any program. -/
namespace Go.Proofs.Ytpnfpdkoeednhaa
open Go.RowKit Go.ChangeShapes Go.WideShapes Go.Deep
section
variable {H : Type} {enc : TypeId × Value → H} {P : Program} {w : World} {base : Nat} {spare : Nat → Bool} {held : Bool}
theorem weightsAll_mem {e : TypeId} {m : Nat} : ∀ {l : List (DataW H)} {d : DataW H}, d ∈ l → m ∈ d.weights P e → m ∈ DataW.weightsAll P e l
  | d0 :: l, d, hd, hm => by
    simp only [DataW.weightsAll, List.mem_append]
    rcases List.mem_cons.1 hd with rfl | hd
    · exact .inl hm
    · exact .inr (weightsAll_mem hd hm)
  | [], _, hd, _ => by simp at hd
/-- What a value weighs at most. -/
def Light (P : Program) (t : TypeId) (d : DataW H) : Prop := ∀ m ∈ d.weights P t, m ≤ reachBytes
theorem light_arg {ts : List TypeId} {ds : List (DataW H)} {j : Nat} {t : TypeId} {d : DataW H} (h : (DataW.weightsEach P ts ds).all (· ≤ reachBytes) = true) (ht : ts[j]? = some t) (hd : ds[j]? = some d) : Light P t d := fun m hm => by
  have := List.all_eq_true.1 h _ (DataW.weights_mem_each ht hd m hm)
  simpa using this
theorem light_field {t : TypeId} {fs : Array Field} {xs : List (DataW H × List MemPlace)} (hu : P.underlying t = some (.struct fs)) (h : Light P t (.agg (xs.map (·.1)))) {j : Nat} {f : Field} {x : DataW H × List MemPlace} (hf : fs[j]? = some f) (hx : xs[j]? = some x) : Light P f.type x.1 := fun m hm => by
  refine h m ?_
  simp only [DataW.weights, hu]
  exact DataW.weights_mem_each (j := j) (by simp [hf]) (by simp [hx]) m hm

theorem open_cells {α : Type} {r : Rep α} {k : Nat} {t e : TypeId} {fuel : Nat} {cs : List Value} {x : DataW H × List MemPlace} (ht : P.underlying t = some (.slice e)) (hC : P.cellsOf e = k) (hk0 : 0 < k)
    (hel : ∀ fuel cs x, DataW.trod enc P w base spare held fuel e cs = some x → Light P e x.1 → ∃ a : α, r w w.heap.size a cs)
    (h : DataW.trod enc P w base spare held fuel t cs = some x) (hw : Light P t x.1) : ∃ A n c l, cs = [.slice A n c] ∧ Rows k r w w.heap.size A n c l ∧ n * P.bytesOf e ≤ reachBytes := by
  rcases open_slice ht h with ⟨hcs, _⟩ | ⟨a, len, cap, m, n, D, Pl, hcs, hb, hl, hm, hmm, hx, hi⟩
  · exact ⟨none, 0, 0, [], hcs, Rows.nil (by decide), by simp⟩
  · subst hx
    have hlm : len ≤ m := by rw [hmm]; split <;> omega
    have hwl : len * P.bytesOf e ≤ reachBytes := by
      have := hw ((len + (m - len)) * P.bytesOf e) (by simp [DataW.weights, ht])
      exact Nat.le_trans (Nat.mul_le_mul_right _ (by omega)) this
    have hel' : ∀ i, i < len → ∃ (y : α) (cs' : List Value), r w w.heap.size y cs' ∧ cs'.length = k ∧ ∀ j u, cs'[j]? = some u → w.cell? (a.add (i * k + j)) = some u := by
      intro i hil
      obtain ⟨cs', hc, htr⟩ := hi i (by omega)
      rw [hC] at hc
      obtain ⟨_, hlc, hcell⟩ := World.cells?_some hc
      obtain ⟨y, hy⟩ := hel n cs' _ htr fun q hq => hw q (by
        simp only [DataW.weights, ht]
        refine List.mem_cons_of_mem _ (List.mem_append_left _ (weightsAll_mem (d := D i) (List.mem_map.2 ⟨i, List.mem_range.2 hil, rfl⟩) hq)))
      refine ⟨y, cs', hy, hlc, fun j u hj => ?_⟩
      have hjk : j < k := by rw [← hlc]; exact (List.getElem?_eq_some_iff.1 hj).1
      have := hcell j hjk
      rw [hj] at this
      rw [← Go.Deep.add_add]
      exact this
    rcases Nat.eq_zero_or_pos len with h0 | h0
    · subst h0
      exact ⟨some a, 0, cap, [], hcs, Rows.nil (by unfold maxLen at hm; omega), by simp⟩
    · obtain ⟨y0, cs0, hr0, hl0, hc0⟩ := hel' 0 h0
      have ha : a.spot = none ∧ a.block < w.heap.size := by
        have := hc0 0 _ (List.getElem?_eq_getElem (by omega))
        simp only [Nat.zero_mul, Nat.add_zero] at this
        have ha0 : a.add 0 = a := by simp [Addr.add]
        rw [ha0] at this
        unfold World.cell? at this
        split at this
        · rename_i ho
          split at this
          · cases this
          · rename_i hs
            exact ⟨by simpa using hs, lt_of_heap ho⟩
        · cases this
      obtain ⟨b, off, sp⟩ := a
      obtain ⟨rfl, hlt⟩ := ha
      obtain ⟨f, hf⟩ : ∃ f : Nat → α, ∀ i, i < len → ∃ cs', r w w.heap.size (f i) cs' ∧ cs'.length = k ∧ ∀ j u, cs'[j]? = some u → w.cell? ((⟨b, off, none⟩ : Addr).add (i * k + j)) = some u := by
        refine ⟨fun i => if h : i < len then Classical.choose (hel' i h) else y0, fun i h => ?_⟩
        simp only [dif_pos h]
        exact Classical.choose_spec (hel' i h)
      refine ⟨_, len, cap, (List.range len).map f, hcs, ⟨by simp, hl, by unfold maxLen at hm; omega, fun _ => ⟨b, off, rfl, hlt, fun i x hx => ?_⟩⟩, hwl⟩
      rw [List.getElem?_map] at hx
      have hil : i < len := by
        rcases Nat.lt_or_ge i len with h | h
        · exact h
        · rw [List.getElem?_eq_none (by simpa using h)] at hx
          cases hx
      rw [List.getElem?_range hil] at hx
      simp at hx
      subst hx
      obtain ⟨cs', h1, _, h3⟩ := hf i hil
      refine ⟨cs', h1, fun j u hj => ?_⟩
      have := h3 j u hj
      rw [addr_add, ← Nat.add_assoc] at this
      exact this
/-- An element of integers. -/
theorem flat_el {α : Type} {en : α → List Value} {k d : Nat} {e : TypeId} (dec : List Int → α) (hfl : flatInt P d e = true) (hC : P.cellsOf e = k) (hdec : ∀ z : List Int, z.length = k → en (dec z) = z.map (.int .i64)) {fuel : Nat} {cs : List Value} {x : DataW H × List MemPlace}
    (h : DataW.trod enc P w base spare held fuel e cs = some x) : ∃ a : α, Rep.flat en w w.heap.size a cs := by
  obtain ⟨hl, hints⟩ := flat_cells d e fuel cs x hfl h
  obtain ⟨zs, rfl, _⟩ := ints_of cs hints
  refine ⟨dec zs, ?_⟩
  show _ = _
  rw [hdec zs (by simpa [hC] using hl)]
end
end Go.Proofs.Ytpnfpdkoeednhaa

end

