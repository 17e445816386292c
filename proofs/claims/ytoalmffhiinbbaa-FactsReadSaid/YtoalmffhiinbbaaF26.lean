/- The keys of a map that the call has made: an iterator over them. -/
import Derived.Test.YtoalmffhiinbbaaF22
import Derived.Test.YtoalmffhiinbbaaF12
import Derived.Test.YtoalmffhiinbbaaKMap
import Derived.Test.YtoalmffhiinbbaaIterG
namespace Go.Proofs.Ytoalmffhiinbbaa
open Go.RowKit Go.Shelf
attribute [local go_sem] Oper.semAt_some

def kV (k : Ky) : Value := .agg #[.int .i64 k.kind, .int .i64 k.subj, .int .i64 k.obj]
theorem k_ops : KeyOps Try.prog 24 72 kV := by
  refine KeyOps.of_struct Try.underlying72 Try.underlying24 ?_ ?_ ?_ ?_
  · intro a b h
    simp [kV] at h
    exact Ky.ext' h.1 h.2.1 h.2.2
  · intro a em w
    have u3 := Try.underlying3
    have uk := Try.underlying24
    have z3 := Try.sizeOf3
    have a3 := Try.isAgg3
    have i3 : ∀ n v w, v = Value.int .i64 a.kind ∨ v = .int .i64 a.subj ∨ v = .int .i64 a.obj → (Instr.checkKey em (n + 1) 3 v).run Try.prog w = .ok () w := by
      rintro n v w (rfl | rfl | rfl) <;> (unfold Instr.checkKey; go_simp)
    show (Instr.checkKey em (9999 + 1) 24 (kV a)).run Try.prog w = .ok () w
    unfold Instr.checkKey kV
    go_simp
  · intro a w
    have : Instr.sameBits 10000 (kV a) (kV a) = true := by
      show Instr.sameBits (9999 + 1) (.agg _) (.agg _) = true
      simp [Instr.sameBits]
    unfold Instr.keyThatStays
    rw [if_pos this]
    rfl
  · intro a b w
    exact k_in 9998 a b w

/-- How many keys the iterator has not yet handed out. -/
def itLeft (W : World) (r n : Nat) : Nat := match W.heap[r]? with
  | some (.mapIter _ _ seen _) => n - seen.size
  | _ => 0
theorem itLeft_eq {W : World} {r b : Nat} {ks : List Ky} {js : List Nat} (h : KIt kV W r b ks js) : itLeft W r ks.length = ks.length - js.length := by
  obtain ⟨es, clock, h1, h2, h3⟩ := h
  simp [itLeft, h2]
theorem nodup_lt_len {n : Nat} {js : List Nat} (h : js.Nodup) (hlt : ∀ j ∈ js, j < n) : js.length ≤ n := by
  have hp := perm_places h hlt
  have := hp.length_eq
  simp at this
  omega
theorem itLeft_lt {W W2 : World} {r b j : Nat} {ks : List Ky} {js : List Nat} (h : KIt kV W r b ks js) (h2 : KIt kV W2 r b ks (js ++ [j])) : itLeft W2 r ks.length < itLeft W r ks.length := by
  rw [itLeft_eq h, itLeft_eq h2]
  have := nodup_lt_len h2.js.1 h2.js.2
  simp at this ⊢
  omega

set_option maxRecDepth 100000 in
set_option maxHeartbeats 2000000 in
theorem keys1_seq (Bm b : Nat) (ks : List Ky) (w : World) (hBm : w.cell? ⟨Bm, 0, none⟩ = some (.map (some b))) (hkm : KM kV w b ks) :
    SeqG Try.prog 56 #[.pointer (some ⟨Bm, 0, none⟩)] (fun x : Ky => #[.agg #[.int .i64 x.kind, .int .i64 x.subj, .int .i64 x.obj]]) (fun xs => xs.Perm ks) (fun q => q = Bm ∨ q = b) w := by
  intro li J Jx C W hS hC hJ hJx hY h0
  refine (callsIn_wide (n := 0)).1 (callsIn_of_wp Try.func56 rfl trivial ?_ rfl)
  simp only [Try.ntmps56, List.size_toArray, List.length_cons, List.length_nil, Nat.reduceAdd, Nat.reduceSub, Array.replicate_succ, Array.replicate_zero, List.push_toArray, List.append_toArray, List.nil_append, List.cons_append]
  have HY := hidp hY
  have HJ := hidp hJ
  have HJx := hidp hJx
  clear hY hJ hJx
  have hBW := (SeqSt.start hS hC).cell (b := Bm) (o := 0) (.inl rfl)
  rw [hBm] at hBW
  have hkW : KM kV W b ks := hkm.keep ((SeqSt.start hS hC).reads b (.inr rfl)).2.1
  obtain ⟨w1, hrg, hit0, hb1, hz1⟩ := km_range (P := Try.prog) Try.underlying72 hkW
  have hJ1 := HJ.out _ _ _ _ h0 (kept_of_below (M := fun q => W.heap.size ≤ q ∧ ¬ C q) hb1 (fun q h1 h2 => by omega))
  have hst0 : SeqSt (fun q => q = Bm ∨ q = b) w W C w1 := (SeqSt.start hS hC).own (M := fun q => W.heap.size ≤ q) (kept_of_below (M := fun q => W.heap.size ≤ q) hb1 (fun q h1 h2 => by omega)) fun _ h => h
  have hCr : ¬ C W.heap.size := fun h => by have := hC _ h; omega
  have HCR := hidp hCr
  have HIT := hidp hit0
  have HJ1 := hidp hJ1
  clear hit0 hJ1 hCr hkW h0
  gi_wp2
  gi_loopw [3] (fun _ wr => ∃ (js : List Nat) (C1 : Nat → Prop), KIt kV wr W.heap.size b ks js ∧ ¬ C1 W.heap.size ∧ J (picks ks js) C1 wr ∧ SeqSt (fun q => q = Bm ∨ q = b) w W C1 wr)
    (fun _ wr => itLeft wr W.heap.size ks.length)
  case atStart => exact ⟨[], C, HIT.out, HCR.out, HJ1.out, hst0⟩
  case round =>
    obtain ⟨js, C1, hit, hC1, hJr, hst⟩ := hrel
    have HC1 := hidp hC1
    have HR := hidp hit.lt.2
    clear hC1 hst0 hS
    rcases km_next (P := Try.prog) hit 0 with ⟨hall, hnx⟩ | ⟨j, x, w2, hnj, hj, hnx, hit2, hk2, hz2⟩
    · have HA := hidp hall
      have HIT2 := hidp hit
      clear hall hit
      gi_wp2
      go_end0
      exact ⟨⟨_, rfl⟩, C1, .inl ⟨_, picks_perm HIT2.out.js.1 HIT2.out.js.2 HA.out, hJr⟩⟩
    · have hne := km_entry (P := Try.prog) hit2 hj
      have HJP := hidp (picks_next hit.js.1 hit.js.2 hnj hj)
      have hMe : Hid (ks.length - (js ++ [j]).length < itLeft wr W.heap.size ks.length) := by
        show _ < _; rw [← itLeft_eq hit2]; exact itLeft_lt hit hit2
      have hst2 : SeqSt (fun q => q = Bm ∨ q = b) w W C1 w2 := hst.own hk2 fun q h => by omega
      have hst3 := hst2.alloc (.cells #[.int .i64 x.kind, .int .i64 x.subj, .int .i64 x.obj] 24)
      have hJ2 := HJ.out _ _ _ _ hJr ((hk2.mono (M' := fun q => W.heap.size ≤ q ∧ ¬ C1 q) fun q _ h => ⟨by omega, by rw [h]; exact HC1.out⟩).alloc (.cells #[.int .i64 x.kind, .int .i64 x.subj, .int .i64 x.obj] 24))
      have hit3 : KIt kV (w2.alloc (.cells #[.int .i64 x.kind, .int .i64 x.subj, .int .i64 x.obj] 24)) W.heap.size b ks (js ++ [j]) := hit2.keep (Below.heap_alloc _ _ _ hit2.lt.1) (Below.heap_alloc _ _ _ hit2.lt.2)
      have HX := hidp hj
      clear hit hit2 hst hJr hk2 hst2 hz2 hj
      simp only [kV] at hnx hne
      obtain ⟨suf, hsuf⟩ := HJP.out
      obtain ⟨fn, tmps, assign, body, hy, hR⟩ := HY.out 0 _ _ _ _ _ hsuf hJ2
      have HPS : Hid (picks ks (js ++ [j]) = picks ks js ++ [x]) := picks_snoc HX.out
      clear hsuf hJ2 HJP
      gi_wp2
      refine ⟨rfl, hR.mono ?_⟩
      rintro e W3 ⟨C3, hk3, hC3, (⟨rfl, hJ3⟩ | ⟨rfl, hJx3⟩)⟩
      · gi_wp2
        go_roundw
        case rel =>
          have hlt3 := hit3.lt
          refine ⟨js ++ [j], C3, hit3.keep (hk3.block _ hlt3.1 (hst3.reads b (.inr rfl)).2.2) (hk3.block _ hlt3.2 HC1.out), fun h => ?_, by rw [HPS.out]; exact hJ3, hst3.round hk3 hC3⟩
          rcases (hC3 _ h).2 with h | h
          · exact HC1.out h
          · omega
        case measure =>
          have hlt3 := hit3.lt
          rw [itLeft_eq (hit3.keep (hk3.block _ hlt3.1 (hst3.reads b (.inr rfl)).2.2) (hk3.block _ hlt3.2 HC1.out))]
          exact hMe.out
      · gi_wp2
        refine bodyPost_ret (results_none rfl _ _ _) rfl ?_
        exact ⟨⟨_, rfl⟩, C3, .inr hJx3⟩

set_option maxHeartbeats 400000 in
theorem keys_any (b : Nat) (w : World) :
    Calls Try.prog 41 #[.map (some b)] w fun e w' => e = .returned (.func (.func 56) #[] #[.pointer (some ⟨w.heap.size, 0, none⟩)]) ∧ w.alloc (.cells #[.map (some b)] 72) = w' := by
  go_enter Try.func41, Try.ntmps41
  go_wp2
  go_ret
  exact ⟨rfl, rfl⟩
end Go.Proofs.Ytoalmffhiinbbaa
