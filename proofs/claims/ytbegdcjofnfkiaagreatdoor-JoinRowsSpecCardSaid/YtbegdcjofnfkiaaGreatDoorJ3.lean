/- Words of kinds; slices.Index; the small functions of query. -/
import Derived.Test.YtbegdcjofnfkiaaGreatDoorJ2
import Derived.Test.YtbegdcjofnfkiaaGreatDoorM6
import Derived.Test.YtbegdcjofnfkiaaGreatDoorJI
namespace Go.Proofs.YtbegdcjofnfkiaaGreatDoor
open Go.RowKit Go.Sort

abbrev nStable : (Rep.flat sEnc).Stable := Rep.flat_stable _
theorem nSl.get {n₀ n c k : Nat} {A : Option Addr} {l : List ByteArray} {W : World} (h : nSl W n₀ A n c l) (hk : k < n) :
    ∃ b off x, A = some ⟨b, off, none⟩ ∧ b < n₀ ∧ l[k]? = some x ∧ W.cell? ⟨b, off + k, none⟩ = some (.string x) := by
  obtain ⟨b, off, x, cs, rfl, hb, hx, hr, hc⟩ := Rows.get h hk
  obtain rfl := hr
  exact ⟨b, off, x, rfl, hb, hx, by have := hc 0 _ rfl; simpa using this⟩
def wordsJ : List ByteArray := [⟨#[99, 111, 117, 114, 115, 101]⟩, ⟨#[115, 97, 109, 101]⟩, ⟨#[112, 114, 111, 103, 114, 97, 109, 109, 101]⟩, ⟨#[115, 121, 115, 116, 101, 109]⟩, ⟨#[103, 114, 97, 100, 101]⟩, ⟨#[104, 111, 108, 100]⟩, ⟨#[114, 117, 108, 101]⟩, ⟨#[115, 101, 97, 116]⟩, ⟨#[99, 108, 97, 115, 104]⟩, ⟨#[108, 111, 97, 100]⟩, ⟨#[103, 114, 111, 117, 112]⟩, ⟨#[110, 117, 109, 98, 101, 114, 115]⟩]
theorem words_nodup : wordsJ.Nodup := by decide +kernel
def wdJ (s : ByteArray) : Int := indexB wordsJ s + 1
/-- The words lie where they were laid. -/
def WordsAt (W : World) : Prop := ∃ A c t fr, W.heap[0]? = some (.cells #[.slice A 12 c] t fr) ∧ nSl W W.heap.size A 12 c wordsJ
theorem WordsAt.lt {W : World} (h : WordsAt W) : 0 < W.heap.size := by
  obtain ⟨A, c, t, fr, h, _⟩ := h; exact lt_of_heap h
theorem WordsAt.below {W W' : World} (h : WordsAt W) (hb : Below W.heap.size W W') : WordsAt W' := by
  obtain ⟨A, c, t, fr, h1, h2⟩ := h
  exact ⟨A, c, t, fr, (hb.block 0 (lt_of_heap h1)).trans h1, h2.keep nStable hb.size hb.block⟩
def kvsJ : List (ByteArray × Value) := [(wordsJ.getD 0 ⟨#[]⟩, .int .i64 1), (wordsJ.getD 1 ⟨#[]⟩, .int .i64 2), (wordsJ.getD 2 ⟨#[]⟩, .int .i64 3), (wordsJ.getD 3 ⟨#[]⟩, .int .i64 4), (wordsJ.getD 4 ⟨#[]⟩, .int .i64 5), (wordsJ.getD 5 ⟨#[]⟩, .int .i64 6), (wordsJ.getD 6 ⟨#[]⟩, .int .i64 7), (wordsJ.getD 7 ⟨#[]⟩, .int .i64 8), (wordsJ.getD 8 ⟨#[]⟩, .int .i64 9), (wordsJ.getD 9 ⟨#[]⟩, .int .i64 10), (wordsJ.getD 10 ⟨#[]⟩, .int .i64 11), (wordsJ.getD 11 ⟨#[]⟩, .int .i64 12)]
theorem kvs_get {k : Nat} {x : ByteArray} (h : wordsJ[k]? = some x) : kvsJ[k]? = some (x, .int .i64 (1 + k)) := by
  have hk := (List.getElem?_eq_some_iff.1 h).1
  have hk' : k < 12 := hk
  rcases k with _ | _ | _ | _ | _ | _ | _ | _ | _ | _ | _ | _ | k
  all_goals first
    | (obtain rfl := Option.some.inj h; rfl)
    | omega
theorem kvs_keys : kvsJ.map (·.1) = wordsJ := rfl
theorem kvs_fresh {k : Nat} {x : ByteArray} (h : wordsJ[k]? = some x) : ∀ p ∈ kvsJ.take k, p.1 ≠ x := by
  intro p hp hpx
  obtain ⟨i, hi, rfl⟩ := List.getElem_of_mem hp
  rw [List.length_take] at hi
  rw [List.getElem_take] at hpx
  have h1 : wordsJ[i]? = some x := by
    rw [← kvs_keys, List.getElem?_map, List.getElem?_eq_getElem (by omega), Option.map_some, hpx]
  have := List.getElem?_inj (List.getElem?_eq_some_iff.1 h1).1 words_nodup |>.1 (h1.trans h.symm)
  omega
theorem indexB_get {α : Type} [DecidableEq α] : ∀ (l : List α) (a : α), (a ∉ l ∧ indexB l a = -1) ∨ ∃ i : Nat, l[i]? = some a ∧ (∀ j, j < i → l[j]? ≠ some a) ∧ indexB l a = i
  | [], a => .inl ⟨by simp, rfl⟩
  | x :: l, a => by
    unfold indexB
    by_cases hx : x = a
    · rw [if_pos hx]
      exact .inr ⟨0, by rw [hx]; rfl, fun j hj => by omega, rfl⟩
    · rw [if_neg hx]
      rcases indexB_get l a with ⟨h1, h2⟩ | ⟨i, h1, h2, h3⟩
      · rw [if_pos (by omega)]
        exact .inl ⟨by simp [h1]; exact fun h => hx h.symm, rfl⟩
      · rw [if_neg (by omega)]
        refine .inr ⟨i + 1, by simpa using h1, fun j hj => ?_, by omega⟩
        rcases j with _ | j
        · simp; exact hx
        · simpa using h2 j (by omega)
theorem kvs_look {v : Value} {s : ByteArray} (h : (∃ p ∈ kvsJ, p.1 = s ∧ v = p.2) ∨ ((∀ p ∈ kvsJ, p.1 ≠ s) ∧ v = .int .i64 0)) : v = .int .i64 (wdJ s) := by
  rcases indexB_get wordsJ s with ⟨h1, h2⟩ | ⟨i, h1, h2, h3⟩
  · rcases h with ⟨p, hp, hps, rfl⟩ | ⟨_, rfl⟩
    · exfalso
      apply h1
      rw [← kvs_keys, ← hps]
      exact List.mem_map_of_mem hp
    · unfold wdJ; rw [h2]; rfl
  · have h4 := kvs_get h1
    rcases h with ⟨p, hp, hps, rfl⟩ | ⟨h, _⟩
    · obtain ⟨k, hk, hpk⟩ := List.getElem_of_mem hp
      have h5 : wordsJ[k]? = some s := by rw [← kvs_keys, List.getElem?_map, List.getElem?_eq_getElem hk, Option.map_some, hpk, hps]
      have hki : k = i :=
         List.getElem?_inj (List.getElem?_eq_some_iff.1 h5).1 words_nodup |>.1 (h5.trans h1.symm)
      subst hki
      rw [List.getElem?_eq_getElem hk, hpk] at h4
      have h6 := Option.some.inj h4
      rw [h6]
      unfold wdJ
      rw [h3]
      show Value.int .i64 (1 + (k : Int)) = _
      congr 1; omega
    · exact absurd rfl (h _ (List.mem_of_getElem? h4))
abbrev sV (s : ByteArray) : Value := .string s
theorem s_ops : KeyOps Tryz.prog 9 111 sV := KeyOps.of_string Tryz.underlying111 Tryz.underlying9
theorem words_look (W : World) {b : Nat} (h : KMV sV W b kvsJ) (s : ByteArray) : (Instr.lookup 111 (.map (some b)) (.string s) false).run Tryz.prog W = .ok (.int .i64 (wdJ s)) W := by
  have hz : (zeroValue 3).run Tryz.prog W = .ok (.int .i64 0) W := by
    obtain ⟨i0, hi, hz, _, _⟩ := info_parts iInfo
    simp [zeroValue, typeInfo, hi, hz]
  obtain ⟨v, hrun, hv⟩ := kmv_lookup s_ops Tryz.underlying111 hz h s
  rw [hrun, kvs_look hv]
set_option maxRecDepth 100000 in
set_option maxHeartbeats 2000000 in
theorem kinds_any (w : World) (hw : WordsAt w) : Calls Tryz.prog 56 #[] w fun e w' => ∃ b, e = .returned (.map (some b)) ∧ w.heap.size ≤ b ∧ KMV sV w' b kvsJ ∧ Below w.heap.size w w' := by
  obtain ⟨A, c, t, fr, hg, hrow⟩ := hw
  have g0 := cell_of_heap (o := 0) hg
  simp only [List.getElem?_toArray, List.getElem?_cons_zero] at g0
  have HROW := hidp hrow
  have hmm := @run_makeMap Tryz.prog
  have hl0 := lt_of_heap hg
  clear hrow hg
  obtain ⟨W0, hW0⟩ : ∃ W0, w.alloc (.map #[] 0) = W0 := ⟨_, rfl⟩
  have hBW : Below w.heap.size w W0 := by rw [← hW0]; exact (Below.refl _ w).alloc (Nat.le_refl _) _
  have hkm0 : KMV sV W0 w.heap.size [] := by rw [← hW0]; exact KMV.made w
  have HW0 := hidp hW0
  have HBW := hidp hBW
  have HKM := hidp hkm0
  clear hW0 hBW hkm0
  go_enter Tryz.func56, Tryz.ntmps56
  go_wp2_with fail
  rw [HW0.out]
  go_loopw [7] (fun i wr => ∃ k : Nat, k ≤ 12 ∧ i = .int .i64 k ∧ KMV sV wr w.heap.size (kvsJ.take k) ∧ Below w.heap.size w wr) (fun i _ => 12 - (intOf i).toNat)
  case atStart => exact ⟨0, by omega, rfl, HKM.out, HBW.out⟩
  case round =>
    obtain ⟨k, hk, rfl, hkm, hbk⟩ := hrel
    have HKMk := hidp hkm
    have HBK := hidp hbk
    clear hkm hbk
    by_cases hk12 : k < 12
    · obtain ⟨b, off, x, rfl, hb, hx, c1⟩ := nSl.get (HROW.out.keep nStable HBK.out.size HBK.out.block) hk12
      have HX := hidp hx
      obtain ⟨w', hrun, hkm', hg, hz⟩ := kmv_push s_ops HKMk.out (kvs_fresh hx) (.int .i64 (1 + (k : Int)))
      have hk12' : (k : Int) < 12 := by omega
      have hb' : Below w.heap.size w w' := HBK.out.grown hg HBK.out.size (fun r hr => by cases hr; exact Nat.le_refl _)
      have hkm2 : KMV sV w' w.heap.size (kvsJ.take (k + 1)) := by
        rw [take_snoc (kvs_get hx)]; exact hkm'
      clear hx hkm' hg hz
      go_wp2_with fail
      exact ⟨⟨k + 1, by omega, by go_num, hkm2, hb'⟩, by simp [intOf]; omega⟩
    · obtain rfl : k = 12 := by omega
      go_wp2_with fail
      go_ret
      exact ⟨_, rfl, Nat.le_refl _, HKMk.out, HBK.out⟩
set_option maxHeartbeats 400000 in
theorem qin_any (n a b : Int) (w : World) : Calls Tryz.prog 54 #[.int .i64 n, .int .i64 a, .int .i64 b] w fun e w' => e = .returned (.bool (inB n a b)) ∧ w = w' := by
  go_enter Tryz.func54, Tryz.ntmps54
  go_wp2_with fail
  all_goals go_ret
  all_goals refine ⟨ret_bool ?_, rfl⟩
  all_goals simp [inB]; omega
set_option maxRecDepth 100000 in
set_option maxHeartbeats 1000000 in
theorem indexS_any (A : Option Addr) (n c : Nat) (l : List ByteArray) (s : ByteArray) (w : World) (hl : nSl w w.heap.size A n c l) :
    Calls Tryz.prog 58 #[.slice A n c, .string s] w fun e w' => e = .returned (.int .i64 (indexB l s)) ∧ w = w' := by
  have HL := hidp hl
  have HN := hidp hl.1
  have hcap := hl.2.2.1
  have hnc := hl.2.1
  clear hl
  go_enter Tryz.func58, Tryz.ntmps58
  go_wp2_with fail
  go_loopw [8] (fun i wr => ∃ k : Nat, k ≤ n ∧ i = .int .i64 k ∧ (∀ j, j < k → l[j]? ≠ some s) ∧ w = wr) (fun i _ => n - (intOf i).toNat)
  case atStart => exact ⟨0, by omega, rfl, fun j h => by omega, rfl⟩
  case round =>
    obtain ⟨k, hk, rfl, hno, rfl⟩ := hrel
    have HNO := hidp hno
    clear hno
    by_cases hkn : k < n
    · obtain ⟨b, off, x, rfl, hb, hx, c1⟩ := nSl.get HL.out hkn
      have hkn' : (k : Int) < n := by omega
      have HX := hidp hx
      obtain ⟨q, hq⟩ : ∃ q, (s.toList == x.toList) = q := ⟨_, rfl⟩
      have hqx : (q = true ↔ x = s) := by
        rw [← hq, beq_iff_eq, ByteArray.toList_eq, ByteArray.toList_eq]
        constructor
        · intro h
          have : s.data = x.data := Array.toList_inj.1 h
          cases s; cases x; cases this; rfl
        · intro h; rw [h]
      have HQ := hidp hqx
      clear hx hqx
      cases q
      · go_wp2_with fail
        go_roundw
        case rel => exact ⟨k + 1, by omega, by go_num, fun j hj => by
          rcases Nat.lt_or_ge j k with h | h
          · exact HNO.out j h
          · obtain rfl : j = k := by omega
            rw [HX.out]; intro h; exact absurd (HQ.out.2 (Option.some.inj h)) (by simp), by trivial⟩
        case measure => simp [intOf]; omega
      · have HR : Hid (indexB l s = k) := by
          rcases indexB_get l s with ⟨h1, _⟩ | ⟨i, h1, h2, h3⟩
          · exact absurd (List.mem_of_getElem? HX.out) (by rw [HQ.out.1 rfl]; exact h1)
          · show _ = _
            rw [h3]
            rcases Nat.lt_trichotomy i k with h | h | h
            · exact absurd h1 (HNO.out i h)
            · rw [h]
            · exact absurd (by rw [HX.out, HQ.out.1 rfl]) (h2 k h)
        go_wp2_with fail
        go_ret
        exact ⟨by rw [HR.out]; rfl, rfl⟩
    · obtain rfl : k = n := by omega
      have HR : Hid (indexB l s = -1) := by
        rcases indexB_get l s with ⟨_, h2⟩ | ⟨i, h1, h2, h3⟩
        · exact h2
        · exact absurd h1 (HNO.out i (by have := (List.getElem?_eq_some_iff.1 h1).1; have := HN.out; omega))
      have hkk : ¬ (k : Int) < k := by omega
      go_wp2_with fail
      go_ret
      exact ⟨by rw [HR.out]; rfl, rfl⟩
set_option maxRecDepth 100000 in
set_option maxHeartbeats 1000000 in
theorem indexN_any (A : Option Addr) (n c : Nat) (l : List Int) (s : Int) (w : World) (hl : iSl w w.heap.size A n c l) :
    Calls Tryz.prog 59 #[.slice A n c, .int .i64 s] w fun e w' => e = .returned (.int .i64 (indexB l s)) ∧ w = w' := by
  have HL := hidp hl
  have HN := hidp hl.1
  have hcap := hl.2.2.1
  have hnc := hl.2.1
  clear hl
  go_enter Tryz.func59, Tryz.ntmps59
  go_wp2_with fail
  go_loopw [8] (fun i wr => ∃ k : Nat, k ≤ n ∧ i = .int .i64 k ∧ (∀ j, j < k → l[j]? ≠ some s) ∧ w = wr) (fun i _ => n - (intOf i).toNat)
  case atStart => exact ⟨0, by omega, rfl, fun j h => by omega, rfl⟩
  case round =>
    obtain ⟨k, hk, rfl, hno, rfl⟩ := hrel
    have HNO := hidp hno
    clear hno
    by_cases hkn : k < n
    · obtain ⟨b, off, x, rfl, hb, hx, c1⟩ := iSl.get HL.out hkn
      have hkn' : (k : Int) < n := by omega
      have HX := hidp hx
      obtain ⟨q, hq⟩ : ∃ q, (s == x) = q := ⟨_, rfl⟩
      have HQ : Hid (q = true ↔ x = s) := by
        show _ ↔ _
        rw [← hq, beq_iff_eq]
        exact eq_comm
      clear hx
      cases q
      · go_wp2_with fail
        go_roundw
        case rel => exact ⟨k + 1, by omega, by go_num, fun j hj => by
          rcases Nat.lt_or_ge j k with h | h
          · exact HNO.out j h
          · obtain rfl : j = k := by omega
            rw [HX.out]; intro h; exact absurd (HQ.out.2 (Option.some.inj h)) (by simp), by trivial⟩
        case measure => simp [intOf]; omega
      · have HR : Hid (indexB l s = k) := by
          rcases indexB_get l s with ⟨h1, _⟩ | ⟨i, h1, h2, h3⟩
          · exact absurd (List.mem_of_getElem? HX.out) (by rw [HQ.out.1 rfl]; exact h1)
          · show _ = _
            rw [h3]
            rcases Nat.lt_trichotomy i k with h | h | h
            · exact absurd h1 (HNO.out i h)
            · rw [h]
            · exact absurd (by rw [HX.out, HQ.out.1 rfl]) (h2 k h)
        go_wp2_with fail
        go_ret
        exact ⟨by rw [HR.out]; rfl, rfl⟩
    · obtain rfl : k = n := by omega
      have HR : Hid (indexB l s = -1) := by
        rcases indexB_get l s with ⟨_, h2⟩ | ⟨i, h1, h2, h3⟩
        · exact h2
        · exact absurd h1 (HNO.out i (by have := (List.getElem?_eq_some_iff.1 h1).1; have := HN.out; omega))
      have hkk : ¬ (k : Int) < k := by omega
      go_wp2_with fail
      go_ret
      exact ⟨by rw [HR.out]; rfl, rfl⟩
end Go.Proofs.YtbegdcjofnfkiaaGreatDoor
