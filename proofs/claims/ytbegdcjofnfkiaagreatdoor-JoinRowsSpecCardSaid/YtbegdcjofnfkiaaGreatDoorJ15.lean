/- slices.Compare at integers. -/
import Derived.Test.YtbegdcjofnfkiaaGreatDoorJ14
namespace Go.Proofs.YtbegdcjofnfkiaaGreatDoor
open Go.RowKit Go.Shelf Go.Sort

def cmpL : List Int → List Int → Int
  | [], [] => 0
  | [], _ :: _ => -1
  | _ :: _, [] => 1
  | a :: l, b :: m => if cmpI a b = 0 then cmpL l m else cmpI a b
theorem cmpL_lex : ∀ x y, decide (cmpL x y < 0) = lexJ x y
  | [], [] => rfl
  | [], _ :: _ => rfl
  | _ :: _, [] => rfl
  | a :: l, b :: m => by
    have ih := cmpL_lex l m
    unfold cmpL lexJ
    rw [← ih]
    unfold cmpI
    rcases Int.lt_trichotomy a b with h | h | h
    · simp [h]
    · subst h; simp
    · have h1 : ¬ a < b := by omega
      have h2 : ¬ a = b := by omega
      simp [h, h1, h2]
theorem cmpL_drop {x y : List Int} : ∀ k, k ≤ x.length → k ≤ y.length → (∀ j, j < k → x[j]? = y[j]?) → cmpL x y = cmpL (x.drop k) (y.drop k) := by
  induction x generalizing y with
  | nil =>
    intro k h _ _
    obtain rfl : k = 0 := by simpa using h
    simp
  | cons a x ih =>
    intro k h1 h2 h3
    cases k with
    | zero => rfl
    | succ k =>
      cases y with
      | nil => simp at h2
      | cons b y =>
        have h0 := h3 0 (by omega)
        obtain rfl : a = b := by simpa using h0
        show (if cmpI a a = 0 then cmpL x y else cmpI a a) = cmpL (x.drop k) (y.drop k)
        rw [if_pos (by simp [cmpI])]
        exact ih k (by simpa using h1) (by simpa using h2) fun j hj => by have := h3 (j + 1) (by omega); simpa using this
set_option maxRecDepth 100000 in
set_option maxHeartbeats 2000000 in
theorem cmpInts_any (A B : Option Addr) (n m c1 c2 : Nat) (x y : List Int) (w : World) (hx : iSl w w.heap.size A n c1 x) (hy : iSl w w.heap.size B m c2 y) :
    Calls Tryz.prog 34 #[.slice A n c1, .slice B m c2] w fun e w' => e = .returned (.int .i64 (cmpL x y)) ∧ w = w' := by
  have HX := hidp hx
  have HY := hidp hy
  have hxc := hx.2.1
  have hxc2 := hx.2.2.1
  have hyc := hy.2.1
  have hyc2 := hy.2.2.1
  have HNx := hidp hx.1
  have HNy := hidp hy.1
  clear hx hy
  go_enter Tryz.func34, Tryz.ntmps34
  go_wp2_with fail
  go_loopw [11] (fun i wr => ∃ k : Nat, k ≤ n ∧ k ≤ m ∧ i = .int .i64 k ∧ w = wr ∧ ∀ j, j < k → x[j]? = y[j]?) (fun i _ => n - (intOf i).toNat)
  case atStart => exact ⟨0, by omega, by omega, rfl, rfl, fun j h => by omega⟩
  case round =>
    obtain ⟨k, hk, hkm, rfl, rfl, hok⟩ := hrel
    have HOK := hidp hok
    clear hok
    by_cases hkn : k < n
    · have hkn' : (k : Int) < n := by omega
      obtain ⟨b, off, a, cs, hA, hb, hs, hr, hc⟩ := Rows.get HX.out hkn
      obtain rfl := hr
      have c0 := hc 0 _ rfl
      rw [Nat.add_zero, Nat.mul_one] at c0
      have lb := lt_of_cell c0
      have hix := ix_Ints (c := c1) hA hkn
      have HS := hidp hs
      clear hs hA hc hb
      by_cases hm : k < m
      · have hge : ¬ ((k : Int) ≥ m) := by omega
        obtain ⟨b2, off2, a2, cs2, hA2, hb2, hs2, hr2, hc2⟩ := Rows.get HY.out hm
        obtain rfl := hr2
        have d0 := hc2 0 _ rfl
        rw [Nat.add_zero, Nat.mul_one] at d0
        have lb2 := lt_of_cell d0
        have hix2 := ix_Ints (c := c2) hA2 hm
        have HS2 := hidp hs2
        clear hs2 hA2 hc2 hb2
        go_wp2_with fail
        refine (cmp_any a a2 _).mono ?_
        rintro e w7 ⟨rfl, rfl⟩
        have HD : Hid (cmpL x y = if cmpI a a2 = 0 then cmpL (x.drop (k + 1)) (y.drop (k + 1)) else cmpI a a2) := by
          show _ = _
          rw [cmpL_drop k (by have := HNx.out; omega) (by have := HNy.out; omega) HOK.out, drop_cons HS.out, drop_cons HS2.out]
          rfl
        obtain ⟨z, hz⟩ : ∃ z, cmpI a a2 = z := ⟨_, rfl⟩
        rw [hz]
        have HZ := hidp hz
        by_cases hz0 : z = 0
        · subst hz0
          have hne : ((0 : Int) != 0) = false := rfl
          have haa : Hid (a = a2) := by
            have := HZ.out
            show _ = _
            unfold cmpI at this
            rcases Int.lt_trichotomy a a2 with h | h | h
            · simp [h] at this
            · exact h
            · have h1 : ¬ a < a2 := by omega
              simp [h, h1] at this
          clear hz c0 d0 lb lb2 hix hix2
          go_wp2_with fail
          refine ⟨⟨k + 1, by omega, by omega, by go_num, trivial, fun j hj => ?_⟩, by simp [intOf]; omega⟩
          rcases Nat.lt_or_ge j k with h | h
          · exact HOK.out j h
          · obtain rfl : j = k := by omega
            rw [HS.out, HS2.out, haa.out]
        · have hne : (z != 0) = true := by simpa using hz0
          have HR : Hid (cmpL x y = z) := by show _ = _; rw [HD.out, HZ.out, if_neg hz0]
          clear hz c0 d0 lb lb2 hix hix2
          go_wp2_with fail
          go_ret
          exact ⟨by rw [HR.out]; rfl, rfl⟩
      · obtain rfl : k = m := by omega
        have hge : ((k : Int) ≥ k) := by omega
        have HR : Hid (cmpL x y = 1) := by
          show _ = _
          have h0 : y.drop k = [] := List.drop_of_length_le (by have := HNy.out; omega)
          rw [cmpL_drop k (by have := HNx.out; omega) (by have := HNy.out; omega) HOK.out, drop_cons HS.out, h0]
          rfl
        go_wp2_with fail
        go_ret
        exact ⟨by rw [HR.out]; rfl, rfl⟩
    · obtain rfl : k = n := by omega
      have hkk : ¬ ((k : Int) < k) := by omega
      have h0 : Hid (x.drop k = []) := List.drop_of_length_le (by have := HNx.out; omega)
      by_cases hm : k < m
      · have hm' : (k : Int) < m := by omega
        have HR : Hid (cmpL x y = -1) := by
          show _ = _
          have h1 : y.drop k ≠ [] := fun h => by have := congrArg List.length h; simp at this; have := HNy.out; omega
          rw [cmpL_drop k (by have := HNx.out; omega) (by have := HNy.out; omega) HOK.out, h0.out]
          cases hy : y.drop k with
          | nil => exact absurd hy h1
          | cons b t => rfl
        go_wp2_with fail
        go_ret
        exact ⟨by rw [HR.out]; rfl, rfl⟩
      · obtain rfl : k = m := by omega
        have HR : Hid (cmpL x y = 0) := by
          show _ = _
          have h1 : y.drop k = [] := List.drop_of_length_le (by have := HNy.out; omega)
          rw [cmpL_drop k (by have := HNx.out; omega) (by have := HNy.out; omega) HOK.out, h0.out, h1]
          rfl
        go_wp2_with fail
        go_ret
        exact ⟨by rw [HR.out]; rfl, rfl⟩
end Go.Proofs.YtbegdcjofnfkiaaGreatDoor
