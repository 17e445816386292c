import Derived.Test.YtefjigjjanjlkaaT6
namespace Go.Proofs.Ytefjigjjanjlkaa
open Go.RowKit Go.Shelf

def Mt.mins (m : Mt) : Int := (m.to - m.fr) * (m.last - m.first + 1)
def minsM (l : List Mt) : Int := (l.map Mt.mins).sum
theorem sum_snoc (l : List Mt) (m : Mt) : minsM (l ++ [m]) = minsM l + m.mins := by simp [minsM]
theorem Mt.ok_iff (m : Mt) : m.ok = true ↔ 0 ≤ m.day ∧ m.day < 7 ∧ 0 ≤ m.fr ∧ m.fr < m.to ∧ m.to ≤ 1440 ∧ 0 ≤ m.first ∧ m.first ≤ m.last ∧ m.last < 60 := by
  simp [Mt.ok, and_assoc]
theorem Mt.mins_bd (m : Mt) (h : m.ok = true) : 0 ≤ (m.to - m.fr) * (m.last - m.first + 1) ∧ (m.to - m.fr) * (m.last - m.first + 1) ≤ 86400 := by
  obtain ⟨_, _, h1, h2, h3, h4, h5, h6⟩ := m.ok_iff.1 h
  refine ⟨Int.mul_nonneg (by omega) (by omega), ?_⟩
  have := Int.mul_le_mul (a := m.to - m.fr) (b := m.last - m.first + 1) (c := 1440) (d := 60) (by omega) (by omega) (by omega) (by omega)
  omega
theorem minsM_bd (l : List Mt) (h : l.all Mt.ok = true) : 0 ≤ minsM l ∧ minsM l ≤ 86400 * l.length := by
  induction l with
  | nil => simp [minsM]
  | cons m l ih =>
    simp only [List.all_cons, Bool.and_eq_true] at h
    have h1 := m.mins_bd h.1
    have h2 := ih h.2
    simp only [minsM, List.map_cons, List.sum_cons, List.length_cons, Mt.mins] at *
    omega
theorem checkM_cases (l : List Mt) : checkM l = 220 ∨ (checkM l = 0 ∧ l.length ≤ 16 ∧ l.all Mt.ok = true ∧ (pairsTo l l.length).any Mt.ovP = false) := by
  unfold checkM
  split
  · exact .inl rfl
  · rename_i h
    simp only [not_or, Bool.not_eq_false, Bool.not_eq_true, Nat.not_lt] at h
    exact .inr ⟨rfl, h.1, h.2.1, h.2.2⟩
theorem rcheckM_cases (l : List Mt) : rcheckM l = 220 ∨ (rcheckM l = 0 ∧ l.length ≤ 16 ∧ l.all Mt.ok = true) := by
  unfold rcheckM
  split
  · exact .inl rfl
  · rename_i h
    simp only [not_or, Bool.not_eq_true, Nat.not_lt] at h
    refine .inr ⟨rfl, h.1, ?_⟩
    rw [List.all_eq_true]
    intro m hm
    obtain ⟨i, hi, rfl⟩ := List.mem_iff_getElem.1 hm
    have := h.2
    unfold rcheckTo at this
    rw [List.any_eq_false] at this
    have := this i (List.mem_range.2 hi)
    rw [List.getElem?_eq_getElem hi] at this
    simp at this
    exact this.1

set_option maxRecDepth 100000 in
set_option maxHeartbeats 2000000 in
theorem minutes_any (A : Option Addr) (n c : Nat) (l : List Mt) (w : World) (hl : MSl w w.heap.size A n c l) :
    Calls Try.prog 11 #[.slice A n c] w fun e w' => e = .returned (.tuple #[.int .i64 (if checkM l = 0 then minsM l else 0), .int .i64 (checkM l)]) ∧ Below w.heap.size w w' := by
  have HN := hidp hl.1
  have hcap := hl.2.2.1
  have hlen := hl.2.1
  rcases checkM_cases l with hc | ⟨hc, h16, hall, _⟩
  · have HC := hidp hc
    clear hc
    rw [HC.out]
    go_enter Try.func11, Try.ntmps11
    go_wp2_with (go_at_call 17; refine (check_any A n c l w hl).mono ?_; rintro e w1 ⟨rfl, hb1⟩; rw [HC.out])
    go_ret2
    exact ⟨rfl, hb1⟩
  · have HC := hidp hc
    have H16 := hidp h16
    have HA := hidp hall
    clear hc h16 hall
    rw [HC.out]
    go_enter Try.func11, Try.ntmps11
    go_wp2_with (go_at_call 17; refine (check_any A n c l w hl).mono ?_; rintro e w1 ⟨rfl, hb1⟩; rw [HC.out])
    go_loopw [2, 6, 14] (fun s _ i wr => ∃ k : Nat, k ≤ n ∧ i = .int .i64 k ∧ s = .int .i64 (minsM (l.take k)) ∧ Below w.heap.size w wr) (fun _ _ i _ => n - (intOf i).toNat)
    case atStart => exact ⟨0, by omega, rfl, rfl, hb1⟩
    case round =>
      obtain ⟨k, hk, rfl, rfl, hbe⟩ := hrel
      have hn16 : n ≤ 16 := by have := HN.out; have := H16.out; omega
      by_cases hlt : k < n
      · obtain ⟨b, off, m, rfl, hb, hzk, c0, c1, c2, c3, c4⟩ := MSl.get (hl.below mStable hbe) hlt
        have hmem := List.mem_of_getElem? hzk
        have hok := (List.all_eq_true.1 HA.out) m hmem
        obtain ⟨_, _, o1, o2, o3, o4, o5, o6⟩ := m.ok_iff.1 hok
        obtain ⟨p1, p2⟩ := m.mins_bd hok
        have hs := minsM_bd (l.take k) (by rw [List.all_eq_true]; exact fun x hx => (List.all_eq_true.1 HA.out) x (List.mem_of_mem_take hx))
        have hsl : ((l.take k).length : Int) ≤ 16 := by have := List.length_take_le k l; omega
        obtain ⟨s1, s2⟩ := hs
        have s3 : minsM (l.take k) ≤ 2000000 := by omega
        have HZ := hidp hzk
        clear hzk hmem hok s2 hsl
        have hby : Below w.heap.size w (wr.alloc (.cells #[.int .i64 m.day, .int .i64 m.fr, .int .i64 m.to, .int .i64 m.first, .int .i64 m.last] 38)) := hbe.alloc hbe.size _
        go_wp2
        go_roundw
        case rel => exact ⟨k + 1, by omega, by go_num, by rw [take_snoc HZ.out, sum_snoc]; rfl, hby⟩
        case measure => simp [intOf]; omega
      · obtain rfl : k = n := by omega
        go_wp2
        go_ret2
        rw [List.take_of_length_le (by rw [← HN.out]; omega)]
        exact ⟨rfl, hbe⟩
end Go.Proofs.Ytefjigjjanjlkaa
