import Derived.Test.YtefjigjjanjlkaaT7
namespace Go.Proofs.Ytefjigjjanjlkaa
open Go.RowKit Go.Shelf

def firstM (p : Mt → Bool) (l : List Mt) : Int := match l.findIdx? p with | some i => i | none => -1

set_option maxRecDepth 100000 in
set_option maxHeartbeats 2000000 in
theorem indexFunc_any (g : FuncId) (fs cs : Array Value) (p : Mt → Bool) (A : Option Addr) (n c : Nat) (l : List Mt) (w : World) (hl : MSl w w.heap.size A n c l)
    (eg : ∀ args w, (callFunc g args).run Try.prog w = .ok (.enter g args) w)
    (hp : ∀ (m : Mt) (W : World), Below w.heap.size w W → Calls Try.prog g (fs.push (.agg #[.int .i64 m.day, .int .i64 m.fr, .int .i64 m.to, .int .i64 m.first, .int .i64 m.last]) ++ cs) W fun e W' => e = .returned (.bool (p m)) ∧ Below W.heap.size W W') :
    Calls Try.prog 34 #[.slice A n c, .func (.func g) fs cs] w fun e w' => e = .returned (.int .i64 (firstM p l)) ∧ Below w.heap.size w w' := by
  have HN := hidp hl.1
  have hcap := hl.2.2.1
  have hlen := hl.2.1
  have HP := hidp hp
  clear hp
  go_enter Try.func34, Try.ntmps34
  go_wp2
  go_loopw [5, 8] (fun _ i wr => ∃ k : Nat, k ≤ n ∧ i = .int .i64 k ∧ (l.take k).all (fun m => !p m) = true ∧ Below w.heap.size w wr) (fun _ i _ => n - (intOf i).toNat)
  case atStart => exact ⟨0, by omega, rfl, rfl, Below.refl _ _⟩
  case round =>
    obtain ⟨k, hk, rfl, hno, hbe⟩ := hrel
    have HA := hidp hno
    clear hno
    by_cases hlt : k < n
    · obtain ⟨b, off, m, rfl, hb, hzk, c0, c1, c2, c3, c4⟩ := MSl.get (hl.below mStable hbe) hlt
      have hbb := lt_of_cell c0
      have HZ := hidp hzk
      have hc := HP.out m
      obtain ⟨bo, hbo⟩ : ∃ bo, p m = bo := ⟨_, rfl⟩
      rw [hbo] at hc
      have HC := hidp hc
      have HB := hidp hbo
      clear hzk hc hbo
      go_wp2_with fail
      refine (HC.out _ hbe).mono ?_
      rintro e w1 ⟨rfl, hb1⟩
      have hbe1 := hbe.trans (hb1.mono hbe.size)
      cases bo
      · go_wp2_with fail
        go_roundw
        case rel => exact ⟨k + 1, by omega, by go_num, by rw [take_snoc HZ.out, List.all_append, HA.out]; simp [HB.out], hbe1⟩
        case measure => simp [intOf]; omega
      · go_wp2_with fail
        go_ret
        refine ⟨ret_int ?_, hbe1⟩
        have : l.findIdx? p = some k := by
          obtain ⟨hk', hx⟩ := List.getElem?_eq_some_iff.1 HZ.out
          rw [List.findIdx?_eq_some_iff_getElem]
          refine ⟨hk', by rw [hx]; exact HB.out, fun j hj => ?_⟩
          have := List.all_eq_true.1 HA.out l[j] (List.mem_take_iff_getElem.2 ⟨j, by omega, rfl⟩)
          simpa using this
        rw [firstM, this]
    · obtain rfl : k = n := by omega
      go_wp2_with fail
      go_ret
      refine ⟨ret_int ?_, hbe⟩
      have h1 := HA.out
      rw [List.take_of_length_le (by rw [← HN.out]; omega)] at h1
      have : l.findIdx? p = none := by
        rw [List.findIdx?_eq_none_iff]
        intro x hx
        simpa using List.all_eq_true.1 h1 x hx
      rw [firstM, this]

theorem firstM_ge (p : Mt → Bool) (l : List Mt) : decide (0 ≤ firstM p l) = l.any p := by
  unfold firstM
  cases h : l.findIdx? p with
  | none =>
    rw [List.findIdx?_eq_none_iff] at h
    have : l.any p = false := by rw [List.any_eq_false]; intro x hx; simpa using h x hx
    simp [this]
  | some i =>
    obtain ⟨hi, hp, _⟩ := List.findIdx?_eq_some_iff_getElem.1 h
    have : l.any p = true := by rw [List.any_eq_true]; exact ⟨l[i], List.getElem_mem hi, hp⟩
    simp [this]

set_option maxRecDepth 100000 in
set_option maxHeartbeats 1000000 in
theorem containsFunc_any (g : FuncId) (fs cs : Array Value) (p : Mt → Bool) (A : Option Addr) (n c : Nat) (l : List Mt) (w : World) (hl : MSl w w.heap.size A n c l)
    (eg : ∀ args w, (callFunc g args).run Try.prog w = .ok (.enter g args) w)
    (hp : ∀ (m : Mt) (W : World), Below w.heap.size w W → Calls Try.prog g (fs.push (.agg #[.int .i64 m.day, .int .i64 m.fr, .int .i64 m.to, .int .i64 m.first, .int .i64 m.last]) ++ cs) W fun e W' => e = .returned (.bool (p m)) ∧ Below W.heap.size W W') :
    Calls Try.prog 28 #[.slice A n c, .func (.func g) fs cs] w fun e w' => e = .returned (.bool (l.any p)) ∧ Below w.heap.size w w' := by
  have hc := indexFunc_any g fs cs p A n c l w hl eg hp
  have HG := hidp (firstM_ge p l)
  generalize firstM p l = q at hc HG
  have HC := hidp hc
  clear hc hp eg
  go_enter Try.func28, Try.ntmps28
  go_wp2_with fail
  refine HC.out.mono ?_
  rintro e w1 ⟨rfl, hb1⟩
  go_wp2_with fail
  go_ret
  exact ⟨ret_bool HG.out, hb1⟩

def clashB (a b : List Mt) : Bool := a.any fun m => b.any fun x => Mt.ovP (m, x)
def clashE (a b : List Mt) : Int := if checkM a = 0 then checkM b else checkM a
def clashR (a b : List Mt) : Bool := decide (clashE a b = 0) && clashB a b

set_option maxRecDepth 100000 in
set_option maxHeartbeats 2000000 in
theorem clash_any (A B : Option Addr) (n m ca cb : Nat) (a b : List Mt) (w : World) (ha : MSl w w.heap.size A n ca a) (hb : MSl w w.heap.size B m cb b) :
    Calls Try.prog 16 #[.slice A n ca, .slice B m cb] w fun e w' => e = .returned (.tuple #[.bool (clashR a b), .int .i64 (clashE a b)]) ∧ Below w.heap.size w w' := by
  have HN := hidp ha.1
  have hcap := ha.2.2.1
  have hlen := ha.2.1
  rcases checkM_cases a with hc | ⟨hc, _, _, _⟩
  · have HC := hidp hc
    have HE : Hid (clashE a b = 220) := by show _ = _; rw [clashE, hc]; rfl
    have HR : Hid (clashR a b = false) := by show _ = _; rw [clashR, HE.out]; rfl
    clear hc
    rw [HE.out, HR.out]
    go_enter Try.func16, Try.ntmps16
    go_wp2_with (go_at_call 17; refine (check_any A n ca a w ha).mono ?_; rintro e w1 ⟨rfl, hb1⟩; rw [HC.out])
    go_ret2
    exact ⟨rfl, hb1⟩
  · have HC := hidp hc
    clear hc
    rcases checkM_cases b with hc | ⟨hc, _, _, _⟩
    · have HC2 := hidp hc
      have HE : Hid (clashE a b = 220) := by show _ = _; rw [clashE, HC.out, hc]; rfl
      have HR : Hid (clashR a b = false) := by show _ = _; rw [clashR, HE.out]; rfl
      clear hc
      rw [HE.out, HR.out]
      go_enter Try.func16, Try.ntmps16
      go_wp2_with fail
      refine (check_any A n ca a w ha).mono ?_
      rintro e w1 ⟨rfl, hb1⟩
      rw [HC.out]
      go_wp2_with fail
      refine (check_any B m cb b w1 (hb.keep mStable hb1.size hb1.block)).mono ?_
      rintro e w2 ⟨rfl, hb2⟩
      rw [HC2.out]
      go_wp2_with fail
      go_ret2
      exact ⟨rfl, hb1.trans (hb2.mono hb1.size)⟩
    · have HC2 := hidp hc
      have HE : Hid (clashE a b = 0) := by show _ = _; rw [clashE, HC.out, hc]; rfl
      have HR : Hid (clashR a b = clashB a b) := by show _ = _; rw [clashR, HE.out]; simp
      clear hc
      rw [HE.out, HR.out]
      go_enter Try.func16, Try.ntmps16
      go_wp2_with fail
      refine (check_any A n ca a w ha).mono ?_
      rintro e w1 ⟨rfl, hb1⟩
      rw [HC.out]
      go_wp2_with fail
      refine (check_any B m cb b w1 (hb.keep mStable hb1.size hb1.block)).mono ?_
      rintro e w2 ⟨rfl, hb2⟩
      rw [HC2.out]
      have hb12 := hb1.trans (hb2.mono hb1.size)
      go_wp2_with fail
      go_loopw [9, 22] (fun _ i wr => ∃ k : Nat, k ≤ n ∧ i = .int .i64 k ∧ ((a.take k).any fun m => b.any fun x => Mt.ovP (m, x)) = false ∧ Below w.heap.size w wr) (fun _ i _ => n - (intOf i).toNat)
      case atStart => exact ⟨0, by omega, rfl, rfl, hb12⟩
      case round =>
        obtain ⟨k, hk, rfl, hno, hbe⟩ := hrel
        have HA := hidp hno
        clear hno
        by_cases hlt : k < n
        · obtain ⟨bk, off, x, rfl, hbk, hzk, c0, c1, c2, c3, c4⟩ := MSl.get (ha.below mStable hbe) hlt
          have HZ := hidp hzk
          have hby : Below w.heap.size w (wr.alloc (.cells #[.int .i64 x.day, .int .i64 x.fr, .int .i64 x.to, .int .i64 x.first, .int .i64 x.last] 38)) := hbe.alloc hbe.size _
          obtain ⟨bo, hbo⟩ : ∃ bo, (b.any fun y => Mt.ovP (x, y)) = bo := ⟨_, rfl⟩
          have HB := hidp hbo
          clear hzk hbo
          go_wp2_with fail
          have hcf := containsFunc_any 29 #[.agg #[.int .i64 x.day, .int .i64 x.fr, .int .i64 x.to, .int .i64 x.first, .int .i64 x.last]] #[] (fun y => Mt.ovP (x, y)) B m cb b _ (hb.keep mStable hby.size hby.block)
            (enters_of Try.func29 (by kernel_rfl) rfl) (fun y W _ => overlaps_any x y W)
          refine hcf.mono ?_
          clear hcf
          rintro e w3 ⟨rfl, hb3⟩
          have hbz := hby.trans (hb3.mono hby.size)
          rw [HB.out]
          cases bo
          · go_wp2_with fail
            go_roundw
            case rel => exact ⟨k + 1, by omega, by go_num, by rw [take_snoc HZ.out, List.any_append, HA.out, List.any_cons, HB.out]; rfl, hbz⟩
            case measure => simp [intOf]; omega
          · go_wp2_with fail
            go_ret2
            have : clashB a b = true := by
              rw [clashB, List.any_eq_true]
              exact ⟨x, List.mem_of_getElem? HZ.out, HB.out⟩
            exact ⟨by rw [this]; rfl, hbz⟩
        · obtain rfl : k = n := by omega
          go_wp2_with fail
          go_ret2
          have h1 := HA.out
          rw [List.take_of_length_le (by rw [← HN.out]; omega)] at h1
          exact ⟨by rw [clashB, h1]; rfl, hbe⟩
end Go.Proofs.Ytefjigjjanjlkaa
