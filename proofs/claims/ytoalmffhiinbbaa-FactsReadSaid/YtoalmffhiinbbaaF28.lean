/- slices.Collect, slices.SortFunc, slices.SortedFunc at keys. -/
import Derived.Test.YtoalmffhiinbbaaF27
import Derived.Test.YtoalmffhiinbbaaSortRow
import Derived.Test.YtoalmffhiinbbaaShelf
namespace Go.Proofs.Ytoalmffhiinbbaa
open Go.RowKit Go.Shelf Go.Sort

set_option maxHeartbeats 400000 in
theorem collectK_any (gf : Nat) (lb : Array Value) (eg : ∀ args w, (callFunc gf args).run Try.prog w = .ok (.enter gf args) w) (R : List Ky → Prop) (S : Nat → Prop) (w : World)
    (hseq : SeqG Try.prog gf lb (fun x : Ky => #[.agg #[.int .i64 x.kind, .int .i64 x.subj, .int .i64 x.obj]]) R S w) (hS : ∀ b, S b → b < w.heap.size) (hR : ∀ xs, R xs → xs.length ≤ 1000000) :
    Calls Try.prog 54 #[.func (.func gf) #[] lb] w (AppKPost R w) := by
  go_enter Try.func54, Try.ntmps54
  go_wp2_with fail
  refine (appSeqK_any gf lb eg R S w hseq hS hR).mono ?_
  rintro e w1 ⟨v, xs, rfl, h1, h2, h3⟩
  go_wp2_with fail
  go_ret
  exact ⟨v, xs, rfl, h1, h2, h3⟩

set_option maxRecDepth 100000 in
set_option maxHeartbeats 1000000 in
theorem lenK0 (w : World) : Calls Try.prog 61 #[.int .u64 0] w fun e w' => e = .returned (.int .i64 0) ∧ w = w' := by
  go_enter Try.func61, Try.ntmps61
  go_wp2
  go_ret
  exact ⟨ret_int (by kernel_rfl), rfl⟩
set_option maxRecDepth 100000 in
set_option maxHeartbeats 1000000 in
theorem insK_nil (p : Option Addr) (cap : Nat) (fv : Value) (w : World) : Calls Try.prog 62 #[.slice p 0 cap, .int .i64 0, .int .i64 0, fv] w fun e w' => e = .returned (.tuple #[]) ∧ w = w' := by
  go_enter Try.func62, Try.ntmps62
  go_wp2_with fail
  go_loopw [8, 9] (fun i _ wr => i = .int .i64 1 ∧ w = wr) (fun _ _ _ => 0)
  case atStart => exact ⟨rfl, rfl⟩
  case round =>
    obtain ⟨rfl, rfl⟩ := hrel
    go_wp2_with fail
    go_end0
    exact ⟨rfl, rfl⟩
set_option maxRecDepth 100000 in
set_option maxHeartbeats 1000000 in
theorem pdqK_nil (p : Option Addr) (cap : Nat) (fv : Value) (w : World) : Calls Try.prog 60 #[.slice p 0 cap, .int .i64 0, .int .i64 0, .int .i64 0, fv] w fun e w' => e = .returned (.tuple #[]) ∧ w = w' := by
  go_enter Try.func60, Try.ntmps60
  go_wp2_with fail
  refine wp_loop_rounds 1 ?_
  rw [rounds_succ]
  go_wp2_with (go_at_call 62; refine (insK_nil p cap fv _).mono ?_; rintro e w1 ⟨rfl, rfl⟩)
  refine bodyPost_ret (results_none rfl _ _ _) rfl ?_
  exact ⟨rfl, rfl⟩
set_option maxRecDepth 100000 in
set_option maxHeartbeats 1000000 in
theorem sortK_nil (p : Option Addr) (cap : Nat) (fv : Value) (w : World) : Calls Try.prog 55 #[.slice p 0 cap, fv] w fun e w' => e = .returned (.tuple #[]) ∧ w = w' := by
  go_enter Try.func55, Try.ntmps55
  go_wp2_with fail
  refine (lenK0 _).mono ?_
  rintro e w1 ⟨rfl, rfl⟩
  go_wp2_with fail
  refine (pdqK_nil _ _ _ _).mono ?_
  rintro e w1 ⟨rfl, rfl⟩
  go_wp2_with fail
  go_end0
  exact ⟨rfl, rfl⟩

theorem Ky.lt_irrefl (a : Ky) : a.lt a = false := by simp [Ky.lt]
theorem Ky.lt_iff (a b : Ky) : a.lt b = true ↔ a.kind < b.kind ∨ (a.kind = b.kind ∧ (a.subj < b.subj ∨ (a.subj = b.subj ∧ a.obj < b.obj))) := by simp [Ky.lt]
theorem Ky.lt_trans {a b c : Ky} (h1 : a.lt b = true) (h2 : b.lt c = true) : a.lt c = true := by
  rw [Ky.lt_iff] at *; omega
theorem Ky.lt_tri (a b : Ky) : a.lt b = true ∨ a = b ∨ b.lt a = true := by
  rw [Ky.lt_iff, Ky.lt_iff]
  rcases Int.lt_trichotomy a.kind b.kind with h | h | h
  · exact .inl (.inl h)
  · rcases Int.lt_trichotomy a.subj b.subj with h' | h' | h'
    · exact .inl (.inr ⟨h, .inl h'⟩)
    · rcases Int.lt_trichotomy a.obj b.obj with h'' | h'' | h''
      · exact .inl (.inr ⟨h, .inr ⟨h', h''⟩⟩)
      · exact .inr (.inl (Ky.ext' h h' h''))
      · exact .inr (.inr (.inr ⟨h.symm, .inr ⟨h'.symm, h''⟩⟩))
    · exact .inr (.inr (.inr ⟨h.symm, .inl h'⟩))
  · exact .inr (.inr (.inl h))
theorem ltOfK (a b : Ky) : ltOf cmpK a b = a.lt b := by
  rw [Bool.eq_iff_iff, ← cmpK_lt]
  simp [ltOf]
theorem swoK : SWO (ltOf cmpK) := by
  refine ⟨fun x => by rw [ltOfK]; exact Ky.lt_irrefl x, fun x y z => ?_, fun x y z => ?_⟩
  · rw [ltOfK, ltOfK, ltOfK]; exact Ky.lt_trans
  · rw [ltOfK, ltOfK, ltOfK]
    intro h1 h2
    rcases h : x.lt z with _ | _
    · rfl
    · rcases Ky.lt_tri x y with h3 | rfl | h3
      · rw [h3] at h1; cases h1
      · rw [h] at h2; cases h2
      · rw [Ky.lt_trans h3 h] at h2; cases h2
theorem aggK (w : World) : (isAgg 24).run Try.prog w = .ok true w := by
  simp [isAgg, run_underlying Try.underlying24]
theorem sizeK (w : World) : (Go.sizeOf 24).run Try.prog w = .ok 3 w := by
  obtain ⟨i0, hi, _, hs, _⟩ := info_parts kInfo
  simp [Go.sizeOf, typeInfo, hi, hs]
theorem sortK_own (base n : Nat) (v : Value) (l : List Ky) (w : World) (hown : w.ownsRow base 24 3 v n (l.flatMap kEnc)) (hn : n < 4611686018427387904) :
    Calls Try.prog 55 #[v, .func (.func 42) #[] #[]] w fun e w' => e = .returned (.tuple #[]) ∧ ∃ d : List Ky, d.Perm l ∧ d.Pairwise (fun x y => ¬ cmpK y x < 0) ∧ w'.ownsRow base 24 3 v n (d.flatMap kEnc) ∧ Below base w w' := by
  have hlen := own_len kEnc_len (by decide) hown
  rcases hown.2 with ⟨rfl, rfl⟩ | ⟨G, cap, _, rfl, _⟩
  · have hl : l = [] := List.eq_nil_of_length_eq_zero hlen.symm
    subst hl
    exact (sortK_nil _ _ _ _).mono fun e w' ⟨he, hb⟩ => by subst hb; exact ⟨he, [], List.Perm.nil, List.Pairwise.nil, World.ownsRow_nil _ _ _ _, Below.refl _ _⟩
  · exact sortFunc_own (ρ := Try.sortK_ren) Try.sortK aggK sizeK kEnc_len kEnc_one cmpK swoK 42 #[] (enters_of Try.func42 (by kernel_rfl) rfl) l hown (by decide) (fun W x y => (fcmpKeys_any x y W).mono fun e w' ⟨he, hb⟩ => ⟨he, hb.grown⟩) hn

def SortedK (d : List Ky) : Prop := d.Pairwise fun x y => y.lt x = false
def SortedKPost (R : List Ky → Prop) (w : World) (e : Ending) (w' : World) : Prop := ∃ (v : Value) (xs d : List Ky), e = .returned v ∧ R xs ∧ d.Perm xs ∧ SortedK d ∧ w'.ownsRow w.heap.size 24 3 v d.length (d.flatMap kEnc) ∧ Below w.heap.size w w'
set_option maxHeartbeats 400000 in
theorem sortedK_any (gf : Nat) (lb : Array Value) (eg : ∀ args w, (callFunc gf args).run Try.prog w = .ok (.enter gf args) w) (R : List Ky → Prop) (S : Nat → Prop) (w : World)
    (hseq : SeqG Try.prog gf lb (fun x : Ky => #[.agg #[.int .i64 x.kind, .int .i64 x.subj, .int .i64 x.obj]]) R S w) (hS : ∀ b, S b → b < w.heap.size) (hR : ∀ xs, R xs → xs.length ≤ 1000000) :
    Calls Try.prog 40 #[.func (.func gf) #[] lb, .func (.func 42) #[] #[]] w (SortedKPost R w) := by
  go_enter Try.func40, Try.ntmps40
  go_wp2_with fail
  refine (collectK_any gf lb eg R S w hseq hS hR).mono ?_
  rintro e w1 ⟨v, xs, rfl, h1, h2, h3⟩
  have H1 := hidp h1
  have H2 := hidp h2
  have hx := hR xs h1
  clear h1 h2
  go_wp2_with fail
  refine (sortK_own _ _ v xs _ H2.out (by omega)).mono ?_
  rintro e w2 ⟨rfl, d, hp, hs, ho, hb⟩
  have HP := hidp hp
  have HS : Hid (SortedK d) := hs.imp fun {x y} h => by
    rcases hl : y.lt x with _ | _
    · rfl
    · exact absurd ((cmpK_lt y x).2 hl) h
  have HO := hidp ho
  clear hp hs ho
  go_wp2_with fail
  go_ret
  exact ⟨v, xs, d, rfl, H1.out, HP.out, HS.out, by rw [HP.out.length_eq]; exact HO.out, h3.trans hb⟩

/-- The keys of facts, each once, in the order in which they come first. -/
def addKeys (l : List Fc) : List Ky := l.foldl (fun ks f => addKey ks f.key) []
theorem addKeys_step {l : List Fc} {n : Nat} {x : Fc} (h : l[n]? = some x) : addKeys (l.take (n + 1)) = addKey (addKeys (l.take n)) x.key := by
  rw [addKeys, take_snoc h, List.foldl_append]; rfl
theorem addKey_mem (ks : List Ky) (a k : Ky) : k ∈ addKey ks a ↔ k ∈ ks ∨ k = a := by
  unfold addKey
  split
  · rename_i h
    constructor
    · exact .inl
    · rintro (h' | rfl)
      · exact h'
      · exact h
  · simp
theorem addKeys_len (l : List Fc) : (addKeys l).length ≤ l.length := by
  have : ∀ (l : List Fc) (a : List Ky), (l.foldl (fun ks f => addKey ks f.key) a).length ≤ a.length + l.length := by
    intro l
    induction l with
    | nil => simp
    | cons x l ih =>
      intro a
      have h1 := ih (addKey a x.key)
      have h2 : (addKey a x.key).length ≤ a.length + 1 := by unfold addKey; split <;> simp
      simp only [List.foldl_cons, List.length_cons]
      omega
  have := this l []
  simpa [addKeys] using this
theorem addKeys_mem (l : List Fc) (k : Ky) : k ∈ addKeys l ↔ ∃ f ∈ l, f.key = k := by
  have : ∀ (l : List Fc) (a : List Ky), k ∈ l.foldl (fun ks f => addKey ks f.key) a ↔ k ∈ a ∨ ∃ f ∈ l, f.key = k := by
    intro l
    induction l with
    | nil => simp
    | cons x l ih =>
      intro a
      simp only [List.foldl_cons, ih, addKey_mem, List.mem_cons, exists_eq_or_imp]
      constructor
      · rintro ((h | rfl) | h)
        · exact .inl h
        · exact .inr (.inl rfl)
        · exact .inr (.inr h)
      · rintro (h | h | h)
        · exact .inl (.inl h)
        · exact .inl (.inr h.symm)
        · exact .inr h
  simpa [addKeys] using this l []
theorem addKeys_nodup (l : List Fc) : (addKeys l).Nodup := by
  have : ∀ (l : List Fc) (a : List Ky), a.Nodup → (l.foldl (fun ks f => addKey ks f.key) a).Nodup := by
    intro l
    induction l with
    | nil => intro a h; exact h
    | cons x l ih =>
      intro a h
      refine ih _ ?_
      show (addKey a x.key).Nodup
      unfold addKey
      split
      · exact h
      · rename_i hn
        rw [List.nodup_append]
        refine ⟨h, by simp, fun y hy z hz => ?_⟩
        simp at hz
        subst hz
        rintro rfl
        exact hn hy
  exact this l [] List.nodup_nil
theorem insK_mem (k : Ky) : ∀ (ks : List Ky) (x : Ky), x ∈ insK k ks ↔ x = k ∨ x ∈ ks
  | [], x => by simp [insK]
  | y :: l, x => by
    unfold insK
    split
    · rw [List.mem_cons, insK_mem k l x, List.mem_cons]
      constructor
      · rintro (h | h | h)
        · exact .inr (.inl h)
        · exact .inl h
        · exact .inr (.inr h)
      · rintro (h | h | h)
        · exact .inr (.inl h)
        · exact .inl h
        · exact .inr (.inr h)
    · split
      · rename_i _ h
        subst h
        simp
      · simp
theorem insK_sorted (k : Ky) : ∀ (ks : List Ky), ks.Pairwise (fun x y => x.lt y = true) → (insK k ks).Pairwise (fun x y => x.lt y = true)
  | [], _ => by simp [insK]
  | y :: l, h => by
    obtain ⟨h1, h2⟩ := List.pairwise_cons.1 h
    unfold insK
    split
    · rename_i hyk
      refine List.pairwise_cons.2 ⟨fun z hz => ?_, insK_sorted k l h2⟩
      rcases (insK_mem k l z).1 hz with rfl | hz
      · exact hyk
      · exact h1 z hz
    · rename_i hyk
      split
      · exact h
      · rename_i hne
        have hky : k.lt y = true := by
          rcases Ky.lt_tri k y with h' | h' | h'
          · exact h'
          · exact absurd h'.symm hne
          · exact absurd h' hyk
        refine List.pairwise_cons.2 ⟨fun z hz => ?_, h⟩
        rcases List.mem_cons.1 hz with rfl | hz
        · exact hky
        · exact Ky.lt_trans hky (h1 z hz)
theorem keysF_mem (l : List Fc) (k : Ky) : k ∈ keysF l ↔ ∃ f ∈ l, f.key = k := by
  have : ∀ (l : List Fc) (a : List Ky), k ∈ l.foldl (fun ks f => insK f.key ks) a ↔ k ∈ a ∨ ∃ f ∈ l, f.key = k := by
    intro l
    induction l with
    | nil => simp
    | cons x l ih =>
      intro a
      simp only [List.foldl_cons, ih, insK_mem, List.mem_cons, exists_eq_or_imp]
      constructor
      · rintro ((rfl | h) | h)
        · exact .inr (.inl rfl)
        · exact .inl h
        · exact .inr (.inr h)
      · rintro (h | h | h)
        · exact .inl (.inr h)
        · exact .inl (.inl h.symm)
        · exact .inr h
  simpa [keysF] using this l []
theorem keysF_sorted (l : List Fc) : (keysF l).Pairwise (fun x y => x.lt y = true) := by
  have : ∀ (l : List Fc) (a : List Ky), a.Pairwise (fun x y => x.lt y = true) → (l.foldl (fun ks f => insK f.key ks) a).Pairwise (fun x y => x.lt y = true) := by
    intro l
    induction l with
    | nil => intro a h; exact h
    | cons x l ih => intro a h; exact ih _ (insK_sorted _ _ h)
  exact this l [] List.Pairwise.nil
theorem lt_asymm {a b : Ky} (h : a.lt b = true) : b.lt a = false := by
  rcases hb : b.lt a with _ | _
  · rfl
  · have := Ky.lt_trans h hb
    rw [Ky.lt_irrefl] at this; cases this
theorem sorted_keys {l : List Fc} {xs d : List Ky} (h1 : xs.Perm (addKeys l)) (h2 : d.Perm xs) (h3 : SortedK d) : d = keysF l := by
  have hk := keysF_sorted l
  have hn : (keysF l).Nodup := hk.imp fun {a b} h => by rintro rfl; rw [Ky.lt_irrefl] at h; cases h
  have hp : d.Perm (keysF l) := h2.trans (h1.trans ((List.perm_ext_iff_of_nodup (addKeys_nodup l) hn).2 fun k => by rw [addKeys_mem, keysF_mem]))
  refine List.Perm.eq_of_pairwise (le := fun x y => y.lt x = false) (fun a b _ _ h1 h2 => ?_) (show d.Pairwise (fun x y => y.lt x = false) from h3) (hk.imp fun {a b} h => lt_asymm h) hp
  rcases Ky.lt_tri a b with h | h | h
  · rw [h] at h2; cases h2
  · exact h
  · rw [h] at h1; cases h1
end Go.Proofs.Ytoalmffhiinbbaa
