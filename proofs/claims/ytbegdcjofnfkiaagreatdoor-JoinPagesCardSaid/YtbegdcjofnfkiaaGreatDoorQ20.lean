/- Several texts in one: IterP A25. -/
import Derived.Test.YtbegdcjofnfkiaaGreatDoorQ9
import Derived.Test.YtbegdcjofnfkiaaGreatDoorQ15
import Derived.RangeFuncLeaves
namespace Go.Proofs.YtbegdcjofnfkiaaGreatDoor
section
open Go.RowKit
def CalmTodo : List Item → Prop
 | .call _ _ _ _ :: _ => False
 | _ => True
theorem CalmTodo.catches {todo : List Item} (h : CalmTodo todo) (P : Program) (fr : Frame) (ht : fr.todo = todo) : fr.catches P = false := by
 unfold Frame.catches
 rw [ht]
 split
 ·exact h.elim
 ·rfl
theorem step_calm_panic {P : Program} {fr c : Frame} {cs : List Frame} {w : World} {chain : List PanicEntry} (hm : fr.mode = .panicking chain) (hd : fr.defers = []) (hc : fr.catches P = false) :
  step P (lone fr (c :: cs) w) = .next (lone (c.raise chain) cs w) :=
 step_lone_go (by simp [stepG, unwind, hm, hd, hc])
def WpK (F : Fence) (n : Nat) (P : Program) (c : Code) (Q : Exit → Act → World → Prop) (a : Act) (w : World) : Prop :=
 ∀ (b : Frame) (k : List Item) (cs : List Frame), b.roundOf = F.round → F.fn b.fn → F.room (cs.length + 1 + n) →
  ∃ e a' w', Q e a' w' ∧ ArrivesIn (Machine.fenced P F) P (lone (b.atR a (.code c :: k)) cs w) b k cs e a' w' ∧
   ∀ chain, e = .panic chain → ∃ todo, CalmTodo todo ∧ StepsIn (Machine.fenced P F) P (lone (b.atR a (.code c :: k)) cs w) (lone { b.atR a' todo with mode := .panicking chain } cs w')
section
variable {F : Fence} {n : Nat} {P : Program} {Q : Exit → Act → World → Prop} {a : Act} {w : World}
theorem wpK_mono {c : Code} {Q' : Exit → Act → World → Prop} (h : WpK F n P c Q a w) (hq : ∀ e a w, Q e a w → Q' e a w) : WpK F n P c Q' a w :=
 fun b k cs h1 h2 h3 => let ⟨e, a', w', q, r⟩ := h b k cs h1 h2 h3; ⟨e, a', w', hq _ _ _ q, r⟩
theorem wpK_seq {x y : Code} (h : WpK F n P x (Exit.then (WpK F n P y Q) Q) a w) : WpK F n P (Code.seq x y) Q a w := by
  intro b k cs hro hb hr
  have h0 : (lone (b.atR a (.code (.seq x y) :: k)) cs w).fenced P F := fenced_calm hb hr rfl
  obtain ⟨e, a₁, w₁, hq, harr, hc⟩ := h b (.code y :: k) cs hro hb hr
  cases e with
  | normal =>
    obtain ⟨e₂, a₂, w₂, hq₂, harr₂, hc₂⟩ := hq b k cs hro hb hr
    refine ⟨e₂, a₂, w₂, hq₂, .of_steps (.head h0 stepR_seq harr) harr₂, fun chain he => ?_⟩
    obtain ⟨todo, ht, hs⟩ := hc₂ chain he
    exact ⟨todo, ht, StepsIn.trans (.head h0 stepR_seq harr) hs⟩
  | exit id => exact ⟨_, a₁, w₁, hq, .of_steps (.one h0 stepR_seq) (.pass (x := .code y) rfl (fun _ _ => .inl (by simp)) harr), fun _ he => by cases he⟩
  | goto l => exact ⟨_, a₁, w₁, hq, .of_steps (.one h0 stepR_seq) (.pass (x := .code y) rfl (fun _ _ => .inl (by simp)) harr), fun _ he => by cases he⟩
  | ret => exact ⟨_, a₁, w₁, hq, .of_steps (.one h0 stepR_seq) (.pass (x := .code y) rfl (fun _ _ => .inl (by simp)) harr), fun _ he => by cases he⟩
  | outgrown => exact ⟨_, a₁, w₁, hq, .of_steps (.one h0 stepR_seq) (.pass (x := .code y) rfl (fun _ _ => .inl (by simp)) harr), fun _ he => by cases he⟩
  | panic ch =>
    refine ⟨_, a₁, w₁, hq, .of_steps (.one h0 stepR_seq) (.pass (x := .code y) rfl (fun _ _ => .inl (by simp)) harr), fun chain he => ?_⟩
    obtain ⟨todo, ht, hs⟩ := hc chain he
    exact ⟨todo, ht, .head h0 stepR_seq hs⟩
theorem opsK {ops : Array Oper} (l : List Nat) : ∀ (a : Act) (w : World), wpOpsIn F n P ops Q l a w → ∀ (b : Frame) (k : List Item) (cs : List Frame), b.roundOf = F.round → F.fn b.fn → F.room (cs.length + 1 + n) →
    ∃ e a' w', Q e a' w' ∧ ArrivesIn (Machine.fenced P F) P (lone (b.atR a (.inRegion ops l :: k)) cs w) b k cs e a' w' ∧
      ∀ chain, e = .panic chain → ∃ todo, CalmTodo todo ∧ StepsIn (Machine.fenced P F) P (lone (b.atR a (.inRegion ops l :: k)) cs w) (lone { b.atR a' todo with mode := .panicking chain } cs w') := by
  induction l with
  | nil => exact fun a w h b k cs _ hb hr => ⟨.normal, a, w, h, .one (fenced_calm hb hr rfl) stepR_region_end, fun _ he => by cases he⟩
  | cons i rest ih =>
    intro a w h b k cs hro hb hr
    have on : ∀ {m : Machine} {a1 : Act} {w1 : World}, wpOpsIn F n P ops Q rest a1 w1 → StepsIn (Machine.fenced P F) P m (lone (b.atR a1 (.inRegion ops rest :: k)) cs w1) →
        ∃ e a' w', Q e a' w' ∧ ArrivesIn (Machine.fenced P F) P m b k cs e a' w' ∧ ∀ chain, e = .panic chain → ∃ todo, CalmTodo todo ∧ StepsIn (Machine.fenced P F) P m (lone { b.atR a' todo with mode := .panicking chain } cs w') := by
      intro m a1 w1 h1 hs
      obtain ⟨e, a', w', hq, harr, hc⟩ := ih a1 w1 h1 b k cs hro hb hr
      refine ⟨e, a', w', hq, .of_steps hs harr, fun chain he => ?_⟩
      obtain ⟨todo, ht, h2⟩ := hc chain he
      exact ⟨todo, ht, StepsIn.trans hs h2⟩
    have out : ∀ {m : Machine} {w1 : World} {chain : List PanicEntry}, Q (.panic chain) a w1 → StepsIn (Machine.fenced P F) P m (lone { b.atR a (.inRegion ops (i :: rest) :: k) with mode := .panicking chain } cs w1) →
        ∃ e a' w', Q e a' w' ∧ ArrivesIn (Machine.fenced P F) P m b k cs e a' w' ∧ ∀ chain, e = .panic chain → ∃ todo, CalmTodo todo ∧ StepsIn (Machine.fenced P F) P m (lone { b.atR a' todo with mode := .panicking chain } cs w') :=
      fun hq hs => ⟨.panic _, a, _, hq, ⟨_, hs⟩, fun _ he => by cases he; exact ⟨.inRegion ops (i :: rest) :: k, trivial, hs⟩⟩
    simp only [wpOpsIn] at h
    cases ho : ops[i]? with
    | none =>
      simp only [ho] at h
      have hs := stepR_op_skip (P := P) (b := b) (a := a) (k := k) (cs := cs) (w := w) (ops := ops) (i := i) (rest := rest) (by simp [ho])
      simp only [ho, Option.bind_none, Act.put] at hs
      exact on h (.one (fenced_noOper hb hr ho) hs)
    | some o =>
      simp only [ho] at h
      by_cases hw : Region.wanted o (yielded ops a.tmps) = true
      · simp only [hw, if_true, Oper.wpIn] at h
        obtain ⟨habout, h⟩ := h
        have h0 : (lone (b.atR a (.inRegion ops (i :: rest) :: k)) cs w).fenced P F := fenced_oper hb hr ho habout
        simp only [Oper.uponIn] at h
        have hg := stepGR_op (P := P) (b := b) (k := k) (cs := cs) (w := w) (rest := rest) ho hw
        rw [hro] at hg
        have hfin : ∀ v, (b.atR a (.inRegion ops (i :: rest) :: k)).finish v = b.atR (a.put o.dst v) (.inRegion ops rest :: k) := fun v => by rw [Frame.finish_atR, ho]; rfl
        split at h
        · rename_i v w' hr'
          exact on h (.one h0 (step_lone_go (by rw [hg, ← hfin]; simp [stepG.apply, hr'])))
        · rename_i w' hr'
          exact on h (.one h0 (step_lone_go (by rw [hg, ← hfin]; simp [stepG.apply, hr'])))
        · rename_i d w' hr'
          refine on h (.one h0 (step_lone_go ?_))
          have hf := Frame.finish_atR b { a with defers := d :: a.defers } ops i rest k undef
          rw [ho] at hf
          have hf' : ({ b.atR a (.inRegion ops (i :: rest) :: k) with defers := d :: a.defers } : Frame).finish undef = b.atR ({ a with defers := d :: a.defers }.put o.dst undef) (.inRegion ops rest :: k) := hf
          rw [hg]; simp only [stepG.apply, Sem.runT_eq, hr', GStep.bare_after]
          exact congrArg (fun fr => GStep.go { frame := fr, callers := cs, status := .running, dying := none } w') hf'
        · rename_i f args w' hr'
          obtain ⟨hn, hF, h⟩ := h
          have hroom : F.room ((b.atR a (.inRegion ops (i :: rest) :: k) :: cs).length + 1 + (n - 1)) := Fence.room_enter hr hn
          obtain ⟨e, w'', fr, hR, hsteps, hfn, hleave⟩ := h (b.atR a (.inRegion ops (i :: rest) :: k) :: cs) hroom
          have henter : step P (lone (b.atR a (.inRegion ops (i :: rest) :: k)) cs w) = .next (lone (Frame.enter P f args .normal) (b.atR a (.inRegion ops (i :: rest) :: k) :: cs) w') :=
            step_lone_go (by rw [hg]; simp [stepG.apply, hr', Frame.atR])
          cases e with
          | returned v =>
            exact on hR (.head h0 henter (StepsIn.trans hsteps (.one (fenced_leaving (hfn ▸ hF) hroom hleave) (by rw [← hfin]; exact step_leave_returned hleave))))
          | panicked chain =>
            exact out hR (.head h0 henter (StepsIn.trans hsteps (.one (fenced_leaving (hfn ▸ hF) hroom hleave) (by rw [← Frame.raise_atR]; exact step_leave_panicked hleave))))
          | outgrown =>
            obtain ⟨a₀, w₀, hq⟩ := hR
            exact ⟨.outgrown, a₀, w₀, hq, .inr (Outgrown.of_steps (.one henter) hsteps), fun _ he => by cases he⟩
        · rename_i row args w' hr'
          obtain ⟨hn, h⟩ := h
          obtain ⟨v, w'', hR, hsteps⟩ := h (b.atR a (.inRegion ops (i :: rest) :: k)) cs (Fence.room_enter hr hn)
          have henter : step P (lone (b.atR a (.inRegion ops (i :: rest) :: k)) cs w) = .next (lone (Frame.ofRow P row args .normal) (b.atR a (.inRegion ops (i :: rest) :: k) :: cs) w') :=
            step_lone_go (by rw [hg]; simp [stepG.apply, hr', Frame.atR])
          exact on hR (.head h0 henter (by rw [← hfin]; exact hsteps))
        · rename_i l f tmps assign body w' hr'
          obtain ⟨hn, _, h⟩ := h
          obtain ⟨e, w'', hR, hsteps⟩ := h (b.atR a (.inRegion ops (i :: rest) :: k)) cs (Fence.room_enter hr hn)
          have henter : step P (lone (b.atR a (.inRegion ops (i :: rest) :: k)) cs w) = .next (lone (Frame.round l f tmps assign body .normal) (b.atR a (.inRegion ops (i :: rest) :: k) :: cs) w') :=
            step_lone_go (by rw [hg]; simp [stepG.apply, hr', Frame.atR])
          cases e with
          | returned v => exact on hR (.head h0 henter (by rw [← hfin]; exact hsteps))
          | panicked chain => exact out hR (.head h0 henter (by rw [← Frame.raise_atR]; exact hsteps))
          | outgrown =>
            obtain ⟨a₀, w₀, hq⟩ := hR
            exact ⟨.outgrown, a₀, w₀, hq, .inr (Outgrown.of_steps (.one henter) hsteps), fun _ he => by cases he⟩
        · rename_i v w' hr'
          exact out h (.one h0 (step_lone_go (by rw [hg, ← Frame.raise_atR]; simp [stepG.apply, hr'])))
        · exact h.elim
      · simp only [hw, if_false, Bool.false_eq_true] at h
        obtain ⟨habout, h⟩ := h
        have hs := stepR_op_skip (P := P) (b := b) (a := a) (k := k) (cs := cs) (w := w) (ops := ops) (i := i) (rest := rest) (by simp [ho]; simpa using hw)
        simp only [ho, Option.bind_some] at hs
        exact on h (.one (fenced_oper hb hr ho habout) hs)
theorem wpK_region {id : Nat} {ops : Array Oper} (h : wpOpsIn F n P ops Q (List.range ops.size) a w) : WpK F n P (Code.region id ops false) Q a w := by
 intro b k cs hro hb hr
 obtain ⟨e, a', w', q, r, hc⟩ := opsK _ a w h b k cs hro hb hr
 refine ⟨e, a', w', q, .of_steps (.one (fenced_calm hb hr rfl) stepR_region) r, fun chain he => ?_⟩
 obtain ⟨todo, ht, hs⟩ := hc chain he
 exact ⟨todo, ht, .head (fenced_calm hb hr rfl) stepR_region hs⟩
end
def roundPostP (P : Program) (l : Nat) (R : Ending → World → Prop) : Exit → Act → World → Prop
 | .panic chain, a, w => a.defers = [] ∧ R (.panicked chain) w
 | e, a, w => roundPost P l R e a w
theorem roundIn_of_wpK {n l : Nat} {P : Program} {f : FuncId} {tmps : Array Value} {assign body : Code} {w : World} {R : Ending → World → Prop}
    (h : assign.wpIn (Fence.wide.inRound l) n P (Exit.then (fun a₁ w₁ => ∃ w₂, (Instr.beginRound l).run P w₁ = .ok () w₂ ∧ WpK (Fence.wide.inRound l) n P body (roundPostP P l R) a₁ w₂) (fun _ _ _ => False))
      { tmps := tmps, defers := [] } w) :
    RoundIn Fence.wide n P l f tmps assign body w R := by
  refine ⟨trivial, fun c cs hr => ?_⟩
  obtain ⟨b, hb⟩ : ∃ b : Frame, b = { (default : Frame) with fn := f, kind := .normal, roundOf := some l } := ⟨_, rfl⟩
  have hb0 : Frame.round l f tmps assign body .normal = b.atR { tmps := tmps, defers := [] } [.code assign, .beginRound, .code body] := by
    simp [Frame.round, Frame.atR, hb]
  have hro : b.roundOf = some l := by rw [hb]
  have hkd : b.kind = .normal := by rw [hb]
  have hr' : (Fence.wide.inRound l).room ((c :: cs).length + 1 + n) := hr
  obtain ⟨e, a₁, w₁, hq, harr⟩ := h b [.beginRound, .code body] (c :: cs) hro trivial hr'
  rw [← hb0] at harr
  cases e with
  | normal =>
    obtain ⟨w₂, hbr, hbody⟩ := hq
    have s1 : StepsIn (Machine.fenced P (Fence.wide.inRound l)) P (lone (b.atR a₁ [.beginRound, .code body]) (c :: cs) w₁) (lone (b.atR a₁ [.code body]) (c :: cs) w₂) :=
      .one (fenced_calm (fr := b.atR a₁ [.beginRound, .code body]) trivial hr' rfl) (stepR_beginRound hro hbr)
    obtain ⟨e₂, a₂, w₃, hq₂, harr₂, hc₂⟩ := hbody b [] (c :: cs) hro trivial hr'
    cases e₂ with
    | normal =>
      obtain ⟨v, w₄, hend, hR⟩ := hq₂
      exact ⟨.returned v, w₄, hR, (StepsIn.trans harr s1).trans (StepsIn.trans harr₂ (.one (fenced_calm (fr := b.atR a₂ []) trivial hr' rfl) (stepR_round_end hro hkd hend)))⟩
    | ret =>
      obtain ⟨v, w₄, hend, hR⟩ := hq₂
      obtain ⟨k₁, hs⟩ := harr₂.2 (by rw [hro]; rfl)
      exact ⟨.returned v, w₄, hR, (StepsIn.trans harr s1).trans (StepsIn.trans hs (.one (fenced_calm (fr := b.atR a₂ (.code .ret :: k₁)) trivial hr' rfl) (stepR_round_ret hro hkd hend)))⟩
    | exit id =>
      obtain ⟨v, w₄, hend, hR⟩ := hq₂
      obtain ⟨k₁, hk, hs⟩ := harr₂.2 (by rw [hro]; rfl) rfl
      exact ⟨.returned v, w₄, hR, (StepsIn.trans harr s1).trans (StepsIn.trans hs (.one (fenced_calm (fr := b.atR a₂ (.code (.exit id) :: k₁)) trivial hr' rfl) (stepR_round_exit hro hkd hk hend)))⟩
    | goto t =>
      obtain ⟨v, w₄, hend, hR⟩ := hq₂
      obtain ⟨k₁, hk, hs⟩ := harr₂.2 (by rw [hro]; rfl) rfl
      exact ⟨.returned v, w₄, hR, (StepsIn.trans harr s1).trans (StepsIn.trans hs (.one (fenced_calm (fr := b.atR a₂ (.code (.goto t) :: k₁)) trivial hr' rfl) (stepR_round_goto hro hkd hk hend)))⟩
    | panic chain =>
      obtain ⟨hd, hR⟩ := hq₂
      obtain ⟨todo, ht, hs⟩ := hc₂ chain rfl
      have hcal : ({ b.atR a₂ todo with mode := .panicking chain } : Frame).catches P = false := ht.catches P _ rfl
      have hfen : (lone { b.atR a₂ todo with mode := .panicking chain } (c :: cs) w₃).fenced P (Fence.wide.inRound l) := fenced_lone (.inl trivial) (fun _ _ => trivial) (Fence.room_le hr' (by omega))
      exact ⟨.panicked chain, w₃, hR, (StepsIn.trans harr s1).trans (StepsIn.trans hs (.one hfen (step_calm_panic rfl hd hcal)))⟩
    | outgrown => exact hq₂.elim
  | exit id => exact hq.elim
  | goto l => exact hq.elim
  | ret => exact hq.elim
  | panic chain => exact hq.elim
  | outgrown => exact hq.elim
def SeqP {α : Type} (P : Program) (g : Nat) (lb : Array Value) (encs : α → Array Value) (xs : List α) (S : Nat → Prop) (w : World) : Prop :=
 ∀ (l : Nat) (J : List α → (Nat → Prop) → World → Prop) (Jx : (Nat → Prop) → World → Prop) (Jp : List PanicEntry → (Nat → Prop) → World → Prop) (C : Nat → Prop) (W : World),
  (∀ b, S b → b < W.heap.size ∧ W.heap[b]? = w.heap[b]? ∧ ¬ C b) → (∀ b, C b → b < W.heap.size) →
  (∀ pre C1 W1 W2, J pre C1 W1 → Kept (fun b => W.heap.size ≤ b ∧ ¬ C1 b) W1 W2 → J pre C1 W2) →
  (∀ C1 W1 W2, Jx C1 W1 → Kept (fun b => W.heap.size ≤ b ∧ ¬ C1 b) W1 W2 → Jx C1 W2) →
  (∀ ch C1 W1 W2, Jp ch C1 W1 → Kept (fun b => W.heap.size ≤ b ∧ ¬ C1 b) W1 W2 → Jp ch C1 W2) →
  (∀ m pre x suf C1 W1, xs = pre ++ x :: suf → J pre C1 W1 → YieldAt Fence.wide m P l (encs x) W1 fun e W2 =>
   ∃ C2, Kept C1 W1 W2 ∧ (∀ b, C2 b → b < W2.heap.size ∧ (C1 b ∨ W1.heap.size ≤ b)) ∧
    ((e = .returned (.bool true) ∧ J (pre ++ [x]) C2 W2) ∨ (e = .returned (.bool false) ∧ Jx C2 W2) ∨ ∃ ch, e = .panicked ch ∧ Jp ch C2 W2)) →
  J [] C W →
  Calls P g (#[.func (.yield l) #[] #[]] ++ lb) W fun e W' => ((∃ v, e = .returned v) ∧ ∃ C', J xs C' W' ∨ Jx C' W') ∨ ∃ ch, e = .panicked ch ∧ ∃ C', Jp ch C' W'
theorem SeqP.toC {α : Type} {P : Program} {g : Nat} {lb : Array Value} {encs : α → Array Value} {xs : List α} {S : Nat → Prop} {w : World} (h : SeqP P g lb encs xs S w) : SeqC P g lb encs xs S w :=
 fun l J Jx C W h1 h2 h3 h4 h5 h6 => (h l J Jx (fun _ _ _ => False) C W h1 h2 h3 h4 (fun _ _ _ _ hf => hf.elim) (fun m pre x suf C1 W1 hx hj => (h5 m pre x suf C1 W1 hx hj).mono fun e W2 ⟨C2, k1, k2, k3⟩ => ⟨C2, k1, k2, by
  rcases k3 with k3 | k3
  ·exact .inl k3
  ·exact .inr (.inl k3)⟩) h6).mono fun e W' hr => by
   rcases hr with hr | ⟨ch, _, C', hf⟩
   ·exact hr
   ·exact hf.elim
def roundCP {α : Type} (I : List α → (Nat → Prop) → World → Prop) (Ix : Code → (Nat → Prop) → World → Prop) (Ip : List PanicEntry → (Nat → Prop) → World → Prop) (pre : List α) (C : Nat → Prop) (W : World) : Exit → Act → World → Prop
 | .normal, _, W' => ∃ C', Kept C W W' ∧ (∀ b, C' b → b < W'.heap.size ∧ (C b ∨ W.heap.size ≤ b)) ∧ I pre C' W'
 | .ret, _, W' => ∃ C', Kept C W W' ∧ (∀ b, C' b → b < W'.heap.size ∧ (C b ∨ W.heap.size ≤ b)) ∧ Ix .ret C' W'
 | .exit id, _, W' => ∃ C', Kept C W W' ∧ (∀ b, C' b → b < W'.heap.size ∧ (C b ∨ W.heap.size ≤ b)) ∧ Ix (.exit id) C' W'
 | .goto t, _, W' => ∃ C', Kept C W W' ∧ (∀ b, C' b → b < W'.heap.size ∧ (C b ∨ W.heap.size ≤ b)) ∧ Ix (.goto t) C' W'
 | .panic ch, a, W' => a.defers = [] ∧ ∃ C', Kept C W W' ∧ (∀ b, C' b → b < W'.heap.size ∧ (C b ∨ W.heap.size ≤ b)) ∧ Ip ch C' W'
 | _, _, _ => False
section lawP
variable {P : Program} {α : Type}
theorem round_yieldP {fn : FuncId} {ps : Array Tmp} {assign body : Code} {a : Act} {n₀ l : Nat} {rec : LoopState → Option Code → Loop}
    (hrec : ∀ st pe, rec st pe = { state := st, pending := pe, fn, tmps := a.tmps, params := ps, assign, body, defers := (rec .ready none).defers })
    {encs : α → Array Value} (hps : ∀ x, (encs x).size = ps.size)
    (I : List α → (Nat → Prop) → World → Prop) (Ix : Code → (Nat → Prop) → World → Prop) (Ip : List PanicEntry → (Nat → Prop) → World → Prop)
    (hI : ∀ pre C1 W1 W2, I pre C1 W1 → Kept (fun b => n₀ ≤ b ∧ ¬ C1 b) W1 W2 → I pre C1 W2)
    (hIx : ∀ c C1 W1 W2, Ix c C1 W1 → Kept (fun b => n₀ ≤ b ∧ ¬ C1 b) W1 W2 → Ix c C1 W2)
    (hl : n₀ ≤ l) (m : Nat) (pre : List α) (x : α) (C1 : Nat → Prop) (W1 : World) (hlC : ¬ C1 l) (hL : W1.heap[l]? = some (.loop (rec .ready none)))
    (Ax : Act → World → Prop) (hAx : ∀ a' W2 W3, Ax a' W2 → W2.heap[l]? = some (.loop (rec .ready none)) → Kept (fun b => b = l) W2 W3 → Ax a' W3)
    (hassign : ∀ (K : Act → World → Prop), (∀ a' W2, Kept C1 W1 W2 → Ax a' W2 → K a' W2) →
      assign.wpIn (Fence.wide.inRound l) m P (Exit.then K (fun _ _ _ => False)) { tmps := (ps.zip (encs x)).foldl (fun t (p, v) => t.setIfInBounds p v) a.tmps, defers := [] } W1)
    (hbody : ∀ a' W2, Ax a' W2 → (∃ r, W2.heap[l]? = some (.loop r)) → (∃ Wy, Kept C1 W1 Wy ∧ Kept (fun b => b = l) Wy W2) → WpK (Fence.wide.inRound l) m P body (roundCP I Ix Ip (pre ++ [x]) C1 W2) a' W2) :
    YieldAt Fence.wide m P l (encs x) W1 fun e W2 =>
      ∃ C2 st pe, Kept (fun b => C1 b ∨ b = l) W1 W2 ∧ (∀ b, C2 b → b < W2.heap.size ∧ (C1 b ∨ W1.heap.size ≤ b)) ∧ W2.heap[l]? = some (.loop (rec st pe)) ∧
        ((e = .returned (.bool true) ∧ st = .ready ∧ pe = none ∧ I (pre ++ [x]) C2 W2) ∨ (e = .returned (.bool false) ∧ st = .done ∧ ∃ c, pe = some c ∧ Ix c C2 W2) ∨ (∃ ch, e = .panicked ch ∧ st = .busy ∧ pe = none ∧ Ip ch C2 W2)) := by
  have hlt : l < W1.heap.size := (Array.getElem?_eq_some_iff.1 hL).1
  have hy := run_yield (P := P) (args := encs x) hL (by rw [hrec]; exact hps x)
  rw [hrec] at hy
  refine ⟨fn, _, assign, body, hy, roundIn_of_wpK (hassign _ ?_)⟩
  intro a' Wa hka hax
  have hLa : Wa.heap[l]? = some (.loop (rec .ready none)) := (hka.block l hlt hlC).trans hL
  have hlta : l < Wa.heap.size := (Array.getElem?_eq_some_iff.1 hLa).1
  refine ⟨_, run_beginRound hLa (by rw [hrec]), ?_⟩
  obtain ⟨Wb, hWb⟩ : ∃ Wb, Wa.putObj l (.loop { rec .ready none with state := .busy }) = Wb := ⟨_, rfl⟩
  rw [hWb]
  have hLb : Wb.heap[l]? = some (.loop { rec .ready none with state := .busy }) := by rw [← hWb]; exact World.putObj_heap_same hlta
  have hab : Kept (fun b => b = l) Wa Wb := by rw [← hWb]; exact (Kept.refl (fun b => b = l) _).putObj (r := l) (.inl rfl) _
  have hltb : l < Wb.heap.size := (Array.getElem?_eq_some_iff.1 hLb).1
  refine wpK_mono (hbody a' Wb (hAx _ _ _ hax hLa hab) ⟨_, hLb⟩ ⟨Wa, hka, hab⟩) ?_
  have hall : ∀ (jump : Option Code) (W3 : World) (C' : Nat → Prop), Kept C1 Wb W3 → (∀ b, C' b → b < W3.heap.size ∧ (C1 b ∨ Wb.heap.size ≤ b)) →
      (Instr.endRound l jump).run P W3 = .ok (.bool jump.isNone) (W3.putObj l (.loop (rec (if jump.isNone then .ready else .done) jump))) ∧
      (W3.putObj l (.loop (rec (if jump.isNone then .ready else .done) jump))).heap[l]? = some (.loop (rec (if jump.isNone then .ready else .done) jump)) ∧
      Kept (fun b => C1 b ∨ b = l) W1 (W3.putObj l (.loop (rec (if jump.isNone then .ready else .done) jump))) ∧
      (∀ b, C' b → b < (W3.putObj l (.loop (rec (if jump.isNone then .ready else .done) jump))).heap.size ∧ (C1 b ∨ W1.heap.size ≤ b)) ∧
      Kept (fun b => n₀ ≤ b ∧ ¬ C' b) W3 (W3.putObj l (.loop (rec (if jump.isNone then .ready else .done) jump))) := by
    intro jump W3 C' hk hC'
    have hL3 := (hk.block l hltb hlC).trans hLb
    have hr := run_endRound (P := P) jump hL3
    have hr' : (Instr.endRound l jump).run P W3 = .ok (.bool jump.isNone) (W3.putObj l (.loop (rec (if jump.isNone then .ready else .done) jump))) := by
      rw [hr, hrec (if jump.isNone then LoopState.ready else LoopState.done) jump, hrec .ready none]
    refine ⟨hr', World.putObj_heap_same (Array.getElem?_eq_some_iff.1 hL3).1, ?_, ?_, (Kept.refl _ _).putObj (.inl ⟨hl, fun h => ?_⟩) _⟩
    · exact (((hka.mono (fun _ _ h => .inl h)).trans (hab.mono (fun _ _ h => .inr h))).trans (hk.mono (fun _ _ h => .inl h))).trans ((Kept.refl _ _).putObj (.inl (.inr rfl)) _)
    · intro b hb
      refine ⟨by simpa using (hC' b hb).1, ?_⟩
      rcases (hC' b hb).2 with h | h
      · exact .inl h
      · exact .inr (Nat.le_trans (Nat.le_trans hka.size hab.size) h)
    · rcases (hC' l h).2 with h | h
      · exact hlC h
      · omega
  rintro e a3 W3 hp
  cases e with
  | normal =>
    obtain ⟨C', hk, hC', hi3⟩ := hp
    obtain ⟨hr, h1, h2, h3, h4⟩ := hall none W3 C' hk hC'
    exact ⟨_, _, hr, C', .ready, none, h2, h3, h1, .inl ⟨rfl, rfl, rfl, hI _ _ _ _ hi3 h4⟩⟩
  | ret =>
    obtain ⟨C', hk, hC', hi3⟩ := hp
    obtain ⟨hr, h1, h2, h3, h4⟩ := hall (some .ret) W3 C' hk hC'
    exact ⟨_, _, hr, C', .done, some .ret, h2, h3, h1, .inr (.inl ⟨rfl, rfl, _, rfl, hIx _ _ _ _ hi3 h4⟩)⟩
  | exit id =>
    obtain ⟨C', hk, hC', hi3⟩ := hp
    obtain ⟨hr, h1, h2, h3, h4⟩ := hall (some (.exit id)) W3 C' hk hC'
    exact ⟨_, _, hr, C', .done, some (.exit id), h2, h3, h1, .inr (.inl ⟨rfl, rfl, _, rfl, hIx _ _ _ _ hi3 h4⟩)⟩
  | goto t =>
    obtain ⟨C', hk, hC', hi3⟩ := hp
    obtain ⟨hr, h1, h2, h3, h4⟩ := hall (some (.goto t)) W3 C' hk hC'
    exact ⟨_, _, hr, C', .done, some (.goto t), h2, h3, h1, .inr (.inl ⟨rfl, rfl, _, rfl, hIx _ _ _ _ hi3 h4⟩)⟩
  | panic ch =>
    obtain ⟨hd, C', hk, hC', hi3⟩ := hp
    have hL3 := (hk.block l hltb hlC).trans hLb
    refine ⟨hd, C', .busy, none, ?_, fun b hb => ⟨(hC' b hb).1, ?_⟩, ?_, .inr (.inr ⟨ch, rfl, rfl, rfl, hi3⟩)⟩
    · exact ((hka.mono (fun _ _ h => .inl h)).trans (hab.mono (fun _ _ h => .inr h))).trans (hk.mono (fun _ _ h => .inl h))
    · rcases (hC' b hb).2 with h | h
      · exact .inl h
      · exact .inr (Nat.le_trans (Nat.le_trans hka.size hab.size) h)
    · rw [hL3, hrec .busy none, hrec .ready none]
  | outgrown => exact hp.elim
def RoundsP (P : Program) (n₀ : Nat) (a : Act) (ps : Array Tmp) (assign body : Code) (encs : α → Array Value) (xs : List α) (I : List α → (Nat → Prop) → World → Prop) (Ix : Code → (Nat → Prop) → World → Prop) (Ip : List PanicEntry → (Nat → Prop) → World → Prop)
  (Ax : Nat → List α → α → (Nat → Prop) → Act → World → Prop) : Prop :=
 (∀ l pre x C1 a' W2 W3, n₀ ≤ l → ¬ C1 l → Ax l pre x C1 a' W2 → (∃ r, W2.heap[l]? = some (.loop r)) → Kept (fun b => b = l) W2 W3 → Ax l pre x C1 a' W3) ∧
 (∀ l m pre x suf C1 W1 (K : Act → World → Prop), n₀ ≤ l → l < W1.heap.size → ¬ C1 l → xs = pre ++ x :: suf → I pre C1 W1 → (∀ b, C1 b → b < W1.heap.size) → (∀ a' W2, Kept C1 W1 W2 → Ax l pre x C1 a' W2 → K a' W2) →
   assign.wpIn (Fence.wide.inRound l) m P (Exit.then K (fun _ _ _ => False)) { tmps := (ps.zip (encs x)).foldl (fun t (p, v) => t.setIfInBounds p v) a.tmps, defers := [] } W1) ∧
 (∀ l m pre x suf C1 a' W2, n₀ ≤ l → ¬ C1 l → xs = pre ++ x :: suf → Ax l pre x C1 a' W2 → (∃ r, W2.heap[l]? = some (.loop r)) → (∀ b, C1 b → b < W2.heap.size) → WpK (Fence.wide.inRound l) m P body (roundCP I Ix Ip (pre ++ [x]) C1 W2) a' W2)
theorem wp_rangeP {g : Operand} {ps : Array Tmp} {assign body : Code} {Q : Exit → Act → World → Prop} {a : Act} {w : World} {gf : Nat} {lb : Array Value}
  (hg : a.eval g = .func (.func gf) #[] lb) (eg : ∀ args w, (callFunc gf args).run P w = .ok (.enter gf args) w)
  {encs : α → Array Value} {xs : List α} {S : Nat → Prop} {w0 : World} (hseq : SeqP P gf lb encs xs S w0) (C : Nat → Prop)
  (hS : ∀ b, S b → b < w.heap.size ∧ w.heap[b]? = w0.heap[b]? ∧ ¬ C b) (hps : ∀ x, (encs x).size = ps.size) (hC : ∀ b, C b → b < w.heap.size)
  (I : List α → (Nat → Prop) → World → Prop) (Ix : Code → (Nat → Prop) → World → Prop) (Ip : List PanicEntry → (Nat → Prop) → World → Prop)
  (hI : ∀ pre C1 W1 W2, I pre C1 W1 → Kept (fun b => w.heap.size ≤ b ∧ ¬ C1 b) W1 W2 → I pre C1 W2)
  (hIx : ∀ c C1 W1 W2, Ix c C1 W1 → Kept (fun b => w.heap.size ≤ b ∧ ¬ C1 b) W1 W2 → Ix c C1 W2)
  (h0 : I [] C w) (Ax : Nat → List α → α → (Nat → Prop) → Act → World → Prop)
  (hIp : ∀ ch C1 W1 W2, Ip ch C1 W1 → Kept (fun b => w.heap.size ≤ b ∧ ¬ C1 b) W1 W2 → Ip ch C1 W2)
  (hround : RoundsP P w.heap.size a ps assign body encs xs I Ix Ip Ax)
  (hdone : ∀ D C' W, w.heap.size ≤ D → D < W.heap.size → ¬ C' D → I xs C' W → W.heap[D]? = some (.deferred (some [])) → Q .normal { a with defers := { target := .collected D, args := #[] } :: a.defers } W)
  (hstop : ∀ D c C' W, w.heap.size ≤ D → D < W.heap.size → ¬ C' D → Ix c C' W → W.heap[D]? = some (.deferred (some [])) → c.wp P Q { a with defers := { target := .collected D, args := #[] } :: a.defers } W)
  (hpanic : ∀ D ch C' W, w.heap.size ≤ D → D < W.heap.size → ¬ C' D → Ip ch C' W → W.heap[D]? = some (.deferred (some [])) → Q (.panic ch) { a with defers := { target := .collected D, args := #[] } :: a.defers } W) :
  (Code.rangeFunc g ps assign body).wp P Q a w := by
 refine (wpIn_wide (n := 0)).1 (wpIn_rangeFunc ?_)
 intro fn hfn
 obtain ⟨rec, hrec⟩ : ∃ rec : LoopState → Option Code → Loop, rec = fun st pe => { state := st, pending := pe, fn, tmps := a.tmps, params := ps, assign, body, defers := w.heap.size } := ⟨_, rfl⟩
 have hrec' : ∀ st pe, rec st pe = { state := st, pending := pe, fn, tmps := a.tmps, params := ps, assign, body, defers := (rec .ready none).defers } := by rw [hrec]; exact fun _ _ => rfl
 obtain ⟨W1, hW1⟩ : ∃ W1, (w.alloc (.deferred (some []))).alloc (.loop (rec .ready none)) = W1 := ⟨_, rfl⟩
 have hL1 : W1.heap[w.heap.size + 1]? = some (.loop (rec .ready none)) := by
  rw [← hW1]; have := World.alloc_heap_new (w.alloc (.deferred (some []))) (.loop (rec .ready none)); rwa [World.size_alloc] at this
 have hK1 : W1.heap[w.heap.size]? = some (.deferred (some [])) := by
  rw [← hW1]; exact (Below.heap_alloc _ _ _ (by simp)).trans (World.alloc_heap_new w _)
 have hz1 : W1.heap.size = w.heap.size + 2 := by rw [← hW1]; simp
 have hk1 : ∀ M, Kept M w W1 := fun M => by rw [← hW1]; exact ((Kept.refl _ _).alloc _).alloc _
 refine ⟨w.heap.size + 1, [{ target := .collected w.heap.size, args := #[] }], W1, { target := .fn (.func gf) lb, args := #[.func (.yield (w.heap.size + 1)) #[] #[]] }, W1, gf,
  #[.func (.yield (w.heap.size + 1)) #[] #[]] ++ lb, W1, ?_, ?_, fun _ _ => trivial, ?_, fun h => by simp [Fence.wide] at h, ?_⟩
 ·rw [← hW1, hrec]; exact run_enterLoop_outer _ _ _ _ _
 ·simp only [resolve, hg]
  simp [go_sem]
 ·simp [invoke, go_sem, eg]
 ·refine callsIn_wide.2 ((hseq (w.heap.size + 1)
   (fun pre C1 W => ∃ Cu, C1 = (fun b => Cu b ∨ b = w.heap.size ∨ b = w.heap.size + 1) ∧ ¬ Cu w.heap.size ∧ ¬ Cu (w.heap.size + 1) ∧ (∀ b, Cu b → b < W.heap.size) ∧ w.heap.size + 1 < W.heap.size ∧
    I pre Cu W ∧ W.heap[w.heap.size + 1]? = some (.loop (rec .ready none)) ∧ W.heap[w.heap.size]? = some (.deferred (some [])))
   (fun C1 W => ∃ Cu c, C1 = (fun b => Cu b ∨ b = w.heap.size ∨ b = w.heap.size + 1) ∧ ¬ Cu w.heap.size ∧ ¬ Cu (w.heap.size + 1) ∧ w.heap.size + 1 < W.heap.size ∧
    Ix c Cu W ∧ W.heap[w.heap.size + 1]? = some (.loop (rec .done (some c))) ∧ W.heap[w.heap.size]? = some (.deferred (some [])))
   (fun ch C1 W => ∃ Cu, C1 = (fun b => Cu b ∨ b = w.heap.size ∨ b = w.heap.size + 1) ∧ ¬ Cu w.heap.size ∧ w.heap.size + 1 < W.heap.size ∧ Ip ch Cu W ∧ W.heap[w.heap.size]? = some (.deferred (some [])))
   (fun b => C b ∨ b = w.heap.size ∨ b = w.heap.size + 1) W1 ?_ ?_ ?_ ?_ ?_ ?_ ?_).mono ?_)
  ·intro b hb
   obtain ⟨h1, h2, h3⟩ := hS b hb
   refine ⟨by omega, ((hk1 (fun _ => False)).block b h1 (fun h => h)).trans h2, fun h => ?_⟩
   rcases h with h | h | h
   ·exact h3 h
   ·omega
   ·omega
  ·intro b hb
   rcases hb with h | h | h
   ·have := hC b h; omega
   ·omega
   ·omega
  ·rintro pre C1 Wa Wb ⟨Cu, rfl, h1, h2, h3, h4, h5, h6, h7⟩ hk
   have hk' : Kept (fun b => w.heap.size ≤ b ∧ ¬ Cu b) Wa Wb := hk.mono fun b _ hb => ⟨by omega, fun h => hb.2 (.inl h)⟩
   refine ⟨Cu, rfl, h1, h2, fun b hb => Nat.lt_of_lt_of_le (h3 b hb) hk.size, Nat.lt_of_lt_of_le h4 hk.size, hI _ _ _ _ h5 hk', (hk.block _ h4 ?_).trans h6, (hk.block _ (by omega) ?_).trans h7⟩
   ·intro h; exact h.2 (.inr (.inr rfl))
   ·intro h; exact h.2 (.inr (.inl rfl))
  ·rintro C1 Wa Wb ⟨Cu, c, rfl, h1, h2, h4, h5, h6, h7⟩ hk
   have hk' : Kept (fun b => w.heap.size ≤ b ∧ ¬ Cu b) Wa Wb := hk.mono fun b _ hb => ⟨by omega, fun h => hb.2 (.inl h)⟩
   refine ⟨Cu, c, rfl, h1, h2, Nat.lt_of_lt_of_le h4 hk.size, hIx _ _ _ _ h5 hk', (hk.block _ h4 ?_).trans h6, (hk.block _ (by omega) ?_).trans h7⟩
   ·intro h; exact h.2 (.inr (.inr rfl))
   ·intro h; exact h.2 (.inr (.inl rfl))
  ·rintro ch C1 Wa Wb ⟨Cu, rfl, h1, h4, h5, h7⟩ hk
   have hk' : Kept (fun b => w.heap.size ≤ b ∧ ¬ Cu b) Wa Wb := hk.mono fun b _ hb => ⟨by omega, fun h => hb.2 (.inl h)⟩
   refine ⟨Cu, rfl, h1, Nat.lt_of_lt_of_le h4 hk.size, hIp _ _ _ _ h5 hk', (hk.block _ (by omega) ?_).trans h7⟩
   intro h; exact h.2 (.inr (.inl rfl))
  ·rintro m pre x suf C1 Wa hxs ⟨Cu, rfl, h1, h2, h3, h4, h5, h6, h7⟩
   obtain ⟨r1, r2, r3⟩ := hround
   refine (round_yieldP hrec' hps I Ix Ip hI hIx (by omega) m pre x Cu Wa h2 h6 (Ax (w.heap.size + 1) pre x Cu)
    (fun a' W2 W3 hx hl hk => r1 _ _ _ _ _ _ _ (by omega) h2 hx ⟨_, hl⟩ hk)
    (fun K hK => r2 _ m pre x suf Cu Wa K (by omega) h4 h2 hxs h5 h3 hK)
    (fun a' W2 hx hr hy => r3 _ m pre x suf Cu a' W2 (by omega) h2 hxs hx hr (fun b hb => by
     obtain ⟨Wy, k1, k2⟩ := hy
     exact Nat.lt_of_lt_of_le (h3 b hb) (Nat.le_trans k1.size k2.size)))).mono ?_
   rintro e W2 ⟨C2, st, pe, hk, hC2, hl, hcase⟩
   have hD : W2.heap[w.heap.size]? = some (.deferred (some [])) := (hk.block _ (by omega) (fun h => by
    rcases h with h | h
    ·exact h1 h
    ·omega)).trans h7
   have n1 : ¬ C2 w.heap.size := fun h => by
    rcases (hC2 _ h).2 with h | h
    ·exact h1 h
    ·omega
   have n2 : ¬ C2 (w.heap.size + 1) := fun h => by
    rcases (hC2 _ h).2 with h | h
    ·exact h2 h
    ·omega
   refine ⟨fun b => C2 b ∨ b = w.heap.size ∨ b = w.heap.size + 1, hk.mono (fun b _ h => by
    rcases h with h | h
    ·exact .inl h
    ·exact .inr (.inr h)), fun b hb => ?_, ?_⟩
   ·rcases hb with h | h | h
    ·refine ⟨(hC2 b h).1, ?_⟩
     rcases (hC2 b h).2 with h | h
     ·exact .inl (.inl h)
     ·exact .inr h
    ·exact ⟨by have := hk.size; omega, .inl (.inr (.inl h))⟩
    ·exact ⟨by have := hk.size; omega, .inl (.inr (.inr h))⟩
   ·rcases hcase with ⟨rfl, rfl, rfl, hi⟩ | ⟨rfl, rfl, c, rfl, hi⟩ | ⟨ch, rfl, rfl, rfl, hi⟩
    ·exact .inl ⟨rfl, C2, rfl, n1, n2, fun b hb => (hC2 b hb).1, by have := hk.size; omega, hi, hl, hD⟩
    ·exact .inr (.inl ⟨rfl, C2, c, rfl, n1, n2, by have := hk.size; omega, hi, hl, hD⟩)
    ·exact .inr (.inr ⟨ch, rfl, C2, rfl, n1, by have := hk.size; omega, hi, hD⟩)
  ·refine ⟨C, rfl, fun h => ?_, fun h => ?_, fun b hb => by have := hC b hb; omega, by omega, hI _ _ _ _ h0 (hk1 _), hL1, hK1⟩
   ·have := hC _ h; omega
   ·have := hC _ h; omega
  ·rintro e W2 (⟨⟨v, rfl⟩, C', (⟨Cu, rfl, h1, h2, h3, h4, h5, h6, h7⟩ | ⟨Cu, c, rfl, h1, h2, h4, h5, h6, h7⟩)⟩ | ⟨ch, rfl, C', Cu, rfl, h1, h4, h5, h7⟩)
   ·have hk : Kept (fun b => w.heap.size ≤ b ∧ ¬ Cu b) W2 (W2.putObj (w.heap.size + 1) (.loop { rec .ready none with state := .exhausted })) := (Kept.refl _ _).putObj (.inl ⟨by omega, h2⟩) _
    exact ⟨none, _, by have := run_endLoop (P := P) h6 (by rw [hrec]; simp); rw [hrec] at this ⊢; exact this, hdone _ Cu _ (Nat.le_refl _) (by simp; omega) h1 (hI _ _ _ _ h5 hk) ((World.putObj_heap_other (by omega)).trans h7)⟩
   ·have hk : Kept (fun b => w.heap.size ≤ b ∧ ¬ Cu b) W2 (W2.putObj (w.heap.size + 1) (.loop { rec .done (some c) with state := .exhausted })) := (Kept.refl _ _).putObj (.inl ⟨by omega, h2⟩) _
    exact ⟨some c, _, by have := run_endLoop (P := P) h6 (by rw [hrec]; simp); rw [hrec] at this ⊢; exact this, wpIn_wide.2 (hstop _ c Cu _ (Nat.le_refl _) (by simp; omega) h1 (hIx _ _ _ _ h5 hk) ((World.putObj_heap_other (by omega)).trans h7))⟩
   ·exact hpanic _ ch Cu _ (Nat.le_refl _) (by omega) h1 h5 h7
end lawP
theorem panic_marks {P : Program} {fn : Func} {R : Ending → World → Prop} {a : Act} {w : World} {ch : List PanicEntry} {base : Nat} {Ds : List Nat} (hD : Marks base Ds w) (hd : a.defers = Ds.map markOf)
    (hr : ∀ W', W'.heap.size = w.heap.size → Kept (fun b => b ∈ Ds) w W' → R (.panicked ch) W') :
    bodyPostM Fence.wide 0 P fn R (.panic ch) a w := by
  have key : ∀ (Ds : List Nat) (w : World), Marks base Ds w → (∀ W', W'.heap.size = w.heap.size → Kept (fun b => b ∈ Ds) w W' → R (.panicked ch) W') → LeavesInM Fence.wide 0 P fn a.tmps R (Ds.map markOf) (.panicking ch) w := by
    intro Ds
    induction Ds with
    | nil => intro w _ hr; exact hr w rfl (Kept.refl _ _)
    | cons D Ds ih =>
      intro w hM hr
      obtain ⟨hn, hh⟩ := hM
      obtain ⟨hn1, hn2⟩ := List.nodup_cons.1 hn
      refine ⟨by simp, .inl ⟨D, _, rfl, run_takeDeferred (hh D (by simp)).2, ?_⟩⟩
      have hkD : Kept (fun b => b ∈ D :: Ds) w (w.putObj D (.deferred none)) := (Kept.refl _ w).putObj (.inl (by simp)) _
      refine ih (w.putObj D (.deferred none)) ⟨hn2, fun E hE => ⟨(hh E (by simp [hE])).1, (World.putObj_heap_other (by rintro rfl; exact hn1 hE)).trans (hh E (by simp [hE])).2⟩⟩ fun W' hz hk => hr W' (by simpa using hz) (hkD.trans (hk.mono fun b _ hb => by simp [hb]))
  show LeavesInM Fence.wide 0 P fn a.tmps R a.defers (.panicking ch) w
  rw [hd]
  exact key Ds w hD hr
end
section
open Go.RowKit
theorem callsDW_of_wpS {P : Program} {n : Nat} {f : FuncId} {fn : Func} {c : Code} {args : Array Value} {u : FrameMode} {w : World} {R : Ending → FrameMode → World → Prop}
    (hf : P.funcs[f]? = some fn) (hb : fn.body = some c)
    (h : ∀ (c₀ : Frame) (cs : List Frame), c₀.mode = u →
      c.wpS P (bodyPostS P fn c₀ cs R) { tmps := args ++ Array.replicate (fn.ntmps - args.size) undef, defers := [] } (c₀ :: cs) w) :
    CallsDIn Fence.wide n P f args u w R := by
  refine ⟨trivial, fun c₀ cs hu _ => ?_⟩
  let b : Frame := { (default : Frame) with fn := f, kind := .deferred }
  have henter : Frame.enter P f args .deferred =
      b.at { tmps := args ++ Array.replicate (fn.ntmps - args.size) undef, defers := [] } [.code c] := by
    simp [Frame.enter, Frame.at, hf, hb, b]
  obtain ⟨e, a', cs', w', hq, harr⟩ := h c₀ cs hu b [] rfl rfl
  rw [← henter] at harr
  cases e with
  | normal =>
    obtain ⟨hd, u', rfl, v, hr, hR⟩ := hq
    exact ⟨.returned v, u', w', _, hR, comesIn_wide.2 (Steps.trans harr (.one step_end)), rfl, rfl, rfl, hd, fn, hf, hr⟩
  | ret =>
    obtain ⟨hd, u', rfl, v, hr, hR⟩ := hq
    obtain ⟨todo, hs⟩ := harr
    exact ⟨.returned v, u', w', _, hR, comesIn_wide.2 hs, rfl, rfl, rfl, hd, fn, hf, hr⟩
  | panic chain =>
    obtain ⟨hd, u', rfl, hR⟩ := hq
    obtain ⟨todo, hs⟩ := harr
    exact ⟨.panicked chain, u', w', _, hR, comesIn_wide.2 hs, rfl, rfl, rfl, hd, fn, hf⟩
  | exit id => exact hq.elim
  | goto l => exact hq.elim
  | outgrown =>
    obtain ⟨u', hR⟩ := hq
    exact ⟨.outgrown, u', w', b, hR, comesIn_wide.2 (harr.resolve_left (by simp [b])), rfl, rfl, trivial⟩
set_option maxHeartbeats 1000000 in
theorem catchPW_panicking (n b : Nat) (x e : Int) (older : List PanicEntry) (w : World) (hb : w.heap[b]? = some (.cells #[.int .i64 x] 31 (0, 0))) :
  CallsDIn Fence.wide n Tryz.prog 37 #[.pointer (some ⟨b, 0, none⟩)] (.panicking (failV e :: older)) w fun en u' w' =>
   en = .returned (.tuple #[]) ∧ u' = .panicking ({ v := .iface 145 (.agg #[.int .i64 e]), recovered := true } :: older) ∧ w'.heap[b]? = some (.cells #[.int .i64 e] 31 (0, 0)) ∧ Kept (fun k => k = b) w w' := by
 refine callsDW_of_wpS Tryz.func37 rfl fun c₀ cs hu => ?_
 have hfail : failV e = { v := .iface 145 (.agg #[.int .i64 e]), recovered := false } := rfl
 rw [hfail] at hu
 apply wpS_region
 simp [wpOpsS, go_sem, recoverD, hu, Tryz.ntmps37, Oper.upon]
 refine (caught_fail b x e w hb).mono ?_
 rintro en w1 ⟨rfl, h1, h2⟩
 simp [bodyPostS, results, Tryz.f37, go_sem]
 exact ⟨h1, h2⟩
set_option maxHeartbeats 1000000 in
theorem catchPW_idle (n b : Nat) (w : World) :
  CallsDIn Fence.wide n Tryz.prog 37 #[.pointer (some ⟨b, 0, none⟩)] .returning w fun en u' w' => en = .returned (.tuple #[]) ∧ u' = .returning ∧ w' = w := by
 refine callsDW_of_wpS Tryz.func37 rfl fun c₀ cs hu => ?_
 apply wpS_region
 simp [wpOpsS, go_sem, recoverD, hu, Tryz.ntmps37, Oper.upon]
 refine (caught_nil ⟨b, 0, none⟩ w).mono ?_
 rintro en w1 ⟨rfl, rfl⟩
 cases c₀
 simp_all [bodyPostS, results, Tryz.f37, go_sem]
theorem leaves_mark {P : Program} {fn : Func} {R : Ending → World → Prop} {tmps : Array Value} {w : World} {D : Nat} {ds : List Deferred} {u : FrameMode} (hu : u ≠ .run) (hD : w.heap[D]? = some (.deferred (some [])))
  (h : LeavesInM Fence.wide 0 P fn tmps R ds u (w.putObj D (.deferred none))) : LeavesInM Fence.wide 0 P fn tmps R ({ target := .collected D, args := #[] } :: ds) u w :=
 ⟨hu, .inl ⟨D, _, rfl, run_takeDeferred hD, h⟩⟩
theorem leaves_call {P : Program} {fn : Func} {R : Ending → World → Prop} {tmps : Array Value} {w : World} {fv : Fn} {cap dargs args : Array Value} {f : FuncId} {ds : List Deferred} {u : FrameMode} (hu : u ≠ .run) (hi : (invoke (.fn fv cap) dargs).run P w = .ok (.enter f args) w)
  (h : CallsDIn Fence.wide 0 P f args u w fun
   | .returned _, u', w' => LeavesInM Fence.wide 0 P fn tmps R ds (settle u') w'
   | .panicked chain, u', w' => LeavesInM Fence.wide 0 P fn tmps R ds (raised u' chain) w'
   | .outgrown, _, w' => R .outgrown w') : LeavesInM Fence.wide 0 P fn tmps R ({ target := .fn fv cap, args := dargs } :: ds) u w :=
 ⟨hu, .inr ⟨fun h => by simp [Fence.wide] at h, fv, cap, f, args, rfl, hi, fun _ _ => trivial, h⟩⟩
end
end Go.Proofs.YtbegdcjofnfkiaaGreatDoor
