/- What a run of the evaluator ends with, for open inputs. -/
import Derived.Test.YtjmfknlbnnpbiaaGreatDoorAb4

set_option linter.all false

/- Open runs: with more fuel the evaluator tells the same. -/
namespace Go.Ab
variable {E : Env} {H : Hp} {nt : Nat} {fr : Fr} {n : Nat}

def EvLe (ev ev' : Ev) : Prop := ∀ nt c fr H n r, ev nt c fr H n = some r → ev' nt c fr H n = some r

theorem EvLe.refl (ev : Ev) : EvLe ev ev := fun _ _ _ _ _ _ h => h
theorem EvLe.trans {a b c : Ev} (h : EvLe a b) (h' : EvLe b c) : EvLe a c := fun _ _ _ _ _ _ e => h' _ _ _ _ _ _ (h _ _ _ _ _ _ e)

theorem EvLe.eq {ev ev' : Ev} (h : EvLe ev ev') {nt c fr H n} : ev nt c fr H n = none ∨ ev' nt c fr H n = ev nt c fr H n := by
  cases e : ev nt c fr H n with
  | none => exact .inl rfl
  | some r => exact .inr (h _ _ _ _ _ _ e)

variable {ev ev' : Ev}

theorem callF_mono (h : EvLe ev ev') {g : FuncId} {args : List Value} {r} (e : callF E ev g args H n = some r) : callF E ev' g args H n = some r := by
  unfold callF at e ⊢
  split at e
  · rename_i fn _
    split at e
    · rename_i c _
      split at e
      · exact e
      obtain ⟨h1, e⟩ := cnd_some e
      rw [h1, cnd_true]
      rcases h.eq (nt := fn.ntmps) (c := c) (fr := putArgs .leaf 0 args) (H := H) (n := n) with h2 | h2
      · rw [h2] at e; cases e
      · rw [h2]; exact e
    · cases e
  · cases e

theorem bodyF_mono (h : EvLe ev ev') {l : Nat} {c : Code} {r} (e : bodyF ev l nt c fr H n = some r) : bodyF ev' l nt c fr H n = some r := by
  unfold bodyF at e ⊢
  cases hl : H.get l with
  | none => rw [hl] at e; cases e
  | some X =>
    rw [hl] at e
    cases X with
    | cells => cases e
    | dead => cases e
    | loop L =>
      simp only at e ⊢
      cases hs : L.state with
      | ready =>
        simp only [hs] at e ⊢
        rcases h.eq (nt := nt) (c := c) (fr := fr) (H := H.put l (.loop { L with state := .busy })) (n := n) with h2 | h2
        · rw [h2] at e; cases e
        · rw [h2]; exact e
      | _ => simp only [hs] at e; cases e

theorem roundF_mono (h : EvLe ev ev') {l : Nat} {args : List Value} {r} (e : roundF ev l args H n = some r) : roundF ev' l args H n = some r := by
  unfold roundF at e ⊢
  split at e
  · rename_i L _
    split at e
    · rename_i fr1 _
      rcases h.eq (nt := L.tmps.size) (c := L.assign) (fr := fr1) (H := H) (n := n) with h2 | h2
      · rw [h2] at e; cases e
      · rw [h2]
        split at e
        · exact bodyF_mono h e
        · cases e
    · cases e
  · cases e

theorem callV_mono (h : EvLe ev ev') {v : Value} {args : List Value} {r} (e : callV E ev v args H n = some r) : callV E ev' v args H n = some r := by
  unfold callV at e ⊢
  split at e
  · exact callF_mono h e
  · exact roundF_mono h e
  · cases e

theorem callG_mono (h : EvLe ev ev') {v : Value} {args : List Value} {r} (e : callG E ev v args H n = some r) : callG E ev' v args H n = some r := by
  unfold callG at e ⊢
  split at e
  · exact callF_mono h e
  · cases e

theorem oper_mono (h : EvLe ev ev') {o : Op} {r} (e : oper o E ev fr H n = some r) : oper o E ev' fr H n = some r := by
  cases o <;> try exact e
  rename_i c
  have e : cCall E ev fr c H n = some r := e
  show cCall E ev' fr c H n = some r
  unfold cCall at e ⊢
  split at e
  · unfold callO at e ⊢
    split at e
    · exact callV_mono h e
    · cases e
  · exact e
  · cases e

theorem opsF_mono (h : EvLe ev ev') {ops : Array Oper} : ∀ {l : List Oper} {fr : Fr} {H : Hp} {n : Nat} {r}, opsF E ev nt ops l fr H n = some r → opsF E ev' nt ops l fr H n = some r
  | [], _, _, _, _, e => e
  | o :: os, fr, H, n, r, e => by
    have e : putK nt o (opsF E ev nt ops os) fr (cnd (wanted ops fr o) (oper o.op E ev fr H n) (some (undef, H, n))) = some r := e
    show putK nt o (opsF E ev' nt ops os) fr (cnd (wanted ops fr o) (oper o.op E ev' fr H n) (some (undef, H, n))) = some r
    have key : cnd (wanted ops fr o) (oper o.op E ev' fr H n) (some (undef, H, n)) = cnd (wanted ops fr o) (oper o.op E ev fr H n) (some (undef, H, n)) := by
      cases hw : wanted ops fr o with
      | false => rfl
      | true =>
        rw [hw] at e
        simp only [cnd_true] at e ⊢
        cases hm : oper o.op E ev fr H n with
        | none => rw [hm] at e; cases e
        | some m => exact oper_mono h hm
    rw [key]
    unfold putK at e ⊢
    split at e
    · split at e
      · exact opsF_mono h e
      · cases e
    · cases e

theorem traceF_mono (h : EvLe ev ev') {ops : Array Oper} : ∀ {L : List PO} {fr : Fr} {H : Hp} {n : Nat} {r}, traceF E ev nt ops L fr H n = some r → traceF E ev' nt ops L fr H n = some r
  | [], _, _, _, _, e => e
  | x :: xs, fr, H, n, r, e => by
    simp only [traceF] at e ⊢
    cases hw : wanted ops fr x.o with
    | true =>
      rw [hw] at e
      simp only [cnd_true] at e ⊢
      cases hm : oper x.o.op E ev fr H n with
      | none => rw [hm] at e; cases e
      | some m =>
        obtain ⟨v, H', n'⟩ := m
        rw [hm] at e
        rw [oper_mono h hm]
        simp only at e ⊢
        split at e
        · obtain ⟨h1, e⟩ := cnd_some e
          rw [h1, cnd_true]
          split at e
          · rename_i h2
            rw [traceF_mono h h2]; exact e
          · cases e
        · cases e
    | false =>
      rw [hw] at e
      simp only [cnd_false] at e ⊢
      split at e
      · split at e
        · rename_i h2
          rw [traceF_mono h h2]; exact e
        · cases e
      · cases e

theorem drawnF_mono (h : EvLe ev ev') {ops : Array Oper} {r} (e : drawnF E ev nt ops fr H n = some r) : drawnF E ev' nt ops fr H n = some r := by
  unfold drawnF at e ⊢
  split at e
  · split at e
    · rename_i h2
      rw [traceF_mono h h2]; exact e
    · cases e
  · cases e

theorem rangeF_mono (h : EvLe ev ev') {f : Operand} {ps : Array Tmp} {a b : Code} {r} (e : rangeF E ev nt f ps a b fr H n = some r) : rangeF E ev' nt f ps a b fr H n = some r := by
  unfold rangeF at e ⊢
  split at e
  · split at e
    · rename_i h2
      rw [callG_mono h h2]; exact e
    · cases e
  · cases e

theorem step_mono (h : EvLe ev ev') {c : Code} {r} (e : step c E ev nt fr H n = some r) : step c E ev' nt fr H n = some r := by
  have hseq : ∀ {a b : Code} {r}, seqK (ev nt b) (ev nt a fr H n) = some r → seqK (ev' nt b) (ev' nt a fr H n) = some r := by
    intro a b r e
    rcases h.eq (nt := nt) (c := a) (fr := fr) (H := H) (n := n) with h2 | h2
    · rw [h2] at e; cases e
    · rw [h2]
      unfold seqK at e ⊢
      split at e
      · exact h _ _ _ _ _ _ e
      · exact e
  cases c with
  | seq a b => exact hseq (a := a) (b := b) e
  | loop b => exact hseq (a := b) (b := .loop b) e
  | cond x a b =>
    have e : condK (opv E fr x) (ev nt a fr H n) (ev nt b fr H n) = some r := e
    show condK (opv E fr x) (ev' nt a fr H n) (ev' nt b fr H n) = some r
    unfold condK at e ⊢
    split at e
    · rename_i t _
      cases t <;> exact h _ _ _ _ _ _ e
    · cases e
  | block id b =>
    have e : blockK id (ev nt b fr H n) = some r := e
    show blockK id (ev' nt b fr H n) = some r
    rcases h.eq (nt := nt) (c := b) (fr := fr) (H := H) (n := n) with h2 | h2
    · rw [h2] at e; cases e
    · rw [h2]; exact e
  | scope b => exact h _ _ _ _ _ _ e
  | region id ops d =>
    cases d with
    | true => exact drawnF_mono h e
    | false => exact opsF_mono h e
  | rangeFunc f ps a b => exact rangeF_mono h e
  | _ => exact e

theorem evc_next (E : Env) : ∀ f, EvLe (evc E f) (evc E (f + 1))
  | 0 => fun _ _ _ _ _ _ h => by cases h
  | f + 1 => fun _ _ _ _ _ _ h => step_mono (evc_next E f) h

theorem evc_le (E : Env) {f f' : Nat} (h : f ≤ f') : EvLe (evc E f) (evc E f') := by
  induction h with
  | refl => exact .refl _
  | step _ ih => exact ih.trans (evc_next E _)

/-! What a run comes to. -/
def PostM (m : Mem) (K : Value → Hp → Nat → Prop) : Prop := ∃ v H' n', m = some (v, H', n') ∧ K v H' n'
@[simp] theorem PostM_some {v H n K} : PostM (some (v, H, n)) K ↔ K v H n :=
  ⟨fun ⟨_, _, _, h, k⟩ => by cases h; exact k, fun k => ⟨_, _, _, rfl, k⟩⟩
@[simp] theorem PostM_none {K : Value → Hp → Nat → Prop} : PostM none K ↔ False := ⟨fun h => (by obtain ⟨_, _, _, h, _⟩ := h; cases h), False.elim⟩
theorem PostM.mono {m : Mem} {K K' : Value → Hp → Nat → Prop} (h : PostM m K) (hk : ∀ v H n, K v H n → K' v H n) : PostM m K' := by
  obtain ⟨v, H', n', h1, h2⟩ := h
  exact ⟨v, H', n', h1, hk _ _ _ h2⟩

/-- Code, from a frame and a heap, ends as Q says. -/
def Wp (E : Env) (nt : Nat) (c : Code) (fr : Fr) (H : Hp) (n : Nat) (Q : Ex → Fr → Hp → Nat → Prop) : Prop :=
  ∃ f x fr' H' n', evc E f nt c fr H n = some (x, fr', H', n') ∧ Q x fr' H' n'
def WCall (E : Env) (g : FuncId) (args : List Value) (H : Hp) (n : Nat) (K : Value → Hp → Nat → Prop) : Prop :=
  ∃ f, PostM (run E f g args H n) K
def WVal (E : Env) (v : Value) (args : List Value) (H : Hp) (n : Nat) (K : Value → Hp → Nat → Prop) : Prop :=
  ∃ f, PostM (callV E (evc E f) v args H n) K
def WOp (E : Env) (o : Op) (fr : Fr) (H : Hp) (n : Nat) (K : Value → Hp → Nat → Prop) : Prop :=
  ∃ f, PostM (oper o E (evc E f) fr H n) K

theorem Wp.mono {c : Code} {Q Q' : Ex → Fr → Hp → Nat → Prop} (h : Wp E nt c fr H n Q) (hq : ∀ x fr H n, Q x fr H n → Q' x fr H n) : Wp E nt c fr H n Q' := by
  obtain ⟨f, x, fr', H', n', h1, h2⟩ := h
  exact ⟨f, x, fr', H', n', h1, hq _ _ _ _ h2⟩
theorem WCall.mono {g : FuncId} {args : List Value} {K K' : Value → Hp → Nat → Prop} (h : WCall E g args H n K) (hk : ∀ v H n, K v H n → K' v H n) : WCall E g args H n K' := by
  obtain ⟨f, h⟩ := h
  exact ⟨f, h.mono hk⟩
theorem WVal.mono {v : Value} {args : List Value} {K K' : Value → Hp → Nat → Prop} (h : WVal E v args H n K) (hk : ∀ v H n, K v H n → K' v H n) : WVal E v args H n K' := by
  obtain ⟨f, h⟩ := h
  exact ⟨f, h.mono hk⟩

/-! Code. -/
theorem Wp_skip {Q} : Wp E nt .skip fr H n Q ↔ Q .normal fr H n :=
  ⟨fun ⟨f, _, _, _, _, h, q⟩ => by
    cases f with
    | zero => cases h
    | succ f => cases h; exact q, fun q => ⟨1, _, _, _, _, rfl, q⟩⟩
theorem Wp_label {l Q} : Wp E nt (.label l) fr H n Q ↔ Q .normal fr H n :=
  ⟨fun ⟨f, _, _, _, _, h, q⟩ => by
    cases f with
    | zero => cases h
    | succ f => cases h; exact q, fun q => ⟨1, _, _, _, _, rfl, q⟩⟩
theorem Wp_exit {i Q} : Wp E nt (.exit i) fr H n Q ↔ Q (.exit i) fr H n :=
  ⟨fun ⟨f, _, _, _, _, h, q⟩ => by
    cases f with
    | zero => cases h
    | succ f => cases h; exact q, fun q => ⟨1, _, _, _, _, rfl, q⟩⟩
theorem Wp_ret {Q} : Wp E nt .ret fr H n Q ↔ Q .ret fr H n :=
  ⟨fun ⟨f, _, _, _, _, h, q⟩ => by
    cases f with
    | zero => cases h
    | succ f => cases h; exact q, fun q => ⟨1, _, _, _, _, rfl, q⟩⟩

/-- What stands behind: only where the first ended as usual. -/
def SeqQ (k : Fr → Hp → Nat → Prop) (Q : Ex → Fr → Hp → Nat → Prop) : Ex → Fr → Hp → Nat → Prop
  | .normal => k
  | x => Q x
@[simp] theorem SeqQ_normal {k Q} : SeqQ k Q .normal = k := rfl
@[simp] theorem SeqQ_exit {k Q i} : SeqQ k Q (.exit i) = Q (.exit i) := rfl
@[simp] theorem SeqQ_ret {k Q} : SeqQ k Q .ret = Q .ret := rfl

theorem seq_wp {a b : Code} {Q} (h : Wp E nt a fr H n (SeqQ (fun fr H n => Wp E nt b fr H n Q) Q)) : ∃ f x fr' H' n', seqK (evc E f nt b) (evc E f nt a fr H n) = some (x, fr', H', n') ∧ Q x fr' H' n' := by
  obtain ⟨f, x, fr1, H1, n1, h1, h2⟩ := h
  cases x with
  | normal =>
    obtain ⟨f2, x2, fr2, H2, n2, h3, h4⟩ := h2
    refine ⟨max f f2, x2, fr2, H2, n2, ?_, h4⟩
    rw [evc_le E (Nat.le_max_left f f2) _ _ _ _ _ _ h1]
    exact evc_le E (Nat.le_max_right f f2) _ _ _ _ _ _ h3
  | exit i => exact ⟨f, _, _, _, _, by rw [h1]; rfl, h2⟩
  | ret => exact ⟨f, _, _, _, _, by rw [h1]; rfl, h2⟩

theorem Wp_seq {a b : Code} {Q} (h : Wp E nt a fr H n (SeqQ (fun fr H n => Wp E nt b fr H n Q) Q)) : Wp E nt (.seq a b) fr H n Q := by
  obtain ⟨f, x, fr', H', n', h1, h2⟩ := seq_wp h
  exact ⟨f + 1, x, fr', H', n', h1, h2⟩

theorem Wp_cond {x : Operand} {a b : Code} {Q} {t : Bool} (hx : opv E fr x = some (.bool t)) (h : cnd t (Wp E nt a fr H n Q) (Wp E nt b fr H n Q)) : Wp E nt (.cond x a b) fr H n Q := by
  cases t with
  | true =>
    obtain ⟨f, y, fr', H', n', h1, h2⟩ := h
    exact ⟨f + 1, y, fr', H', n', by show condK (opv E fr x) (evc E f nt a fr H n) (evc E f nt b fr H n) = _; rw [hx]; exact h1, h2⟩
  | false =>
    obtain ⟨f, y, fr', H', n', h1, h2⟩ := h
    exact ⟨f + 1, y, fr', H', n', by show condK (opv E fr x) (evc E f nt a fr H n) (evc E f nt b fr H n) = _; rw [hx]; exact h1, h2⟩

def BlockQ (id : Nat) (Q : Ex → Fr → Hp → Nat → Prop) : Ex → Fr → Hp → Nat → Prop
  | .exit i => Q (cnd (i.beq id) .normal (.exit i))
  | x => Q x
@[simp] theorem BlockQ_normal {id Q} : BlockQ id Q .normal = Q .normal := rfl
@[simp] theorem BlockQ_ret {id Q} : BlockQ id Q .ret = Q .ret := rfl
@[simp] theorem BlockQ_exit {id Q i} : BlockQ id Q (.exit i) = Q (cnd (i.beq id) .normal (.exit i)) := rfl

theorem Wp_block {id : Nat} {b : Code} {Q} (h : Wp E nt b fr H n (BlockQ id Q)) : Wp E nt (.block id b) fr H n Q := by
  obtain ⟨f, x, fr', H', n', h1, h2⟩ := h
  cases x with
  | normal => exact ⟨f + 1, _, fr', H', n', by show blockK id (evc E f nt b fr H n) = _; rw [h1]; rfl, h2⟩
  | ret => exact ⟨f + 1, _, fr', H', n', by show blockK id (evc E f nt b fr H n) = _; rw [h1]; rfl, h2⟩
  | exit i =>
    refine ⟨f + 1, _, fr', H', n', ?_, h2⟩
    show blockK id (evc E f nt b fr H n) = _
    rw [h1]
    simp only [blockK]
    cases i.beq id <;> rfl

theorem Wp_scope {b : Code} {Q} (h : Wp E nt b fr H n Q) : Wp E nt (.scope b) fr H n Q := by
  obtain ⟨f, x, fr', H', n', h1, h2⟩ := h
  exact ⟨f + 1, x, fr', H', n', h1, h2⟩

/-- A loop, by an invariant with a number that falls. -/
theorem Wp_loop {b : Code} {Q} (I : Nat → Fr → Hp → Nat → Prop) (hb : ∀ k fr H n, I k fr H n → Wp E nt b fr H n (SeqQ (fun fr' H' n' => ∃ j, j < k ∧ I j fr' H' n') Q)) :
    ∀ {k fr H n}, I k fr H n → Wp E nt (.loop b) fr H n Q := by
  intro k
  induction k using Nat.strongRecOn with
  | ind k ih =>
    intro fr H n hi
    have h := hb k fr H n hi
    have h : Wp E nt b fr H n (SeqQ (fun fr H n => Wp E nt (.loop b) fr H n Q) Q) := h.mono fun x fr' H' n' hq => by
      cases x with
      | normal => obtain ⟨j, h1, h2⟩ := hq; exact ih j h1 h2
      | exit i => exact hq
      | ret => exact hq
    obtain ⟨f, x, fr', H', n', h1, h2⟩ := seq_wp h
    exact ⟨f + 1, x, fr', H', n', h1, h2⟩

/-! Operations. -/
def WPut (nt : Nat) (fr : Fr) (dst : Option Tmp) (v : Value) (K : Fr → Prop) : Prop := ∃ fr', put? nt fr dst v = some fr' ∧ K fr'
theorem WPut_none {v K} : WPut nt fr none v K ↔ K fr := ⟨fun ⟨_, h, k⟩ => by cases h; exact k, fun k => ⟨_, rfl, k⟩⟩
theorem WPut_some {d : Tmp} {v K} : WPut nt fr (some d) v K ↔ d < nt ∧ K (fr.put d v) := by
  unfold WPut put?
  constructor
  · rintro ⟨fr', h, k⟩
    obtain ⟨h1, h⟩ := cnd_some h
    cases h
    exact ⟨by simpa using h1, k⟩
  · rintro ⟨h, k⟩
    refine ⟨_, ?_, k⟩
    show cnd (d.blt nt) _ _ = _
    rw [show d.blt nt = true by simpa using h]; rfl

/-- Operations, one behind the other. -/
def WOps (E : Env) (nt : Nat) (ops : Array Oper) : List Oper → Fr → Hp → Nat → (Fr → Hp → Nat → Prop) → Prop
  | [], fr, H, n, K => K fr H n
  | o :: os, fr, H, n, K => cnd (wanted ops fr o) (WOp E o.op fr H n fun v H' n' => WPut nt fr o.dst v fun fr' => WOps E nt ops os fr' H' n' K)
      (WPut nt fr o.dst undef fun fr' => WOps E nt ops os fr' H n K)

theorem opsF_wp {ops : Array Oper} {K : Fr → Hp → Nat → Prop} : ∀ {l : List Oper} {fr : Fr} {H : Hp} {n : Nat}, WOps E nt ops l fr H n K → ∃ f fr' H' n', opsF E (evc E f) nt ops l fr H n = some (.normal, fr', H', n') ∧ K fr' H' n'
  | [], fr, H, n, k => ⟨0, fr, H, n, rfl, k⟩
  | o :: os, fr, H, n, h => by
    simp only [WOps] at h
    cases hw : wanted ops fr o with
    | true =>
      rw [hw, cnd_true] at h
      obtain ⟨f, v, H1, n1, h1, fr1, h2, h3⟩ := h
      obtain ⟨f2, fr', H', n', h4, k⟩ := opsF_wp h3
      refine ⟨max f f2, fr', H', n', ?_, k⟩
      show putK nt o (opsF E (evc E (max f f2)) nt ops os) fr (cnd (wanted ops fr o) (oper o.op E (evc E (max f f2)) fr H n) (some (undef, H, n))) = _
      rw [hw, cnd_true, oper_mono (evc_le E (Nat.le_max_left f f2)) h1]
      simp only [putK, h2]
      exact opsF_mono (evc_le E (Nat.le_max_right f f2)) h4
    | false =>
      rw [hw, cnd_false] at h
      obtain ⟨fr1, h2, h3⟩ := h
      obtain ⟨f2, fr', H', n', h4, k⟩ := opsF_wp h3
      refine ⟨f2, fr', H', n', ?_, k⟩
      show putK nt o (opsF E (evc E f2) nt ops os) fr (cnd (wanted ops fr o) (oper o.op E (evc E f2) fr H n) (some (undef, H, n))) = _
      rw [hw, cnd_false]
      simp only [putK, h2]
      exact h4

theorem Wp_region {id : Nat} {ops : Array Oper} {Q} (h : WOps E nt ops ops.toList fr H n (Q .normal)) : Wp E nt (.region id ops false) fr H n Q := by
  obtain ⟨f, fr', H', n', h1, h2⟩ := opsF_wp h
  exact ⟨f + 1, _, fr', H', n', h1, h2⟩

/-! Calls. -/
def RetQ (E : Env) (rs : List ResultVar) (K : Value → Hp → Nat → Prop) : Ex → Fr → Hp → Nat → Prop
  | .exit _, _, _, _ => False
  | _, fr, H, n => ∃ vs, resOf E H fr rs = some vs ∧ K (tupOf vs) H n
@[simp] theorem RetQ_normal {rs K fr H n} : RetQ E rs K .normal fr H n ↔ ∃ vs, resOf E H fr rs = some vs ∧ K (tupOf vs) H n := Iff.rfl
@[simp] theorem RetQ_ret {rs K fr H n} : RetQ E rs K .ret fr H n ↔ ∃ vs, resOf E H fr rs = some vs ∧ K (tupOf vs) H n := Iff.rfl
@[simp] theorem RetQ_exit {rs K fr H n i} : RetQ E rs K (.exit i) fr H n ↔ False := Iff.rfl

theorem WCall_intro {g : FuncId} {fn : Func} {c : Code} {args : List Value} {K} (ho : E.orc g args H = none) (hf : E.funcs g = some fn) (hc : fn.body = some c) (hl : Nat.ble args.length fn.ntmps = true)
    (h : Wp E fn.ntmps c (putArgs .leaf 0 args) H n (RetQ E fn.results.toList K)) : WCall E g args H n K := by
  obtain ⟨f, x, fr', H', n', h1, h2⟩ := h
  refine ⟨f, ?_⟩
  unfold run callF
  simp only [ho, hf, hc, hl, cnd_true, h1]
  cases x with
  | exit i => exact h2.elim
  | normal => obtain ⟨vs, h3, k⟩ := h2; simp only [h3]; exact ⟨_, _, _, rfl, k⟩
  | ret => obtain ⟨vs, h3, k⟩ := h2; simp only [h3]; exact ⟨_, _, _, rfl, k⟩

/-- A call that is answered at once. -/
theorem WCall_orc {g : FuncId} {fn : Func} {c : Code} {args : List Value} {v : Value} {K} (ho : E.orc g args H = some v) (hf : E.funcs g = some fn) (hc : fn.body = some c) (h : K v H n) : WCall E g args H n K := by
  refine ⟨0, ?_⟩
  unfold run callF
  simp only [ho, hf, hc]
  exact ⟨_, _, _, rfl, h⟩

theorem WVal_func {g : FuncId} {a c : Array Value} {args : List Value} {K} : WVal E (.func (.func g) a c) args H n K ↔ WCall E g (a.toList ++ args ++ c.toList) H n K := Iff.rfl

theorem WOp_call_func {g : FuncId} {xs : Array Operand} {ts : Array TypeId} {K} {vs : List Value} (hv : opvs E fr xs.toList = some vs) (h : WCall E g vs H n K) : WOp E (.call ⟨.value (.func g), xs, ts⟩) fr H n K := by
  obtain ⟨f, h⟩ := h
  refine ⟨f, ?_⟩
  show PostM (callO E (evc E f) (some (.func (.func g) #[] #[])) (opvs E fr xs.toList) H n) K
  rw [hv]
  show PostM (callF E (evc E f) g ([] ++ vs ++ []) H n) K
  rw [List.nil_append, List.append_nil]
  exact h

theorem WOp_call_val {x : Operand} {xs : Array Operand} {ts : Array TypeId} {K} {v : Value} {vs : List Value} (hx : opv E fr x = some v) (hv : opvs E fr xs.toList = some vs) (h : WVal E v vs H n K) : WOp E (.call ⟨.value x, xs, ts⟩) fr H n K := by
  obtain ⟨f, h⟩ := h
  refine ⟨f, ?_⟩
  show PostM (callO E (evc E f) (opv E fr x) (opvs E fr xs.toList) H n) K
  rw [hx, hv]
  exact h

/-- An operation that calls nothing. -/
def noCall : Op → Bool
  | .call c => (match c.callee with | .builtin _ => true | _ => false)
  | _ => true

theorem oper_noCall {o : Op} (h : noCall o = true) (ev ev' : Ev) : oper o E ev fr H n = oper o E ev' fr H n := by
  cases o <;> try rfl
  rename_i c
  obtain ⟨cl, xs, ts⟩ := c
  cases cl with
  | value f => cases h
  | invoke r m => cases h
  | builtin b => rfl

theorem WOp_noCall {o : Op} {K} (h : noCall o = true) : WOp E o fr H n K ↔ PostM (oper o E (fun _ _ _ _ _ => none) fr H n) K :=
  ⟨fun ⟨f, hp⟩ => by rwa [oper_noCall h _ (evc E f)], fun hp => ⟨0, hp⟩⟩
end Go.Ab

/- Open runs: beyond the next number a heap is empty, and stays so; regions that draw their order, where what is read stands still. -/
namespace Go.Ab
variable {E : Env} {H : Hp} {nt : Nat} {fr : Fr} {n : Nat} {ev : Ev}

/-- No block from this number on. -/
def Fresh (H : Hp) (n : Nat) : Prop := ∀ b, n ≤ b → H.get b = none
def Grow (H : Hp) (n : Nat) (H' : Hp) (n' : Nat) : Prop := Fresh H n → n ≤ n' ∧ Fresh H' n'

theorem Grow.refl (H : Hp) (n : Nat) : Grow H n H n := fun h => ⟨Nat.le_refl _, h⟩
theorem Grow.trans {H1 H2 H3 : Hp} {n1 n2 n3 : Nat} (h : Grow H1 n1 H2 n2) (h' : Grow H2 n2 H3 n3) : Grow H1 n1 H3 n3 := fun f => by
  obtain ⟨a, b⟩ := h f
  obtain ⟨c, d⟩ := h' b
  exact ⟨Nat.le_trans a c, d⟩
theorem Grow.new (H : Hp) (n : Nat) (X : Blk) : Grow H n (H.put n X) (n + 1) := fun h => by
  refine ⟨by omega, fun b hb => ?_⟩
  rw [T.get_put_ne _ _ (by omega)]
  exact h b (by omega)
theorem Grow.old {k : Nat} {X Y : Blk} (hk : H.get k = some X) : Grow H n (H.put k Y) n := fun h => by
  refine ⟨by omega, fun b hb => ?_⟩
  by_cases e : b = k
  · subst e; rw [h b hb] at hk; cases hk
  · rw [T.get_put_ne _ _ e]; exact h b hb

theorem newB_grow {b : Blk} {u v : Value} {H' : Hp} {n' : Nat} (h : newB H n b u = some (v, H', n')) : Grow H n H' n' := by
  cases h; exact .new _ _ _
theorem lift_grow {u : Option Value} {v : Value} {H' : Hp} {n' : Nat} (h : lift u H n = some (v, H', n')) : Grow H n H' n' := by
  obtain ⟨_, rfl, rfl⟩ := lift_some2 h; exact .refl _ _
theorem writeC_grow {a : Addr} {vs : List Value} {H' : Hp} (h : writeC H a vs = some H') : Grow H n H' n := by
  unfold writeC at h
  split at h
  · cases h; exact .refl _ _
  · split at h
    · obtain ⟨_, h⟩ := cnd_some h
      cases h
      exact .old (by assumption)
    · cases h

theorem appendV_grow {ts : Array TypeId} {s x v : Value} {H' : Hp} {n' : Nat} (h : appendV E H n ts s x = some (v, H', n')) : Grow H n H' n' := by
  unfold appendV at h
  (repeat' split at h) <;> try (cases h; done)
  unfold appTo at h
  obtain ⟨_, h⟩ := cnd_some h
  rw [cnd_eq] at h
  split at h
  · obtain ⟨_, h⟩ := cnd_some h
    cases h; exact .refl _ _
  · unfold appAt at h
    split at h
    · obtain ⟨_, h⟩ := cnd_some h
      exact newB_grow h
    · split at h
      · rw [cnd_eq] at h
        split at h
        · unfold appIn at h
          split at h
          · rename_i hw
            cases h; exact writeC_grow hw
          · cases h
        · unfold appGrow at h
          split at h
          · cases h
          · split at h
            · exact newB_grow h
            · cases h
          · obtain ⟨_, h⟩ := cnd_some h
            cases h
            exact (Grow.old (by assumption)).trans (.new _ _ _)
      · cases h

theorem hBuiltin_grow {b : Builtin} {ts : Array TypeId} {vs : Option (List Value)} {v : Value} {H' : Hp} {n' : Nat} (h : hBuiltin E H n b ts vs = some (v, H', n')) : Grow H n H' n' := by
  unfold hBuiltin at h
  split at h
  · split at h
    · exact appendV_grow h
    · cases h
  · split at h
    · unfold hCopy at h
      (repeat' split at h) <;> first
        | (cases h; done)
        | (obtain ⟨_, h⟩ := cnd_some h; cases h; exact .refl _ _)
        | (rename_i hw; cases h; exact writeC_grow hw)
    · cases h
  · split at h
    · unfold hClear at h
      (repeat' split at h) <;> first
        | (cases h; done)
        | (cases h; exact .refl _ _)
        | (rename_i hw; cases h; exact writeC_grow hw)
    · cases h
  · cases h

def GrowEv (ev : Ev) : Prop := ∀ nt c fr H n x fr' H' n', ev nt c fr H n = some (x, fr', H', n') → Grow H n H' n'

theorem callF_grow (hev : GrowEv ev) {g : FuncId} {args : List Value} {v : Value} {H' : Hp} {n' : Nat} (h : callF E ev g args H n = some (v, H', n')) : Grow H n H' n' := by
  unfold callF at h
  split at h
  · split at h
    · split at h
      · cases h; exact .refl _ _
      obtain ⟨_, h⟩ := cnd_some h
      split at h
      · rename_i he
        have := hev _ _ _ _ _ _ _ _ _ he
        split at h
        · cases h; exact this
        · cases h
      · rename_i he
        have := hev _ _ _ _ _ _ _ _ _ he
        split at h
        · cases h; exact this
        · cases h
      · cases h
    · cases h
  · cases h

theorem endRoundF_grow {l : Nat} {x : Ex} {v : Value} {H' : Hp} {n' : Nat} (h : endRoundF l x H n = some (v, H', n')) : Grow H n H' n' := by
  unfold endRoundF at h
  split at h
  · cases h; exact .old (by assumption)
  · cases h

theorem bodyF_grow (hev : GrowEv ev) {l nt : Nat} {body : Code} {v : Value} {H' : Hp} {n' : Nat} (h : bodyF ev l nt body fr H n = some (v, H', n')) : Grow H n H' n' := by
  unfold bodyF at h
  split at h
  · split at h
    · split at h
      · rename_i he
        exact ((Grow.old (by assumption)).trans (hev _ _ _ _ _ _ _ _ _ he)).trans (endRoundF_grow h)
      · cases h
    · cases h
  · cases h

theorem roundF_grow (hev : GrowEv ev) {l : Nat} {args : List Value} {v : Value} {H' : Hp} {n' : Nat} (h : roundF ev l args H n = some (v, H', n')) : Grow H n H' n' := by
  unfold roundF at h
  split at h
  · split at h
    · split at h
      · rename_i he
        exact (hev _ _ _ _ _ _ _ _ _ he).trans (bodyF_grow hev h)
      · cases h
    · cases h
  · cases h

theorem callV_grow (hev : GrowEv ev) {u : Value} {args : List Value} {v : Value} {H' : Hp} {n' : Nat} (h : callV E ev u args H n = some (v, H', n')) : Grow H n H' n' := by
  unfold callV at h
  split at h
  · exact callF_grow hev h
  · exact roundF_grow hev h
  · cases h
theorem callG_grow (hev : GrowEv ev) {u : Value} {args : List Value} {v : Value} {H' : Hp} {n' : Nat} (h : callG E ev u args H n = some (v, H', n')) : Grow H n H' n' := by
  unfold callG at h
  split at h
  · exact callF_grow hev h
  · cases h

theorem oper_grow (hev : GrowEv ev) {o : Op} {v : Value} {H' : Hp} {n' : Nat} (h : oper o E ev fr H n = some (v, H', n')) : Grow H n H' n' := by
  cases o <;> simp only [oper] at h <;> first
    | exact lift_grow h
    | skip
  case alloc => unfold hAlloc at h; split at h; exact newB_grow h; cases h
  case box => unfold hBox at h; split at h; exact newB_grow h; cases h
  case buildSlice =>
    unfold hBuildSlice at h
    split at h
    · obtain ⟨_, h⟩ := cnd_some h
      split at h
      · exact newB_grow h
      · cases h
    · cases h
  case store =>
    unfold hStore at h
    split at h
    · unfold undo at h
      split at h
      · rename_i hs
        cases h
        unfold storeV at hs
        split at hs
        · obtain ⟨_, hs⟩ := cnd_some hs
          exact writeC_grow hs
        · cases hs
      · cases h
    · cases h
  case makeSlice =>
    unfold hMake at h
    split at h
    · obtain ⟨_, h⟩ := cnd_some h
      exact newB_grow h
    · cases h
  case convert =>
    unfold cConv at h
    rw [cnd_eq] at h
    split at h
    · unfold hConv at h
      split at h
      · split at h
        · obtain ⟨_, h⟩ := cnd_some h
          exact newB_grow h
        · cases h
      · split at h
        · obtain ⟨_, h⟩ := cnd_some h
          cases h; exact .refl _ _
        · cases h
      · cases h
    · exact lift_grow h
  case call =>
    unfold cCall at h
    split at h
    · unfold callO at h
      split at h
      · exact callV_grow hev h
      · cases h
    · rw [cnd_eq] at h
      split at h
      · exact lift_grow h
      · exact hBuiltin_grow h
    · cases h

theorem opsF_grow (hev : GrowEv ev) {ops : Array Oper} : ∀ {l : List Oper} {fr : Fr} {H : Hp} {n : Nat} {x fr' H' n'}, opsF E ev nt ops l fr H n = some (x, fr', H', n') → Grow H n H' n'
  | [], _, _, _, _, _, _, _, e => by cases e; exact .refl _ _
  | o :: os, fr, H, n, x, fr', H', n', e => by
    have e : putK nt o (opsF E ev nt ops os) fr (cnd (wanted ops fr o) (oper o.op E ev fr H n) (some (undef, H, n))) = some (x, fr', H', n') := e
    unfold putK at e
    split at e
    · rename_i v1 H1 n1 h1
      split at e
      · refine Grow.trans ?_ (opsF_grow hev e)
        rw [cnd_eq] at h1
        split at h1
        · exact oper_grow hev h1
        · cases h1; exact .refl _ _
      · cases e
    · cases e

theorem traceF_grow (hev : GrowEv ev) {ops : Array Oper} : ∀ {L : List PO} {fr : Fr} {H : Hp} {n : Nat} {l fr' H' n'}, traceF E ev nt ops L fr H n = some (l, fr', H', n') → Grow H n H' n'
  | [], _, _, _, _, _, _, _, e => by cases e; exact .refl _ _
  | x :: xs, fr, H, n, l, fr', H', n', e => by
    simp only [traceF] at e
    rw [cnd_eq] at e
    split at e
    · split at e
      · rename_i h1
        split at e
        · obtain ⟨_, e⟩ := cnd_some e
          split at e
          · rename_i h2
            cases e
            exact (oper_grow hev h1).trans (traceF_grow hev h2)
          · cases e
        · cases e
      · cases e
    · split at e
      · split at e
        · rename_i h2
          cases e
          exact traceF_grow hev h2
        · cases e
      · cases e

theorem evc_grow (E : Env) : ∀ f, GrowEv (evc E f)
  | 0 => fun _ _ _ _ _ _ _ _ _ h => by cases h
  | f + 1 => fun nt c fr H n x fr' H' n' h => by
    have ih := evc_grow E f
    have hseq : ∀ {a b : Code} {x fr' H' n'}, seqK (evc E f nt b) (evc E f nt a fr H n) = some (x, fr', H', n') → Grow H n H' n' := by
      intro a b x fr' H' n' h
      unfold seqK at h
      split at h
      · rename_i h1
        exact (ih _ _ _ _ _ _ _ _ _ h1).trans (ih _ _ _ _ _ _ _ _ _ h)
      · exact ih _ _ _ _ _ _ _ _ _ h
    cases c with
    | skip => cases h; exact .refl _ _
    | label l => cases h; exact .refl _ _
    | exit i => cases h; exact .refl _ _
    | ret => cases h; exact .refl _ _
    | goto l => cases h
    | refuse w => cases h
    | seq a b => exact hseq (a := a) (b := b) h
    | loop b => exact hseq (a := b) (b := .loop b) h
    | scope b => exact ih nt b _ _ _ _ _ _ _ h
    | cond y a b =>
      have h : condK (opv E fr y) (evc E f nt a fr H n) (evc E f nt b fr H n) = some (x, fr', H', n') := h
      unfold condK at h
      split at h
      · rw [cnd_eq] at h
        split at h <;> exact ih _ _ _ _ _ _ _ _ _ h
      · cases h
    | block id b =>
      have h : blockK id (evc E f nt b fr H n) = some (x, fr', H', n') := h
      unfold blockK at h
      split at h
      · rename_i h1
        rw [cnd_eq] at h
        split at h <;> (cases h; exact ih _ _ _ _ _ _ _ _ _ h1)
      · exact ih _ _ _ _ _ _ _ _ _ h
    | region id ops d =>
      cases d with
      | false => exact opsF_grow (x := x) (fr' := fr') ih h
      | true =>
        have h : drawnF E (evc E f) nt ops fr H n = some (x, fr', H', n') := h
        unfold drawnF at h
        split at h
        · split at h
          · rename_i h1
            obtain ⟨_, h⟩ := cnd_some h
            cases h
            exact traceF_grow ih h1
          · cases h
        · cases h
    | rangeFunc g ps a b =>
      have h : rangeF E (evc E f) nt g ps a b fr H n = some (x, fr', H', n') := h
      unfold rangeF at h
      split at h
      · split at h
        · rename_i h1
          have g1 := (Grow.new H n _).trans (callG_grow ih h1)
          split at h
          · rename_i L h2
            have g2 : ∀ X, Grow _ _ _ _ := fun X => g1.trans (Grow.old (n := _) (Y := X) h2)
            split at h
            · cases h
            · cases h; exact g2 _
            · cases h; exact g2 _
            · cases h; exact g2 _
            · cases h
          · cases h
        · cases h
      · cases h

theorem Wp.fresh {c : Code} {Q} (hf : Fresh H n) (h : Wp E nt c fr H n Q) : Wp E nt c fr H n (fun x fr' H' n' => n ≤ n' ∧ Fresh H' n' ∧ Q x fr' H' n') := by
  obtain ⟨f, x, fr', H', n', h1, h2⟩ := h
  obtain ⟨g1, g2⟩ := evc_grow E f _ _ _ _ _ _ _ _ _ h1 hf
  exact ⟨f, x, fr', H', n', h1, g1, g2, h2⟩
theorem WOp.fresh {o : Op} {K} (hf : Fresh H n) (h : WOp E o fr H n K) : WOp E o fr H n (fun v H' n' => n ≤ n' ∧ Fresh H' n' ∧ K v H' n') := by
  obtain ⟨f, v, H', n', h1, h2⟩ := h
  obtain ⟨g1, g2⟩ := oper_grow (evc_grow E f) h1 hf
  exact ⟨f, v, H', n', h1, g1, g2, h2⟩
theorem WCall.fresh {g : FuncId} {args : List Value} {K} (hf : Fresh H n) (h : WCall E g args H n K) : WCall E g args H n (fun v H' n' => n ≤ n' ∧ Fresh H' n' ∧ K v H' n') := by
  obtain ⟨f, v, H', n', h1, h2⟩ := h
  obtain ⟨g1, g2⟩ := callF_grow (evc_grow E f) h1 hf
  exact ⟨f, v, H', n', h1, g1, g2, h2⟩

/-! Regions that draw. -/
/-- A heap that holds all that another one holds. -/
def Hp.sub (H G : Hp) : Prop := ∀ b X, H.get b = some X → G.get b = some X
theorem Hp.sub_refl (H : Hp) : Hp.sub H H := fun _ _ h => h
theorem Hp.sub_trans {H G K : Hp} (h : Hp.sub H G) (h' : Hp.sub G K) : Hp.sub H K := fun _ _ e => h' _ _ (h _ _ e)
theorem Hp.sub_put (hf : Fresh H n) (X : Blk) : Hp.sub H (H.put n X) := fun b Y h => by
  by_cases e : b = n
  · subst e; rw [hf b (Nat.le_refl _)] at h; cases h
  · rw [T.get_put_ne _ _ e]; exact h

theorem readC_mono {G : Hp} (hs : Hp.sub H G) {a : Addr} {k : Nat} {l} (h : readC H a k = some l) : readC G a k = some l := by
  unfold readC at h ⊢
  split at h
  · exact h
  · split at h
    · rename_i h1
      rw [hs _ _ h1]; exact h
    · cases h

theorem light_mono {G : Hp} (hs : Hp.sub H G) {o : Op} (hr : isRead o = true) {v : Value} (h : light o E H fr = some v) : light o E G fr = some v := by
  cases o <;> simp only [isRead] at hr <;> try (cases hr; done)
  case load t a =>
    simp only [light] at h ⊢
    unfold lLoad at h ⊢
    split at h
    · unfold loadV at h ⊢
      split at h
      · rename_i ti _
        cases hagg : ti.agg with
        | true =>
          rw [hagg] at h
          simp only [cnd_true] at h ⊢
          split at h
          · rename_i h1
            rw [readC_mono hs h1]; exact h
          · cases h
        | false =>
          rw [hagg] at h
          simp only [cnd_false] at h ⊢
          split at h
          · rename_i h1
            rw [hs _ _ h1]; exact h
          · cases h
      · cases h
    · cases h
  case convert s d x =>
    simp only [light] at h ⊢
    unfold lConv at h ⊢
    split at h
    · exact h
    · unfold convS at h ⊢
      split at h
      · split at h
        · obtain ⟨h1, h⟩ := cnd_some h
          rw [h1, cnd_true]
          unfold bytesStr at h ⊢
          split at h
          · exact h
          · split at h
            · rename_i h2
              rw [readC_mono hs h2]; exact h
            · cases h
        · cases h
      · cases h
    · cases h
  case slice t x lo hi mx =>
    simp only [light] at h ⊢
    unfold lSlice3 at h ⊢
    split at h
    · unfold lSlice at h ⊢
      split at h
      · obtain ⟨h1, h⟩ := cnd_some h
        rw [h1, cnd_true]
        unfold sliceV at h ⊢
        split at h
        · split at h
          · split at h
            · split at h
              · split at h
                · exact h
                · unfold sliceB at h ⊢
                  split at h
                  · rename_i h2
                    rw [hs _ _ h2]; exact h
                  · cases h
              · cases h
            · cases h
          · cases h
        · split at h
          · split at h
            · split at h
              · unfold sliceA at h ⊢
                split at h
                · rename_i h2
                  rw [hs _ _ h2]; exact h
                · cases h
              · cases h
            · cases h
          · cases h
        · exact h
        · cases h
      · cases h
    · cases h
  case call c =>
    simp only [light] at h ⊢
    unfold lCall at h ⊢
    split at h
    · unfold lBuiltin at h ⊢
      rename_i b hb
      cases b <;> first | exact h | skip
      simp only at h ⊢
      split at h
      · unfold lCap at h ⊢
        split at h
        · obtain ⟨h1, h⟩ := cnd_some h
          rw [h1, cnd_true]
          split at h
          · exact h
          · split at h
            · rename_i h2
              rw [hs _ _ h2]; exact h
            · cases h
        · cases h
      · cases h
    · cases h

/-- The heap ahead of a place. -/
def heapAt (tr : List St) (Hend : Hp) (h : Nat) : Hp :=
  match tr[h]? with
  | some s => s.H
  | none => Hend
/-- The operation i, which was carried out in place j, reads the same in place h. -/
def OblAt (E : Env) (ops : Array Oper) (tr : List St) (Hend : Hp) (j i h : Nat) : Prop :=
  match tr[j]?, ops[i]? with
  | some s, some o => (match s.v with
    | some v => light o.op E (heapAt tr Hend h) s.fr = some v
    | none => True)
  | _, _ => False
def Obls (E : Env) (ops : Array Oper) (tr : List St) (Hend : Hp) : List (Nat × Nat × Nat) → Prop
  | [] => True
  | (j, i, h) :: r => OblAt E ops tr Hend j i h ∧ Obls E ops tr Hend r

/-- Operations of a region that draws, in an order; what is to be shown at its end of what is read. -/
def WD (E : Env) (nt : Nat) (ops : Array Oper) (obl : List (Nat × Nat × Nat)) : List Nat → List St → Fr → Hp → Nat → (Fr → Hp → Nat → Prop) → Prop
  | [], tr, fr, H, n, K => K fr H n ∧ Obls E ops tr H obl
  | i :: xs, tr, fr, H, n, K => match ops[i]? with
    | some o => cnd (wanted ops fr o)
      (WOp E o.op fr H n fun v H' n' => (isFresh E o.op = true → n' = n + 1) ∧ (isRead o.op = true → veq v v = true) ∧
        WPut nt fr o.dst v fun fr' => WD E nt ops obl xs (tr ++ [⟨fr, H, n, some v⟩]) fr' H' n' K)
      (WPut nt fr o.dst undef fun fr' => WD E nt ops obl xs (tr ++ [⟨fr, H, n, none⟩]) fr' H n K)
    | none => False

theorem traceF_wp {ops : Array Oper} {obl : List (Nat × Nat × Nat)} {K : Fr → Hp → Nat → Prop} : ∀ {L : List PO} {ord : List Nat} {tr : List St} {fr : Fr} {H : Hp} {n : Nat}, L.map (·.i) = ord → (∀ x ∈ L, ops[x.i]? = some x.o) → WD E nt ops obl ord tr fr H n K →
    ∃ f l fr' H' n', traceF E (evc E f) nt ops L fr H n = some (l, fr', H', n') ∧ K fr' H' n' ∧ Obls E ops (tr ++ l) H' obl ∧
      ∀ (j : Nat) (x : PO) (s : St) (v : Value), L[j]? = some x → l[j]? = some s → s.v = some v → isRead x.o.op = true → veq v v = true
  | [], [], tr, fr, H, n, _, _, h => ⟨0, [], fr, H, n, rfl, h.1, by rw [List.append_nil]; exact h.2, fun j x s v h => by simp at h⟩
  | [], _ :: _, tr, fr, H, n, h, _, _ => by simp at h
  | _ :: _, [], tr, fr, H, n, h, _, _ => by simp at h
  | x :: xs, i :: ord, tr, fr, H, n, hm, ha, h => by
    simp only [List.map_cons, List.cons.injEq] at hm
    obtain ⟨hi, hm⟩ := hm
    subst hi
    have hx := ha x (List.mem_cons_self ..)
    have ha' : ∀ y ∈ xs, ops[y.i]? = some y.o := fun y hy => ha y (List.mem_cons_of_mem _ hy)
    simp only [WD, hx] at h
    cases hw : wanted ops fr x.o with
    | true =>
      rw [hw, cnd_true] at h
      obtain ⟨f, v, H1, n1, h1, hn, hq, fr1, h2, h3⟩ := h
      obtain ⟨f2, l, fr', H', n', h4, k, ho, hv⟩ := traceF_wp hm ha' h3
      refine ⟨max f f2, ⟨fr, H, n, some v⟩ :: l, fr', H', n', ?_, k, by simpa using ho, ?_⟩
      · simp only [traceF]
        rw [hw, cnd_true, oper_mono (evc_le E (Nat.le_max_left f f2)) h1]
        simp only [h2]
        have : cnd (isFresh E x.o.op) (n1.beq (n + 1)) true = true := by
          cases hi : isFresh E x.o.op with
          | false => rfl
          | true => rw [hn hi, cnd_true, Nat.beq_refl]
        rw [this, cnd_true, traceF_mono (evc_le E (Nat.le_max_right f f2)) h4]
      · intro j y s u g1 g2 g3 g4
        cases j with
        | zero =>
          simp only [List.getElem?_cons_zero, Option.some.injEq] at g1 g2
          subst g1 g2
          cases g3
          exact hq g4
        | succ j => exact hv j y s u (by simpa using g1) (by simpa using g2) g3 g4
    | false =>
      rw [hw, cnd_false] at h
      obtain ⟨fr1, h2, h3⟩ := h
      obtain ⟨f2, l, fr', H', n', h4, k, ho, hv⟩ := traceF_wp hm ha' h3
      refine ⟨f2, ⟨fr, H, n, none⟩ :: l, fr', H', n', ?_, k, by simpa using ho, ?_⟩
      · simp only [traceF]
        rw [hw, cnd_false, h2]
        simp only [h4]
      · intro j y s u g1 g2 g3 g4
        cases j with
        | zero =>
          simp only [List.getElem?_cons_zero, Option.some.injEq] at g1 g2
          subst g1 g2
          cases g3
        | succ j => exact hv j y s u (by simpa using g1) (by simpa using g2) g3 g4

/-- No heavy operation stands from place j up to place h. -/
def noHeavy (E : Env) (L : List PO) (j h : Nat) : Bool :=
  (List.range (h - j)).all fun d => (match L[j + d]? with
    | some x => !isHeavy E x.o.op
    | _ => false)
def hasObl : List (Nat × Nat × Nat) → Nat → Nat → Nat → Bool
  | [], _, _, _ => false
  | (j, i, h) :: r, a, b, c => (j.beq a && (i.beq b && h.beq c)) || hasObl r a b c
theorem hasObl_at {ops : Array Oper} {tr : List St} {HE : Hp} {a b c : Nat} : ∀ {obl : List (Nat × Nat × Nat)}, hasObl obl a b c = true → Obls E ops tr HE obl → OblAt E ops tr HE a b c
  | [], h, _ => by cases h
  | (j, i, h) :: r, h1, h2 => by
    simp only [hasObl, Bool.or_eq_true, Bool.and_eq_true] at h1
    rcases h1 with h1 | h1
    · obtain ⟨e1, e2, e3⟩ := h1
      have e1 := Nat.eq_of_beq_eq_true e1
      have e2 := Nat.eq_of_beq_eq_true e2
      have e3 := Nat.eq_of_beq_eq_true e3
      subst e1 e2 e3
      exact h2.1
    · exact hasObl_at h1 h2.2

noncomputable def readOk (E : Env) (L : List PO) (obl : List (Nat × Nat × Nat)) (x : PO) (j h : Nat) : Bool :=
  cnd (mayAt E x h L 0) (hasObl obl j x.i h || (Nat.ble j h && noHeavy E L j h)) true
noncomputable def readsOk (E : Env) (L : List PO) (obl : List (Nat × Nat × Nat)) : Bool :=
  (List.range L.length).all fun j => (match L[j]? with
    | some x => cnd (isRead x.o.op && !isFresh E x.o.op && !isHeavy E x.o.op)
        ((List.range (L.length + 1)).all fun h => cnd (match L[h]? with | some y => isHeavy E y.o.op | none => true) (readOk E L obl x j h) true) true
    | _ => false)

def natsEq : List Nat → List Nat → Bool
  | [], [] => true
  | a :: as, b :: bs => a.beq b && natsEq as bs
  | _, _ => false
theorem natsEq_eq : ∀ {as bs : List Nat}, natsEq as bs = true → as = bs
  | [], [], _ => rfl
  | a :: as, b :: bs, h => by
    simp only [natsEq, Bool.and_eq_true] at h
    rw [Nat.eq_of_beq_eq_true h.1, natsEq_eq h.2]
  | [], _ :: _, h => by cases h
  | _ :: _, [], h => by cases h

/-- What is asked of an order and of what is to be shown, once. -/
noncomputable def tblOk (E : Env) (ops : Array Oper) (ord : List Nat) (obl : List (Nat × Nat × Nat)) : Bool :=
  match plan E ops with
  | some L => natsEq (L.map (·.i)) ord && readsOk E L obl
  | none => false

theorem readAt_of {L0 : List PO} {x : PO} {s : St} {HE : Hp} : ∀ {L : List PO} {tr : List St} {h : Nat}, tr.length = L.length →
    (∀ j, j ≤ L.length → (∀ y, L[j]? = some y → isHeavy E y.o.op = true) → mayAt E x (h + j) L0 0 = true → ∀ fr n, oveq (light x.o.op E (stOf tr ⟨fr, HE, n, none⟩ j).H s.fr) s.v = true) → readAt E L0 x s HE L tr h = true
  | [], [], h, _, hr => by
    simp only [readAt]
    cases hm : mayAt E x h L0 0 with
    | false => rfl
    | true => exact hr 0 (by simp) (by simp) hm .leaf 0
  | y :: L, z :: tr, h, hl, hr => by
    simp only [readAt, Bool.and_eq_true]
    refine ⟨?_, readAt_of (by simpa using hl) fun j hj hy hm fr n => ?_⟩
    · cases h1 : isHeavy E y.o.op with
      | false => rfl
      | true =>
        cases hm : mayAt E x h L0 0 with
        | false => rfl
        | true => exact hr 0 (by simp) (by simp [h1]) hm .leaf 0
    · exact hr (j + 1) (by simpa using hj) (by simpa using hy) (by rwa [show h + (j + 1) = h + 1 + j by omega]) fr n

theorem readsAll_of {L0 : List PO} {tr0 : List St} {HE : Hp} : ∀ {L : List PO} {tr : List St}, tr.length = L.length → (∀ (j : Nat) (x : PO) (s : St), L[j]? = some x → tr[j]? = some s → isRead x.o.op = true → isFresh E x.o.op = false → isHeavy E x.o.op = false → s.v.isSome = true → readAt E L0 x s HE L0 tr0 0 = true) → readsAll E L0 tr0 HE L tr = true
  | [], [], _, _ => rfl
  | y :: L, z :: tr, hl, hr => by
    simp only [readsAll, Bool.and_eq_true]
    refine ⟨?_, readsAll_of (by simpa using hl) fun j x s h1 h2 => hr (j + 1) x s (by simpa using h1) (by simpa using h2)⟩
    cases h : isRead y.o.op && !isFresh E y.o.op && !isHeavy E y.o.op && z.v.isSome with
    | false => rfl
    | true =>
      simp only [Bool.and_eq_true, Bool.not_eq_true'] at h
      exact hr 0 y z rfl rfl h.1.1.1 h.1.1.2 h.1.2 h.2

theorem drawnF_wp {ops : Array Oper} {ord : List Nat} {obl : List (Nat × Nat × Nat)} (hc : tblOk E ops ord obl = true) (hf : Fresh H n) {K : Fr → Hp → Nat → Prop} (h : WD E nt ops obl ord [] fr H n K) :
    ∃ f fr' H' n', drawnF E (evc E f) nt ops fr H n = some (.normal, fr', H', n') ∧ K fr' H' n' := by
  unfold tblOk at hc
  cases hp : plan E ops with
  | none => rw [hp] at hc; cases hc
  | some L =>
  rw [hp] at hc
  simp only [Bool.and_eq_true] at hc
  obtain ⟨hi, hc⟩ := hc
  have hi := natsEq_eq hi
  have hpo := plan_ok hp
  have hat : ∀ x ∈ L, ops[x.i]? = some x.o := fun x hx => by
    obtain ⟨j, hj⟩ := List.mem_iff_getElem?.1 hx
    exact (hpo.po hj).at_
  obtain ⟨f, tr, fr', H', n', h1, k, ho, hv⟩ := traceF_wp (L := L) hi hat h
  rw [List.nil_append] at ho
  refine ⟨f, fr', H', n', ?_, k⟩
  unfold drawnF
  rw [hp]
  simp only [h1]
  suffices hr : readsAll E L tr H' L tr = true by rw [hr]; rfl
  obtain ⟨t1, t2, t3, t4, t5⟩ := traceF_ok L h1
  -- all states' heaps are empty beyond their numbers
  have hfr : ∀ j, j ≤ L.length → Fresh (stOf tr ⟨fr', H', n', none⟩ j).H (stOf tr ⟨fr', H', n', none⟩ j).n := by
    intro j
    induction j with
    | zero => intro _; rw [t3, t4]; exact hf
    | succ j ih =>
      intro hj
      obtain ⟨x, hx⟩ : ∃ x, L[j]? = some x := ⟨_, List.getElem?_eq_getElem (show j < L.length by omega)⟩
      cases t5 hx with
      | done hw hv ho hp hf => exact (oper_grow (evc_grow E f) ho (ih (by omega))).2
      | left hw hv hp hH hn => rw [hH, hn]; exact ih (by omega)
  have hstep : ∀ (d j : Nat), j + d ≤ L.length → noHeavy E L j (j + d) = true → Hp.sub (stOf tr ⟨fr', H', n', none⟩ j).H (stOf tr ⟨fr', H', n', none⟩ (j + d)).H := by
    intro d
    induction d with
    | zero => intro j _ _; exact Hp.sub_refl _
    | succ d ih =>
      intro j hj hh
      have hlt : j + d < L.length := by omega
      have hx : L[j + d]? = some (L[j + d]'hlt) := List.getElem?_eq_getElem hlt
      unfold noHeavy at hh
      rw [List.all_eq_true] at hh
      have h2 : noHeavy E L j (j + d) = true := by
        unfold noHeavy
        rw [List.all_eq_true]
        intro y hy
        refine hh y ?_
        rw [List.mem_range] at hy ⊢
        omega
      have h3 := hh d (by rw [List.mem_range]; omega)
      rw [hx] at h3
      simp only [Bool.not_eq_true'] at h3
      refine Hp.sub_trans (ih j (by omega) h2) ?_
      rw [show j + (d + 1) = j + d + 1 by omega]
      have hfj := hfr (j + d) (by omega)
      cases t5 hx with
      | done hw hv ho hp hf =>
        cases hi : isFresh E (L[j + d]'hlt).o.op with
        | true =>
          obtain ⟨X, e, _⟩ := fresh_form hi ho (hf hi)
          rw [e]
          exact Hp.sub_put hfj X
        | false =>
          obtain ⟨e, _⟩ := calm_form hi h3 ho
          rw [e]; exact Hp.sub_refl _
      | left hw hv hp hH hn => rw [hH]; exact Hp.sub_refl _
  refine readsAll_of t1 fun j x s hx hs r1 r2 r3 r4 => ?_
  have hj : j < L.length := (List.getElem?_eq_some_iff.1 hx).1
  refine readAt_of t1 fun h hh hy hm fr1 n1 => ?_
  rw [Nat.zero_add] at hm
  -- the check at this place
  have hc1 : readOk E L obl x j h = true := by
    unfold readsOk at hc
    rw [List.all_eq_true] at hc
    have := hc j (by rw [List.mem_range]; exact hj)
    rw [hx] at this
    simp only [r1, r2, r3, Bool.not_false, Bool.and_true, cnd_true, List.all_eq_true] at this
    have := this h (by rw [List.mem_range]; omega)
    cases hx2 : L[h]? with
    | none => rw [hx2] at this; exact this
    | some y =>
      rw [hx2] at this
      simp only [hy y hx2, cnd_true] at this
      exact this
  unfold readOk at hc1
  rw [hm, cnd_true, Bool.or_eq_true, Bool.and_eq_true] at hc1
  have hsj : stOf tr ⟨fr', H', n', none⟩ j = s := by unfold stOf; rw [hs]; rfl
  have hend : (stOf tr ⟨fr1, H', n1, none⟩ h).H = heapAt tr H' h := by
    unfold stOf heapAt
    cases tr[h]? <;> rfl
  have hend2 : (stOf tr ⟨fr', H', n', none⟩ h).H = heapAt tr H' h := by
    unfold stOf heapAt
    cases tr[h]? <;> rfl
  rw [hend]
  obtain ⟨v, hv'⟩ := Option.isSome_iff_exists.1 r4
  rw [hv']
  have hfin : light x.o.op E (heapAt tr H' h) s.fr = some v := by
    rcases hc1 with hc1 | ⟨hle, hc1⟩
    · have := hasObl_at hc1 ho
      unfold OblAt at this
      rw [hs, hat x (List.mem_iff_getElem?.2 ⟨j, hx⟩)] at this
      simp only [hv'] at this
      exact this
    · have hjh : j ≤ h := Nat.le_of_ble_eq_true hle
      have hsub := hstep (h - j) j (by omega) (by rw [show j + (h - j) = h by omega]; exact hc1)
      rw [show j + (h - j) = h by omega, hsj, hend2] at hsub
      have hl : light x.o.op E s.H s.fr = some v := by
        have h5 := t5 hx
        rw [hsj] at h5
        cases h5 with
        | done hw hv ho hp hf =>
          rw [hv'] at hv
          cases hv
          exact (calm_form r2 r3 ho).2.2.1
        | left hw hv hp hH hn => rw [hv'] at hv; cases hv
      exact light_mono hsub r1 hl
  rw [hfin]
  exact hv j x s v hx hs hv' r1

theorem Wp_drawn {id : Nat} {ops : Array Oper} (ord : List Nat) (obl : List (Nat × Nat × Nat)) {Q} (hc : tblOk E ops ord obl = true) (hf : Fresh H n) (h : WD E nt ops obl ord [] fr H n (Q .normal)) : Wp E nt (.region id ops true) fr H n Q := by
  obtain ⟨f, fr', H', n', h1, h2⟩ := drawnF_wp hc hf h
  exact ⟨f + 1, _, fr', H', n', h1, h2⟩
end Go.Ab
