/- From a law over the evaluator to a law in the model; what rows have in common. -/
import Derived.Test.YtjmfknlbnnpbiaaGreatDoorRb
import Derived.Lay
import Derived.Carry
import Derived.JoinedOf
import Derived.LaidHandle
import Derived.Test.YtjmfknlbnnpbiaaGreatDoorTie
import Derived.Test.YtjmfknlbnnpbiaaGreatDoorCards
import Derived.SevenTiedAt

set_option linter.all false

/- A law, from the evaluator to the model: the start. -/
namespace Go.Ab
open Go.Proofs

instance awakeOk : OrcOk Tryz.prog where
  ok := by
    intro g args v H hv m w args' h ha
    have hv : awakeF g args H = some v := hv
    unfold awakeF at hv
    obtain ⟨h1, h2⟩ := cnd_some hv
    simp only [Bool.and_eq_true] at h1
    obtain ⟨h3, h4, h5⟩ := h1
    obtain rfl := Nat.eq_of_beq_eq_true h3
    cases args with
    | cons => cases h4
    | nil =>
      cases ha
      cases h2
      exact awake_calls (gchk_get h5) h

/-- The heap at the start: the variables' blocks, two arguments'. -/
noncomputable def HSt (X7 X8 : Blk) : Hp := (H0.put 7 X7).put 8 X8
def mSt (pl7 pl8 : Pl) : Mp := fun b => if b < 7 then some ⟨b, 0, (gcells b).length, 0, .ro⟩ else if b = 7 then some pl7 else if b = 8 then some pl8 else none
theorem HSt_get (X7 X8 : Blk) (b : Nat) : (HSt X7 X8).get b = if b = 8 then some X8 else if b = 7 then some X7 else H0.get b := by
  unfold HSt
  rw [T.get_put, T.get_put]

section
variable {W0 : World} {X7 X8 : Blk} {pl7 pl8 : Pl} {u7 v7 u8 v8 : Value}
theorem HSt_ro (h7 : X7.mut = false) (h8 : X8.mut = false) {b : Nat} {X : Blk} (h : (HSt X7 X8).get b = some X) : X.mut = false := by
  rw [HSt_get] at h
  split at h
  · cases h; exact h8
  split at h
  · cases h; exact h7
  rw [H0_get] at h
  split at h
  · cases h; rfl
  · cases h
theorem HSt_own (h7 : X7.mut = false) (h8 : X8.mut = false) {m : Mp} {B : Nat} : ¬ Owned m (HSt X7 X8) B := by
  rintro ⟨b, pl, X, _, h2, h3, _⟩
  rw [HSt_ro h7 h8 h2] at h3
  cases h3
theorem HSt_fresh : Fresh (HSt X7 X8) 9 := by
  intro b hb
  rw [HSt_get, if_neg (by omega), if_neg (by omega), H0_get, if_neg (by omega)]
theorem HSt_gok : GOk (HSt X7 X8) := by
  intro i hi
  rw [HSt_get, if_neg (by omega), if_neg (by omega), H0_get, if_pos hi]
theorem HSt_rel (hg : GW W0) (h7 : ArgOk Tryz.prog W0 7 X7 pl7 u7 v7) (h8 : ArgOk Tryz.prog W0 8 X8 pl8 u8 v8) : Rel Tryz.prog (mSt pl7 pl8) (HSt X7 X8) W0 := by
  refine ⟨fun b X pl h1 h2 => ?_, fun b1 b2 X1 X2 p1 p2 h0 h1 h2 h3 h4 h5 h6 => ?_, fun g hgs => ?_, fun b pl hb => ?_⟩
  · rw [HSt_get] at h1
    unfold mSt at h2
    split at h1
    · rename_i e; subst e
      cases h1; cases h2
      exact h8.rel _
    split at h1
    · rename_i e; subst e
      cases h1; cases h2
      exact h7.rel _
    rw [H0_get] at h1
    split at h1
    · rename_i hb
      rw [if_pos hb] at h2
      cases h1; cases h2
      obtain ⟨arr, g1, g2⟩ := hg b hb
      refine ⟨rfl, ⟨arr, _, g1, ?_, fun h => absurd rfl h, fun i v hi => ?_⟩, fun e => by cases e⟩
      · rw [← g2]; rfl
      · have hs := gcells_scal hb
        rw [List.all_eq_true] at hs
        refine ⟨v, ?_, scal_rel _ (hs v (List.mem_of_getElem? hi))⟩
        rw [← g2] at hi
        simpa using hi
    · cases h1
  · rw [HSt_ro h7.ro h8.ro h1] at h5
    cases h5
  · rw [gsz] at hgs
    exact ⟨_, if_pos hgs, rfl, rfl⟩
  · unfold mSt at hb
    split at hb
    · rename_i h
      cases hb
      obtain ⟨arr, g1, _⟩ := hg b h
      exact (Array.getElem?_eq_some_iff.1 g1).1
    split at hb
    · cases hb; exact h7.inb
    split at hb
    · cases hb; exact h8.inb
    · cases hb

/-- What a call of a law leaves in the model. -/
def LawPost (w : World) (v : Value) (e : Ending) (w' : World) : Prop :=
  e = .returned v ∧ w.heap.size ≤ w'.heap.size ∧ (∀ B, B < w.heap.size → w'.heap[B]? = w.heap[B]?) ∧ w'.os = w.os ∧ w'.tape = w.tape ∧ w'.output = w.output

/-- **A law over the evaluator is a law in the model.** -/
theorem law_calls (hg : GW W0) (h7 : ArgOk Tryz.prog W0 7 X7 pl7 u7 v7) (h8 : ArgOk Tryz.prog W0 8 X8 pl8 u8 v8) {g : FuncId} {args args' : List Value} {b : Bool}
    (ha : ∀ m, VRel m u7 v7 → VRel m u8 v8 → VRels m args args') (hw : WCall TE g args (HSt X7 X8) 9 fun v _ _ => v = .bool b) :
    Calls Tryz.prog g args'.toArray W0 (LawPost W0 (.bool b)) := by
  obtain ⟨f, v, H', n', hr, rfl⟩ := hw
  refine (run_calls namesOk mixedOk f hr (HSt_rel hg h7 h8) (ha (mSt pl7 pl8) (h7.val _ rfl) (h8.val _ rfl)) (fun b hb _ => ?_)).mono ?_
  · unfold mSt
    rw [if_neg (by omega), if_neg (by omega), if_neg (by omega)]
  · rintro e w' ⟨v', m', rfl, h2, _, h4⟩
    have hk : v' = .bool b := scal_same (v := .bool b) h2 rfl
    subst hk
    exact ⟨rfl, h4.size, fun B hB => h4.frame B hB (HSt_own h7.ro h8.ro), h4.os, h4.tape, h4.output⟩
end
end Go.Ab

/- The rows: what they have in common. -/
namespace Go.Ab
open Go.Proofs Go.Proofs.YtjmfknlbnnpbiaaGreatDoor Go.RowKit Go.ChangeShapes Go.WideShapes
section
variable {H : Type} {enc : TypeId × Value → H}

/-- As the kit's wrap, with the world's shape for the walk. -/
theorem handed_shaped {a : Assume} {C : Checked} {os : Os} {f : FuncId} {fn : Func} {s : ChangeSpec} {conds : List PathCond} {apart fresh handsOn again : Bool} {X : World → Array Value → Prop}
    (hX : ∀ (w w' : World) (args : Array Value), w.heap = w'.heap → X w args → X w' args)
    (own : ownKnob C.prog.godebug = none) (started : os.Started) (noInit : C.prog.inits.idxOf? f = none) (hfn : C.prog.funcs[f]? = some fn)
    (witness : ∃ (w : World) (tape : Tape) (i : Input), w.os = os ∧ (w.forCall tape i).Shaped C.prog ∧ i.vars = [] ∧ Input.okWide C.prog (w.forCall tape i) .any w.heap.size f i ∧
      ((s.pre enc C.prog fn conds apart (w.forCall tape i).memory i.args ∧ X (w.forCall tape i).memory i.args) ∧ sizedMet enc C.prog fn (OpenSpec.ofChange s) apart (w.forCall tape i).memory i.args) ∧ a.holds C.prog (lone (Frame.enter C.prog f i.args .normal) [] (w.forCall tape i)))
    (contract : ∀ (W : World) (base : Nat) (args : Array Value) (ds gs : List (DataW H)) (before : List MemPlace), W.ShapedOpen C.prog →
      (∀ (j : Nat) t v, fn.params[j]? = some t → args[j]? = some v → Value.okWide C.prog W .any base t v) →
      DataW.Whole enc C.prog fn.params.toList s.vars apart W args.toList ds gs before →
      conds.all (PathCond.test C.prog ⟨fn.params.toList, ds, s.plain.varTypes C.prog, gs⟩) = true →
      (DataW.weightsEach C.prog (fn.params.toList ++ s.plain.varTypes C.prog) (ds ++ gs)).all (· ≤ reachBytes) = true → X W args →
      a.holds C.prog (lone (Frame.enter C.prog f args .normal) [] W) →
      Calls C.prog f args W fun e W' => ∃ v, e = .returned v ∧ s.post enc C.prog fn apart fresh handsOn again W args v W') :
    ReturnsInHanded a C os f .any (fun w args => (s.pre enc C.prog fn conds apart w args ∧ X w args) ∧ sizedMet enc C.prog fn (OpenSpec.ofChange s) apart w args) (s.post enc C.prog fn apart fresh handsOn again) := by
  refine returnsInHanded_of_calls own started noInit witness ?_
  intro w tape i _ hsh _ hok hpre hholds
  obtain ⟨_, _, _, fn', hfn', _, _, _, _, hval⟩ := hok
  have e : fn' = fn := Option.some.inj (hfn'.symm.trans hfn)
  subst e
  obtain ⟨⟨⟨ds, gs, before, hw, hc⟩, hx⟩, hz⟩ := hpre
  have hw' := DataW.Whole.of_heap (w' := w.forCall tape i) (by rfl) hw
  refine (contract (w.forCall tape i) w.heap.size i.args ds gs before hsh hval hw' hc (hz.weights hw) (hX _ _ _ (by rfl) hx) hholds).mono fun e W' ⟨v, he, hp⟩ => ?_
  subst he
  exact ChangeSpec.post_blind hp

theorem LawPost.below {w w' : World} {v : Value} {e : Ending} (h : LawPost w v e w') : Below w.heap.size w w' := ⟨h.2.2.2.1, h.2.2.2.2.1, h.2.2.2.2.2, h.2.1, h.2.2.1⟩
end
theorem ownK : ownKnob Tryz.prog.godebug = none := by kernel_rfl
theorem laidOut : laidOutB Tryz.prog = true := by kernel_rfl
theorem laid_fits (os : Os) : (World.holding Tryz.prog os ⟨#[], #[], []⟩).layFits Tryz.prog laidL [] = true := by kernel_rfl
theorem laid_ifaces (os : Os) : (World.holding Tryz.prog os ⟨#[], #[], []⟩).layIfaces Tryz.prog laidL (World.laidAll Tryz.prog os laidL) = true := by kernel_rfl
theorem tlt {t : Nat} (h : t < 314) : t < Tryz.prog.types.size := by
  have : Tryz.prog.types.size = 314 := by kernel_rfl
  omega
theorem h0_of {W : World} (hg : GW W) : ∃ arr, W.heap[0]? = some (.cells arr 143) := by
  obtain ⟨arr, h1, _⟩ := hg 0 (by omega)
  exact ⟨arr, h1⟩
theorem noIn (f : Nat) (h : (Tryz.prog.inits.toList.contains f) = false) : Tryz.prog.inits.idxOf? f = none := by
  rw [Array.idxOf?_eq_none_iff]
  intro hm
  have : Tryz.prog.inits.toList.contains f = true := by simpa using hm
  rw [this] at h
  cases h
end Go.Ab
