/- The evaluator's calls and loops are the model's. -/
import Derived.Test.YtjmfknlbnnpbiaaGreatDoorAb2
import Derived.RangeFuncNested
import Derived.TacticsIn
import Derived.LoopNIn

set_option linter.all false

/- Calls, rounds, operations one behind the other. -/
namespace Go.Ab
variable {P : Program} [HasOrc P] {m : Mp} {H : Hp} {w : World} {nt : Nat} {fr : Fr} {a : Act} {n : Nat}

/-- The fence that lets all in; in a round, or not. -/
def W (ro : Option Nat) : Fence := { fn := fun _ => True, depth := none, alive := false, round := ro }
theorem W_none : W none = Fence.wide := rfl
theorem W_round (ro : Option Nat) (l : Nat) : (W ro).inRound l = W (some l) := rfl

def exOf : Ex → Exit
  | .normal => .normal
  | .exit id => .exit id
  | .ret => .ret

def markOf (D : Nat) : Deferred := { target := .collected D, args := #[] }

/-- Blocks of marks: empty still, each its own, none of the heap's. -/
def Marks (m : Mp) (w : World) (B : Nat) (Ds : List Nat) : Prop :=
  Ds.Nodup ∧ ∀ D ∈ Ds, B ≤ D ∧ w.heap[D]? = some (.deferred (some [])) ∧ ∀ b pl, m b = some pl → pl.B ≠ D

theorem Marks.nil (m : Mp) (w : World) (B : Nat) : Marks m w B [] := ⟨.nil, fun _ h => by cases h⟩

theorem not_owned {D : Nat} (h : ∀ b pl, m b = some pl → pl.B ≠ D) : ¬ Owned m H D := fun ⟨b, pl, _, h1, _, _, h2⟩ => h b pl h1 h2

theorem Marks.evol {m1 : Mp} {H1 : Hp} {n1 : Nat} {w1 : World} {B : Nat} {Ds : List Nat} (h : Marks m w B Ds) (e : Evol m H n w m1 H1 n1 w1) : Marks m1 w1 B Ds := by
  refine ⟨h.1, fun D hD => ?_⟩
  obtain ⟨h1, h2, h3⟩ := h.2 D hD
  have hlt := (Array.getElem?_eq_some_iff.1 h2).1
  refine ⟨h1, (e.frame D hlt (not_owned h3)).trans h2, fun b pl hb => ?_⟩
  rcases e.new b pl hb with h4 | ⟨_, _, _, h4 | h4⟩
  · exact h3 b pl h4
  · omega
  · intro e1
    exact not_owned h3 (e1 ▸ h4)

structure Ends (P : Program) (m : Mp) (H : Hp) (n : Nat) (w : World) (nt : Nat) (a : Act) (x : Ex) (fr' : Fr) (H' : Hp) (n' : Nat) (e : Exit) (a' : Act) (w' : World) : Prop where
  ex : e = exOf x
  rest : ∃ m' Ds, Rel P m' H' w' ∧ Evol m H n w m' H' n' w' ∧ FrRel m' nt fr' a'.tmps ∧ a'.defers = Ds.map markOf ++ a.defers ∧ Marks m' w' w.heap.size Ds

/-- In a round: its record is one of the heap's. -/
def RoundOk (ro : Option Nat) (m : Mp) (H : Hp) : Prop := ∀ l', ro = some l' → ∃ l pl L, m l = some pl ∧ pl.B = l' ∧ H.get l = some (.loop L)

theorem RoundOk.evol {ro : Option Nat} {m1 : Mp} {H1 : Hp} {n1 : Nat} {w1 : World} (h : RoundOk ro m H) (e : Evol m H n w m1 H1 n1 w1) : RoundOk ro m1 H1 := by
  intro l' hl
  obtain ⟨l, pl, L, h1, h2, h3⟩ := h l' hl
  obtain ⟨L', h4⟩ := e.loops l L h3 (fun hb => by rw [e.fresh l hb.1 hb.2] at h1; cases h1)
  exact ⟨l, pl, L', e.le l pl h1, h2, h4⟩

/-- The runs that an evaluator tells are the model's. -/
def Snd (P : Program) (ev : Ev) : Prop := ∀ (ro : Option Nat) (nt : Nat) (c : Code) (fr : Fr) (H : Hp) (n : Nat) (x : Ex) (fr' : Fr) (H' : Hp) (n' : Nat), ev nt c fr H n = some (x, fr', H', n') →
  n ≤ n' ∧ ∀ (m : Mp) (w : World) (a : Act), Rel P m H w → FrRel m nt fr a.tmps → (∀ b, n ≤ b → b < n' → m b = none) → RoundOk ro m H → c.wpIn (W ro) 0 P (Ends P m H n w nt a x fr' H' n') a w

/-- What is asked of the program: it names no call that the model takes apart. -/
def NamesOk (P : Program) : Prop := ∀ (g : FuncId) (fn : Func), P.funcs[g]? = some fn → fn.name ≠ "runtime.NumGoroutine"

theorem putArgs_get : ∀ (vs : List Value) (fr : Fr) (i j : Nat), (putArgs fr i vs).get j = if i ≤ j ∧ j < i + vs.length then vs[j - i]? else fr.get j
  | [], fr, i, j => by
    rw [if_neg (by rw [List.length_nil]; omega)]
    rfl
  | v :: vs, fr, i, j => by
    simp only [putArgs]
    rw [putArgs_get vs (fr.put i v) (i + 1) j]
    by_cases h1 : i + 1 ≤ j ∧ j < i + 1 + vs.length
    · rw [if_pos h1, if_pos (by simp; omega), show j - i = (j - (i + 1)) + 1 by omega, List.getElem?_cons_succ]
    · rw [if_neg h1, T.get_put]
      by_cases h2 : j = i
      · rw [if_pos h2, if_pos (by simp; omega), h2]; simp
      · rw [if_neg h2, if_neg (by simp; omega)]

theorem args_rel {args args' : List Value} (h : VRels m args args') {k : Nat} (hk : args.length ≤ k) : FrRel m k (putArgs .leaf 0 args) (args'.toArray ++ Array.replicate (k - args'.toArray.size) undef) := by
  have hl := h.length
  refine ⟨by simp; omega, fun i => ?_⟩
  rw [putArgs_get]
  by_cases h1 : i < args.length
  · rw [if_pos (by omega)]
    obtain ⟨v', h2, h3⟩ := h.get (List.getElem?_eq_getElem h1)
    rw [Nat.sub_zero, List.getElem?_eq_getElem h1]
    have : (args'.toArray ++ Array.replicate (k - args'.toArray.size) undef).getD i undef = v' := by
      rw [Array.getD_eq_getD_getElem?, Array.getElem?_append_left (by simp; omega)]
      simp [h2]
    rw [this]
    exact h3
  · rw [if_neg (by omega), T.get_leaf]
    have : (args'.toArray ++ Array.replicate (k - args'.toArray.size) undef).getD i undef = undef := by
      rw [Array.getD_eq_getD_getElem?, Array.getElem?_append_right (by simp; omega), Array.getElem?_replicate]
      split <;> rfl
    rw [this]
    exact undef_rel m

theorem put_rel {fr fr' : Fr} {dst : Option Tmp} {v v' : Value} (h : FrRel m nt fr a.tmps) (hv : VRel m v v') (hp : put? nt fr dst v = some fr') : FrRel m nt fr' (a.put dst v').tmps ∧ (a.put dst v').defers = a.defers := by
  unfold put? at hp
  split at hp
  · cases hp; exact ⟨h, rfl⟩
  · rename_i d
    obtain ⟨h1, hp⟩ := cnd_some hp
    have h1 : d < nt := by simpa using h1
    cases hp
    refine ⟨⟨by simpa [Act.put] using h.size, fun i => ?_⟩, rfl⟩
    simp only [Act.put]
    rw [T.get_put]
    by_cases hi : i = d
    · subst hi
      rw [if_pos rfl]
      have : (a.tmps.setIfInBounds i v').getD i undef = v' := by
        rw [Array.getD_eq_getD_getElem?, Array.getElem?_setIfInBounds_self_of_lt (by rw [h.size]; exact h1)]; rfl
      rw [this]
      exact hv
    · rw [if_neg hi]
      have : (a.tmps.setIfInBounds d v').getD i undef = a.tmps.getD i undef := by
        rw [Array.getD_eq_getD_getElem?, Array.getD_eq_getD_getElem?, Array.getElem?_setIfInBounds_ne (Ne.symm hi)]
      rw [this]
      exact h.at_ i

theorem resOf_sound (h : Rel P m H w) (hf : FrRel m nt fr a.tmps) (f : ResultVar → Sem Value) (f1 : ∀ t, f (.tmp t) = pure (a.tmps.getD t undef)) (f2 : ∀ b t, f (.cell b t) = (do loadVar t (← asAddr (a.tmps.getD b undef)))) : ∀ {rs : List ResultVar} {vs : List Value}, resOf (envOf P) H fr rs = some vs →
    ∃ vs', (rs.mapM f : Sem (List Value)).run P w = .ok vs' w ∧ VRels m vs vs'
  | [], vs, hr => by simp only [resOf] at hr; cases hr; exact ⟨[], rfl, .nil⟩
  | .tmp t :: rs, vs, hr => by
    simp only [resOf] at hr
    split at hr
    · rename_i us hu
      cases hr
      obtain ⟨us', h1, h2⟩ := resOf_sound h hf f f1 f2 hu
      refine ⟨_, ?_, .cons (hf.at_ t) h2⟩
      simp only [List.mapM_cons, f1, Sem.run_bind, Sem.run_pure, Result.andThen_ok, h1]
    · cases hr
  | .cell b t :: rs, vs, hr => by
    simp only [resOf] at hr
    split at hr
    · rename_i p hp
      split at hr
      · rename_i v us hv hu
        cases hr
        obtain ⟨us', h1, h2⟩ := resOf_sound h hf f f1 f2 hu
        have hb := hf.at_ b
        rw [hp] at hb
        generalize hq : a.tmps.getD b undef = q at hb
        cases hb with
        | ptr g1 g2 =>
          obtain ⟨v', g3, g4⟩ := loadV_sound h g1 g2 hv
          refine ⟨_, ?_, .cons g4 h2⟩
          simp only [List.mapM_cons, f2, Sem.run_bind, hq, asAddr, Sem.run_pure, Result.andThen_ok, g3, h1]
      · cases hr
    · cases hr

theorem results_sound (h : Rel P m H w) (hf : FrRel m nt fr a.tmps) {fn : Func} {vs : List Value} (hr : resOf (envOf P) H fr fn.results.toList = some vs) : ∃ v', (results fn a.tmps).run P w = .ok v' w ∧ VRel m (tupOf vs) v' := by
  unfold results
  obtain ⟨vs', h1, h2⟩ := resOf_sound h hf (fun
    | .tmp t => pure (a.tmps.getD t undef)
    | .cell b t => do loadVar t (← asAddr (a.tmps.getD b undef))) (fun _ => rfl) (fun _ _ => rfl) hr
  refine ⟨if h : vs'.toArray.size = 1 then vs'.toArray[0] else .tuple vs'.toArray, ?_, ?_⟩
  · rw [Array.mapM_eq_mapM_toList, Sem.run_bind, Sem.run_map]
    refine Eq.trans (congrArg (fun r => Result.andThen (Result.andThen r _) _) h1) ?_
    rfl
  · cases h2 with
    | nil => exact .tuple .nil
    | cons g1 g2 =>
      cases g2 with
      | nil => exact g1
      | cons g2 g3 =>
        rw [dif_neg (by simp)]
        exact .tuple (.cons g1 (.cons g2 g3))

/-- What lies beside the heap's blocks turns: nothing for the heap. -/
theorem Rel.aside {w' : World} (h : Rel P m H w) (hw : ∀ b pl X, m b = some pl → H.get b = some X → X.alive = true → w'.heap[pl.B]? = w.heap[pl.B]?) (hsz : w.heap.size ≤ w'.heap.size) : Rel P m H w' := by
  refine ⟨fun b X pl h1 h2 => ?_, h.sep, h.glob, fun b pl h1 => Nat.lt_of_lt_of_le (h.inb b pl h1) hsz⟩
  cases ha : X.alive with
  | true => exact (h.blk b X pl h1 h2).heap (hw b pl X h2 h1 ha)
  | false =>
    cases X with
    | dead => trivial
    | cells => cases ha
    | loop => cases ha

theorem leaves_marks {fn : Func} {R : Ending → World → Prop} {tmps : Array Value} {v' : Value} {H' : Hp} {n' : Nat} {w0 : World} {m0 : Mp} {H0 : Hp} {n0 : Nat} :
    ∀ (Ds : List Nat) (w : World), Marks m w w0.heap.size Ds → Rel P m H' w → Evol m0 H0 n0 w0 m H' n' w →
    (∀ w', Rel P m H' w' → Evol m0 H0 n0 w0 m H' n' w' → ∃ v, (results fn tmps).run P w' = .ok v w' ∧ R (.returned v) w') → LeavesInM (W none) 0 P fn tmps R (Ds.map markOf) .returning w
  | [], w, _, h, he, hR => hR w h he
  | D :: Ds, w, hm, h, he, hR => by
    obtain ⟨h1, h2, h3⟩ := hm.2 D (List.mem_cons_self ..)
    have hlt := (Array.getElem?_eq_some_iff.1 h2).1
    have hoth : ∀ k, k ≠ D → (w.putObj D (.deferred none)).heap[k]? = w.heap[k]? := fun k hk => World.putObj_heap_other hk
    refine ⟨by simp, .inl ⟨D, w.putObj D (.deferred none), rfl, run_takeDeferred h2, ?_⟩⟩
    refine leaves_marks (v' := v') Ds _ ⟨(List.nodup_cons.1 hm.1).2, fun D' hD' => ?_⟩ (h.aside (fun b pl X g1 _ _ => hoth _ (h3 b pl g1)) (by simp [World.putObj])) ?_ hR
    · obtain ⟨g1, g2, g3⟩ := hm.2 D' (List.mem_cons_of_mem _ hD')
      exact ⟨g1, (hoth D' (fun e => (List.nodup_cons.1 hm.1).1 (e ▸ hD'))).trans g2, g3⟩
    · exact { he with
        size := by simpa [World.putObj] using he.size
        frame := fun B hB ho => (hoth B (by omega)).trans (he.frame B hB ho)
        os := he.os
        tape := he.tape
        output := he.output }

/-- What is answered at once is what the model answers. -/
class OrcOk (P : Program) [HasOrc P] : Prop where
  ok : ∀ {g : FuncId} {args : List Value} {v : Value} {H : Hp}, HasOrc.f (P := P) g args H = some v → ∀ {m : Mp} {w : World} {args' : List Value}, Rel P m H w → VRels m args args' →
    CallsIn (W none) 0 P g args'.toArray w fun e w' => ∃ v' m', e = .returned v' ∧ VRel m' v v' ∧ Rel P m' H w' ∧ ∀ n, Evol m H n w m' H n w'

/-- **A call.** -/
theorem call_sound [OrcOk P] {ev : Ev} (hev : Snd P ev) (h : Rel P m H w) {g : FuncId} {args args' : List Value} {v : Value} {H' : Hp} {n' : Nat} (ha : VRels m args args') (hr : callF (envOf P) ev g args H n = some (v, H', n')) (hf : ∀ b, n ≤ b → b < n' → m b = none) :
    ∃ fn, P.funcs[g]? = some fn ∧ fn.body.isSome = true ∧ CallsIn (W none) 0 P g args'.toArray w fun e w' => ∃ v' m', e = .returned v' ∧ VRel m' v v' ∧ Rel P m' H' w' ∧ Evol m H n w m' H' n' w' := by
  unfold callF at hr
  split at hr
  · rename_i fn hfn
    split at hr
    · rename_i c hc
      split at hr
      · rename_i v0 hv0
        cases hr
        refine ⟨fn, hfn, by rw [hc]; rfl, ?_⟩
        refine CallsIn.mono (F := W none) (OrcOk.ok (P := P) hv0 h ha) ?_
        rintro e w' ⟨v', m', e1, e2, e3, e4⟩
        exact ⟨v', m', e1, e2, e3, e4 _⟩
      obtain ⟨hle, hr⟩ := cnd_some hr
      have hle := Nat.le_of_ble_eq_true hle
      have key : ∀ x fr' H2 n2, ev fn.ntmps c (putArgs .leaf 0 args) H n = some (x, fr', H2, n2) → (x = .normal ∨ x = .ret) → (match resOf (envOf P) H2 fr' fn.results.toList with | some vs => some (tupOf vs, H2, n2) | none => none) = some (v, H', n') →
          CallsIn (W none) 0 P g args'.toArray w fun e w' => ∃ v' m', e = .returned v' ∧ VRel m' v v' ∧ Rel P m' H' w' ∧ Evol m H n w m' H' n' w' := by
        intro x fr' H2 n2 he hx hres
        split at hres
        · rename_i vs hvs
          cases hres
          obtain ⟨_, hs⟩ := hev none fn.ntmps c _ H n x fr' _ _ he
          have hs := hs m w { tmps := args'.toArray ++ Array.replicate (fn.ntmps - args'.toArray.size) undef, defers := [] } h (args_rel ha hle) hf (fun _ h => by cases h)
          refine callsIn_of_wp_marks hfn hc trivial (wpIn_mono hs ?_)
          rintro e a' w' ⟨rfl, m', Ds, g1, g2, g3, g4, g5⟩
          have hl : LeavesInM (W none) 0 P fn a'.tmps (fun e w' => ∃ v' m', e = .returned v' ∧ VRel m' (tupOf vs) v' ∧ Rel P m' H' w' ∧ Evol m H n w m' H' n' w') a'.defers .returning w' := by
            rw [g4, List.append_nil]
            refine leaves_marks (v' := undef) Ds w' g5 g1 g2 fun w'' k1 k2 => ?_
            obtain ⟨v', k3, k4⟩ := results_sound k1 g3 hvs
            exact ⟨v', k3, v', m', rfl, k4, k1, k2⟩
          rcases hx with rfl | rfl
          · exact hl
          · exact hl
        · cases hres
      refine ⟨fn, hfn, by rw [hc]; rfl, ?_⟩
      split at hr
      · rename_i fr' H2 n2 he
        exact key _ _ _ _ he (.inl rfl) hr
      · rename_i fr' H2 n2 he
        exact key _ _ _ _ he (.inr rfl) hr
      · cases hr
    · cases hr
  · cases hr
end Go.Ab

/- The next number only grows; any operation; operations one behind the other. -/
namespace Go.Ab
variable {P : Program} [HasOrc P] [OrcOk P] {m : Mp} {H : Hp} {w : World} {nt : Nat} {fr : Fr} {a : Act} {n : Nat}

theorem newB_le {H H' : Hp} {n n' : Nat} {b : Blk} {v v' : Value} (h : newB H n b v = some (v', H', n')) : n ≤ n' := by obtain ⟨_, _, rfl⟩ := newB_some h; omega
theorem lift_some {v : Option Value} {x : Value} {H H' : Hp} {n n' : Nat} (h : lift v H n = some (x, H', n')) : v = some x ∧ H' = H ∧ n' = n := by
  unfold lift at h
  split at h
  · cases h; exact ⟨rfl, rfl, rfl⟩
  · cases h

theorem appendV_le {E : Env} {ts : Array TypeId} {s x v : Value} {H' : Hp} {n' : Nat} (h : appendV E H n ts s x = some (v, H', n')) : n ≤ n' := by
  unfold appendV at h
  (repeat' split at h) <;> try (cases h; done)
  unfold appTo at h
  obtain ⟨_, h⟩ := cnd_some h
  rw [cnd_eq] at h
  split at h
  · obtain ⟨_, h⟩ := cnd_some h
    cases h; exact Nat.le_refl _
  · unfold appAt at h
    split at h
    · obtain ⟨_, h⟩ := cnd_some h
      exact newB_le h
    · split at h
      · rw [cnd_eq] at h
        split at h
        · unfold appIn at h
          split at h
          · cases h; exact Nat.le_refl _
          · cases h
        · unfold appGrow at h
          split at h
          · cases h
          · split at h
            · exact newB_le h
            · cases h
          · obtain ⟨_, h⟩ := cnd_some h
            cases h; exact Nat.le_succ _
      · cases h

theorem hBuiltin_le {E : Env} {b : Builtin} {ts : Array TypeId} {vs : Option (List Value)} {v : Value} {H' : Hp} {n' : Nat} (h : hBuiltin E H n b ts vs = some (v, H', n')) : n ≤ n' := by
  unfold hBuiltin at h
  split at h
  · split at h
    · exact appendV_le h
    · cases h
  · split at h
    · unfold hCopy at h
      (repeat' split at h) <;> first
        | (cases h; done)
        | (obtain ⟨_, h⟩ := cnd_some h; cases h; exact Nat.le_refl _)
        | (cases h; exact Nat.le_refl _)
    · cases h
  · split at h
    · unfold hClear at h
      (repeat' split at h) <;> first
        | (cases h; done)
        | (cases h; exact Nat.le_refl _)
    · cases h
  · cases h

theorem callF_le {ev : Ev} (hev : Snd P ev) {E : Env} {g : FuncId} {args : List Value} {v : Value} {H' : Hp} {n' : Nat} (h : callF E ev g args H n = some (v, H', n')) : n ≤ n' := by
  unfold callF at h
  split at h
  · split at h
    · split at h
      · cases h; exact Nat.le_refl _
      obtain ⟨_, h⟩ := cnd_some h
      split at h
      · rename_i he
        have := (hev none _ _ _ _ _ _ _ _ _ he).1
        split at h
        · cases h; exact this
        · cases h
      · rename_i he
        have := (hev none _ _ _ _ _ _ _ _ _ he).1
        split at h
        · cases h; exact this
        · cases h
      · cases h
    · cases h
  · cases h

theorem endRoundF_le {l : Nat} {x : Ex} {v : Value} {H' : Hp} {n' : Nat} (h : endRoundF l x H n = some (v, H', n')) : n ≤ n' := by
  unfold endRoundF at h
  split at h
  · cases h; exact Nat.le_refl _
  · cases h

theorem bodyF_le {ev : Ev} (hev : Snd P ev) {l nt : Nat} {body : Code} {v : Value} {H' : Hp} {n' : Nat} (h : bodyF ev l nt body fr H n = some (v, H', n')) : n ≤ n' := by
  unfold bodyF at h
  split at h
  · split at h
    · split at h
      · rename_i he
        exact Nat.le_trans (hev none _ _ _ _ _ _ _ _ _ he).1 (endRoundF_le h)
      · cases h
    · cases h
  · cases h

theorem roundF_le {ev : Ev} (hev : Snd P ev) {l : Nat} {args : List Value} {v : Value} {H' : Hp} {n' : Nat} (h : roundF ev l args H n = some (v, H', n')) : n ≤ n' := by
  unfold roundF at h
  split at h
  · split at h
    · split at h
      · rename_i he
        exact Nat.le_trans (hev none _ _ _ _ _ _ _ _ _ he).1 (bodyF_le hev h)
      · cases h
    · cases h
  · cases h

theorem callV_le {ev : Ev} (hev : Snd P ev) {E : Env} {u : Value} {args : List Value} {v : Value} {H' : Hp} {n' : Nat} (h : callV E ev u args H n = some (v, H', n')) : n ≤ n' := by
  unfold callV at h
  split at h
  · exact callF_le hev h
  · exact roundF_le hev h
  · cases h

theorem oper_le {ev : Ev} (hev : Snd P ev) {E : Env} {o : Op} {v : Value} {H' : Hp} {n' : Nat} (h : oper o E ev fr H n = some (v, H', n')) : n ≤ n' := by
  cases o <;> simp only [oper] at h <;> first
    | (obtain ⟨_, _, rfl⟩ := lift_some h; exact Nat.le_refl _)
    | skip
  case alloc => unfold hAlloc at h; split at h; exact newB_le h; cases h
  case box => unfold hBox at h; split at h; exact newB_le h; cases h
  case buildSlice =>
    unfold hBuildSlice at h
    split at h
    · obtain ⟨_, h⟩ := cnd_some h
      split at h
      · exact newB_le h
      · cases h
    · cases h
  case store =>
    unfold hStore at h
    split at h
    · unfold undo at h
      split at h
      · cases h; exact Nat.le_refl _
      · cases h
    · cases h
  case makeSlice =>
    unfold hMake at h
    split at h
    · obtain ⟨_, h⟩ := cnd_some h
      exact newB_le h
    · cases h
  case convert =>
    unfold cConv at h
    rw [cnd_eq] at h
    split at h
    · unfold hConv at h
      split at h
      · split at h
        · obtain ⟨_, h⟩ := cnd_some h
          exact newB_le h
        · cases h
      · split at h
        · obtain ⟨_, h⟩ := cnd_some h
          cases h; exact Nat.le_refl _
        · cases h
      · cases h
    · obtain ⟨_, _, rfl⟩ := lift_some h; exact Nat.le_refl _
  case call =>
    unfold cCall at h
    split at h
    · unfold callO at h
      split at h
      · exact callV_le hev h
      · cases h
    · rw [cnd_eq] at h
      split at h
      · obtain ⟨_, _, rfl⟩ := lift_some h; exact Nat.le_refl _
      · exact hBuiltin_le h
    · cases h
end Go.Ab

/- Rounds; any operation; operations one behind the other. -/
namespace Go.Ab
variable {P : Program} [HasOrc P] [OrcOk P] {m : Mp} {H : Hp} {w : World} {nt : Nat} {fr : Fr} {a : Act} {n : Nat}

theorem Rel.putLoop (n : Nat) {b : Nat} {pl : Pl} {L L2 L2' : Loop} (h : Rel P m H w) (hb : H.get b = some (.loop L)) (hm : m b = some pl)
    (h1 : L2'.state = L2.state) (h2 : L2'.pending = L2.pending) (h3 : VRels m L2.tmps.toList L2'.tmps.toList) (h4 : L2'.params = L2.params) (h5 : L2'.assign = L2.assign) (h6 : L2'.body = L2.body) :
    Rel P m (H.put b (.loop L2)) (w.putObj pl.B (.loop L2')) ∧ Evol m H n w m (H.put b (.loop L2)) n (w.putObj pl.B (.loop L2')) := by
  have hlt : pl.B < w.heap.size := (h.blk b _ pl hb hm).lt rfl
  refine ⟨h.set (Mp.le.refl m) (fun _ _ g1 _ => g1) (fun b' q Y g1 g2 g3 g4 => World.putObj_heap_other (h.sep b b' _ Y pl q g1.symm hb g3 hm g2 rfl g4).symm)
    (fun q g1 => by rw [hm] at g1; cases g1; exact ⟨L2', World.putObj_heap_same hlt, h1, h2, h3, h4, h5, h6⟩)
    (fun q b' q' Y g1 g2 g3 g4 g5 => by
      rw [hm] at g1
      cases g1
      exact h.sep b b' _ Y pl q' g2.symm hb g4 hm g3 rfl (by rcases g5 with g5 | g5; exact g5.2; exact Blk.alive_of_mut g5.1)) (by simp [World.putObj]) (fun q g1 => by simpa [World.putObj] using h.inb b q g1), ?_⟩
  exact {
    le := Mp.le.refl m
    nle := Nat.le_refl _
    fresh := fun b h1 h2 => by omega
    new := fun _ _ h => .inl h
    size := by simp [World.putObj]
    frame := fun B _ ho => World.putObj_heap_other (fun e1 => ho ⟨b, pl, _, hm, hb, rfl, e1.symm⟩)
    keep := fun j Y g1 g2 => by
      rw [T.get_put] at g1
      by_cases e1 : j = b
      · subst e1; exact .inr ⟨_, hb, rfl⟩
      · rw [if_neg e1] at g1; exact .inr ⟨Y, g1, g2⟩
    loops := fun j L' g1 _ => by
      rw [T.get_put]
      by_cases e1 : j = b
      · rw [if_pos e1]; exact ⟨L2, rfl⟩
      · rw [if_neg e1]; exact ⟨L', g1⟩
    aside := fun j g1 _ => T.get_put_ne _ _ (fun e1 => by subst e1; rw [hm] at g1; cases g1)
    os := rfl
    tape := rfl
    output := rfl }

theorem frOf_rel {vs vs' : List Value} (h : VRels m vs vs') : FrRel m vs.length (frOf vs) vs'.toArray := by
  have := args_rel h (Nat.le_refl _)
  rw [List.size_toArray, h.length, Nat.sub_self] at this
  simpa [frOf] using this

theorem setPs_rel : ∀ {ts : List Tmp} {vs vs' : List Value} {fr fr' : Fr} {tmps : Array Value}, FrRel m nt fr tmps → VRels m vs vs' → setPs nt fr ts vs = some fr' →
    vs'.length = ts.length ∧ FrRel m nt fr' ((ts.zip vs').foldl (fun tmps (t, a) => tmps.setIfInBounds t a) tmps)
  | [], _, _, fr, fr', tmps, hf, .nil, hs => by simp only [setPs] at hs; cases hs; exact ⟨rfl, hf⟩
  | [], _, _, fr, fr', tmps, hf, .cons _ _, hs => by simp [setPs] at hs
  | t :: ts, _, _, fr, fr', tmps, hf, .nil, hs => by simp [setPs] at hs
  | t :: ts, _, _, fr, fr', tmps, hf, .cons h1 h2, hs => by
    simp only [setPs] at hs
    obtain ⟨hlt, hs⟩ := cnd_some hs
    have hp := put_rel (a := { tmps := tmps, defers := [] }) (dst := some t) hf h1 (fr' := fr.put t _) (by simp only [put?]; rw [hlt]; rfl)
    have := setPs_rel hp.1 h2 hs
    exact ⟨by simp [this.1], this.2⟩

theorem exOf_code {x : Ex} : (exOf x = .normal ∧ codeOf x = none) ∨ (∃ id, exOf x = .exit id ∧ codeOf x = some (.exit id)) ∨ (exOf x = .ret ∧ codeOf x = some .ret) := by
  cases x with
  | normal => exact .inl ⟨rfl, rfl⟩
  | exit id => exact .inr (.inl ⟨id, rfl, rfl⟩)
  | ret => exact .inr (.inr ⟨rfl, rfl⟩)

/-- What a call hands back. -/
def Back (P : Program) (m : Mp) (H : Hp) (n : Nat) (w : World) (v : Value) (H' : Hp) (n' : Nat) (e : Ending) (w' : World) : Prop :=
  ∃ v' m', e = .returned v' ∧ VRel m' v v' ∧ Rel P m' H' w' ∧ Evol m H n w m' H' n' w'

/-- **One round of a range over a function.** -/
theorem round_sound {ev : Ev} (hev : Snd P ev) (h : Rel P m H w) {l : Nat} {pl : Pl} (hm : m l = some pl) {args args' : List Value} {v : Value} {H' : Hp} {n' : Nat} (ha : VRels m args args') (hr : roundF ev l args H n = some (v, H', n')) (hf : ∀ b, n ≤ b → b < n' → m b = none) :
    ∃ L' : Loop, w.heap[pl.B]? = some (.loop L') ∧ args'.toArray.size = L'.params.size ∧
      RoundIn (W none) 0 P pl.B L'.fn ((L'.params.zip args'.toArray).foldl (fun tmps (t, a) => tmps.setIfInBounds t a) L'.tmps) L'.assign L'.body w (Back P m H n w v H' n') := by
  unfold roundF at hr
  split at hr
  · rename_i L hL
    obtain ⟨L', g1, g2, g3, g4, g5, g6, g7⟩ := h.blk l _ pl hL hm
    split at hr
    · rename_i fr0 hsp
      have hsz : L.tmps.toList.length = L.tmps.size := by simp
      have hfr := frOf_rel g4
      rw [hsz] at hfr
      obtain ⟨k1, k2⟩ := setPs_rel hfr ha hsp
      split at hr
      · rename_i fr1 H1 n1 he1
        have hle1 := (hev none _ _ _ _ _ _ _ _ _ he1).1
        have hle2 := bodyF_le hev hr
        refine ⟨L', g1, by simpa [g5] using k1, ?_⟩
        have e0 : (L'.params.zip args'.toArray).foldl (fun tmps (t, a) => tmps.setIfInBounds t a) L'.tmps = (L.params.toList.zip args').foldl (fun tmps (t, a) => tmps.setIfInBounds t a) L'.tmps.toList.toArray := by
          rw [← Array.foldl_toList, Array.toList_zip, g5]
        rw [e0, g6, g7]
        refine roundIn_of_wpIn trivial ?_
        rw [W_round]
        have hA := (hev (some pl.B) _ _ _ _ _ _ _ _ _ he1).2 m w { tmps := (L.params.toList.zip args').foldl (fun tmps (t, a) => tmps.setIfInBounds t a) L'.tmps.toList.toArray, defers := [] } h k2 (fun b h1 h2 => hf b h1 (Nat.lt_of_lt_of_le h2 hle2))
          (fun l' hl' => by cases hl'; exact ⟨l, pl, L, hm, rfl, hL⟩)
        refine wpIn_mono hA ?_
        rintro e a1 w1 ⟨rfl, m1, Ds, r1, r2, r3, _, _⟩
        unfold bodyF at hr
        split at hr
        · rename_i L1 hL1
          split at hr
          · rename_i hst1
            have hm1 := r2.le l pl hm
            obtain ⟨L1', q1, q2, q3, q4, q5, q6, q7⟩ := r1.blk l _ pl hL1 hm1
            split at hr
            · rename_i x fr2 H2 n2 he2
              have hle3 := (hev none _ _ _ _ _ _ _ _ _ he2).1
              have hle4 := endRoundF_le hr
              refine ⟨_, run_beginRound q1 (q2.trans hst1), ?_⟩
              obtain ⟨s1, s2⟩ := r1.putLoop n1 hL1 hm1 (L2 := { L1 with state := .busy }) (L2' := { L1' with state := .busy }) rfl q3 q4 q5 q6 q7
              have e1 := r2.trans s2
              have hfr1 : ∀ b, n1 ≤ b → b < n' → m1 b = none := fun b h1 h2 => by
                cases hq : m1 b with
                | none => rfl
                | some q =>
                  rcases r2.new b q hq with h3 | ⟨_, _, h3, _⟩
                  · rw [hf b (by omega) h2] at h3; cases h3
                  · omega
              have hB := (hev (some pl.B) _ _ _ _ _ _ _ _ _ he2).2 m1 _ a1 s1 r3 (fun b h1 h2 => hfr1 b h1 (by omega)) (fun l' hl' => by cases hl'; exact ⟨l, pl, _, hm1, rfl, by rw [T.get_put_same]⟩)
              refine wpIn_mono hB ?_
              rintro e a2 w2 ⟨rfl, m2, Ds2, t1, t2, t3, _, _⟩
              have e2 := e1.trans t2
              have hm2 := e2.le l pl hm
              unfold endRoundF at hr
              split at hr
              · rename_i L2 hL2
                cases hr
                obtain ⟨L2', u1, u2, u3, u4, u5, u6, u7⟩ := t1.blk l _ pl hL2 hm2
                have fin : ∀ jump, codeOf x = jump → ∃ v' w', (Instr.endRound pl.B jump).run P w2 = .ok v' w' ∧ Back P m H n w (.bool (codeOf x).isNone) (H2.put l (.loop { L2 with state := cnd (codeOf x).isNone .ready .done, pending := codeOf x })) n' (.returned v') w' := by
                  rintro jump rfl
                  obtain ⟨s3, s4⟩ := t1.putLoop n' hL2 hm2 (L2 := { L2 with state := cnd (codeOf x).isNone .ready .done, pending := codeOf x }) (L2' := { L2' with state := if (codeOf x).isNone then .ready else .done, pending := codeOf x })
                    (by rw [cnd_eq]) rfl u4 u5 u6 u7
                  exact ⟨_, _, run_endRound _ u1, _, m2, rfl, .bool _, s3, e2.trans s4⟩
                rcases exOf_code (x := x) with ⟨c1, c2⟩ | ⟨id, c1, c2⟩ | ⟨c1, c2⟩
                · rw [c1]; exact fin _ c2
                · rw [c1]; exact fin _ c2
                · rw [c1]; exact fin _ c2
              · cases hr
            · cases hr
          · cases hr
        · cases hr
      · cases hr
    · cases hr
  · cases hr

/-- A quiet operation's step. -/
theorem wpIn_of_run {ro : Option Nat} {o : Oper} {next : Act → World → Prop} {Q : Exit → Act → World → Prop} {v : Value} {w' : World} (hd : ∀ c, o.op ≠ .defer c) (hr : (execOp a.eval o).run P w = .ok (.value v) w') (hk : next (a.put o.dst v) w') :
    o.wpIn (W ro) 0 P a w next Q := by
  refine ⟨fun _ _ => trivial, ?_⟩
  rw [show (W ro).round = ro from rfl, Oper.semAt_eq ro a.eval o hd, hr]
  exact hk

theorem wpIn_of_skip {ro : Option Nat} {o : Oper} {next : Act → World → Prop} {Q : Exit → Act → World → Prop} {w' : World} (hd : ∀ c, o.op ≠ .defer c) (hr : (execOp a.eval o).run P w = .ok .skip w') (hk : next (a.put o.dst undef) w') :
    o.wpIn (W ro) 0 P a w next Q := by
  refine ⟨fun _ _ => trivial, ?_⟩
  rw [show (W ro).round = ro from rfl, Oper.semAt_eq ro a.eval o hd, hr]
  exact hk

theorem hStore_some {E : Env} {t : TypeId} {p x : Option Value} {r : Value × Hp × Nat} (h : hStore E H n t p x = some r) : ∃ u y, p = some u ∧ x = some y := by
  unfold hStore at h
  split at h
  · exact ⟨_, _, rfl, rfl⟩
  · cases h
theorem hMake_some {E : Env} {t : TypeId} {p x : Option Value} {r : Value × Hp × Nat} (h : hMake E H n t p x = some r) : ∃ u y, p = some u ∧ x = some y := by
  unfold hMake at h
  split at h
  · exact ⟨_, _, rfl, rfl⟩
  · cases h
theorem hBuildSlice_some {E : Env} {t : TypeId} {l : Nat} {p : Option (List (Nat × Value))} {r : Value × Hp × Nat} (h : hBuildSlice E H n t l p = some r) : ∃ u, p = some u := by
  unfold hBuildSlice at h
  split at h
  · exact ⟨_, rfl⟩
  · cases h
theorem hBox_some {e : TypeId} {p : Option Value} {r : Value × Hp × Nat} (h : hBox H n e p = some r) : ∃ u, p = some u := by
  unfold hBox at h
  split at h
  · exact ⟨_, rfl⟩
  · cases h
theorem hConv_some {E : Env} {s d : TypeId} {p : Option Value} {r : Value × Hp × Nat} (h : hConv E H n s d p = some r) : ∃ u, p = some u := by
  unfold hConv at h
  split at h
  · exact ⟨_, rfl⟩
  · exact ⟨_, rfl⟩
  · cases h
theorem hBuiltin_some {E : Env} {b : Builtin} {ts : Array TypeId} {p : Option (List Value)} {r : Value × Hp × Nat} (h : hBuiltin E H n b ts p = some r) : ∃ u, p = some u := by
  unfold hBuiltin at h
  split at h
  · split at h
    · exact ⟨_, rfl⟩
    · cases h
  · split at h
    · exact ⟨_, rfl⟩
    · cases h
  · split at h
    · exact ⟨_, rfl⟩
    · cases h
  · cases h

set_option maxHeartbeats 1000000 in
/-- **Any operation.** -/
theorem oper_sound {ev : Ev} (hev : Snd P ev) (hN : NamesOk P) (h : Rel P m H w) (hf : FrRel m nt fr a.tmps) {ro : Option Nat} {o : Oper} {v : Value} {H' : Hp} {n' : Nat} (hr : oper o.op (envOf P) ev fr H n = some (v, H', n')) (hfr : ∀ b, n ≤ b → b < n' → m b = none)
    {next : Act → World → Prop} {Q : Exit → Act → World → Prop} (hk : ∀ v' m' w', VRel m' v v' → Rel P m' H' w' → Evol m H n w m' H' n' w' → next (a.put o.dst v') w') : o.wpIn (W ro) 0 P a w next Q := by
  have L : (∀ c, o.op ≠ .defer c) → lift (light o.op (envOf P) H fr) H n = some (v, H', n') → o.wpIn (W ro) 0 P a w next Q := by
    intro hd hl
    obtain ⟨h1, rfl, rfl⟩ := lift_some hl
    obtain ⟨v', h2, h3⟩ := light_sound h hf h1
    exact wpIn_of_run hd h2 (hk v' m w h3 h (Evol.refl _ _ _ _))
  have C : ∀ {s : Sem Value}, (∀ c, o.op ≠ .defer c) → execOp a.eval o = (do pure (Next.value (← s))) → Comes1 P m H n w s v H' n' → o.wpIn (W ro) 0 P a w next Q := by
    rintro s hd he ⟨v', m', w', h1, h2, h3, h4⟩
    exact wpIn_of_run hd (v := v') (w' := w') (by rw [he]; simp [h1]) (hk v' m' w' h2 h3 h4)
  obtain ⟨dst, op, ty, pos, after, guard⟩ := o
  have S := fun {x : Operand} {v : Value} (ho : opv (envOf P) fr x = some v) => opv_sound h hf ho
  cases op <;> simp only [oper] at hr
  case alloc e => exact C (fun _ h => by cases h) rfl (hAlloc_sound h hr hfr)
  case box e x =>
    obtain ⟨u, hx⟩ := hBox_some hr
    rw [hx] at hr
    exact C (fun _ h => by cases h) rfl (hBox_sound h (S hx) hr hfr)
  case buildSlice t len parts =>
    obtain ⟨ps, hx⟩ := hBuildSlice_some hr
    rw [hx] at hr
    have e : (parts.map fun (i, x) => (i, a.eval x)) = (parts.toList.map fun (i, x) => (i, a.eval x)).toArray := by
      apply Array.ext'; simp
    refine C (s := Instr.buildSlice t len (parts.map fun (i, x) => (i, a.eval x))) (fun _ h => by cases h) rfl ?_
    rw [e]
    exact hBuildSlice_sound h (opvp_sound h hf hx) hr hfr
  case store t p x =>
    obtain ⟨u, y, hp, hx⟩ := hStore_some hr
    rw [hp, hx] at hr
    obtain ⟨w', g1, g2, g3, g4, g5⟩ := hStore_sound n h (S hp) (S hx) hr
    subst g2 g3
    exact wpIn_of_skip (fun _ h => by cases h) (by simp [execOp, g1]) (hk undef m w' (undef_rel m) g4 g5)
  case makeSlice t l c =>
    obtain ⟨u, y, hp, hx⟩ := hMake_some hr
    rw [hp, hx] at hr
    exact C (fun _ h => by cases h) rfl (hMake_sound h (S hp) (S hx) hr hfr)
  case convert s d x =>
    unfold cConv at hr
    rw [cnd_eq] at hr
    split at hr
    · obtain ⟨u, hx⟩ := hConv_some hr
      rw [hx] at hr
      exact C (fun _ h => by cases h) rfl (hConv_sound h (S hx) hr hfr)
    · exact L (fun _ h => by cases h) hr
  case call c =>
    unfold cCall at hr
    split at hr
    · rename_i f hc
      unfold callO at hr
      split at hr
      · rename_i u vs hu hvs
        have hu := S hu
        have hv := opvs_sound h hf hvs
        have hargs : c.args.map a.eval = (c.args.toList.map a.eval).toArray := by apply Array.ext'; simp
        generalize hq : a.eval f = q at hu
        cases hu with
        | @func g first first' captured captured' k1 k2 =>
          have hr : callF (envOf P) ev g (first.toList ++ vs ++ captured.toList) H n = some (v, H', n') := hr
          obtain ⟨fn, c1, c2, c3⟩ := call_sound hev h (args' := first'.toList ++ c.args.toList.map a.eval ++ captured'.toList) ((k1.append hv).append k2) hr hfr
          have harr : first' ++ c.args.map a.eval ++ captured' = (first'.toList ++ c.args.toList.map a.eval ++ captured'.toList).toArray := by
            apply Array.ext'; simp
          have hrun : (execOp a.eval { dst := dst, op := Op.call c, type := ty, pos := pos, after := after, guard := guard }).run P w = .ok (.enter g (first'.toList ++ c.args.toList.map a.eval ++ captured'.toList).toArray) w := by
            rw [← harr]
            obtain ⟨body, hbody⟩ := Option.isSome_iff_exists.1 c2
            simp only [execOp, resolve, hc, hq, Deferred.ofValue, Sem.run_bind, Sem.run_pure, Result.andThen_ok, invoke, callFunc, run_program, c1, hbody]
            have := hN g fn c1
            simp [this]
          refine ⟨fun _ _ => trivial, ?_⟩
          rw [show (W ro).round = ro from rfl, Oper.semAt_eq ro a.eval _ (fun _ h => by cases h), hrun, Oper.uponIn_enter]
          refine ⟨(fun h => by cases h), ?_⟩
          refine CallsIn.mono (F := W ro) (R := Back P m H n w v H' n') c3 ?_
          rintro e w' ⟨v', m', rfl, b1, b2, b3⟩
          exact hk v' m' w' b1 b2 b3
        | @yield l pl k1 =>
          have hr : roundF ev l vs H n = some (v, H', n') := hr
          obtain ⟨L', r1, r2, r3⟩ := round_sound hev h k1 hv hr hfr
          have hrun : (execOp a.eval { dst := dst, op := Op.call c, type := ty, pos := pos, after := after, guard := guard }).run P w = (Instr.yield pl.B (c.args.toList.map a.eval).toArray).run P w := by
            simp only [execOp, resolve, hc, hq, Deferred.ofValue, Sem.run_bind, Sem.run_pure, Result.andThen_ok, invoke, hargs]
            simp
          refine ⟨fun _ _ => trivial, ?_⟩
          rw [show (W ro).round = ro from rfl, Oper.semAt_eq ro a.eval _ (fun _ h => by cases h), hrun, run_yield r1 r2, Oper.uponIn_round]
          refine ⟨(fun h => by cases h), ?_⟩
          refine RoundIn.mono (F := W ro) (R := Back P m H n w v H' n') r3 ?_
          rintro e w' ⟨v', m', rfl, b1, b2, b3⟩
          exact hk v' m' w' b1 b2 b3
        | _ => cases hr
      · cases hr
    · rename_i b hc
      rw [cnd_eq] at hr
      split at hr
      · refine L (fun _ h => by cases h) ?_
        simpa only [light, lCall, hc] using hr
      · obtain ⟨vs, hvs⟩ := hBuiltin_some hr
        rw [hvs] at hr
        have hargs : c.args.map a.eval = (c.args.toList.map a.eval).toArray := by apply Array.ext'; simp
        obtain ⟨v', m', w', g1, g2, g3, g4⟩ := hBuiltin_sound h (opvs_sound h hf hvs) hr hfr ty (c.args.map fun | .const _ => true | _ => false)
        refine wpIn_of_run (fun _ h => by cases h) (v := v') (w' := w') ?_ (hk v' m' w' g2 g3 g4)
        simp only [execOp, resolve, hc, Sem.run_bind, Sem.run_pure, Result.andThen_ok, invoke, hargs]
        exact g1
    · cases hr
  case defer c => cases hr
  all_goals exact L (fun _ h => by cases h) hr
end Go.Ab

/- Operations one behind the other; control flow. -/
namespace Go.Ab
variable {P : Program} [HasOrc P] [OrcOk P] {m : Mp} {H : Hp} {w : World} {nt : Nat} {fr : Fr} {a : Act} {n : Nat}

/-- What is fresh stays so. -/
theorem Evol.freshLeft {m1 : Mp} {H1 : Hp} {n1 n2 : Nat} {w1 : World} (e : Evol m H n w m1 H1 n1 w1) (hf : ∀ b, n ≤ b → b < n2 → m b = none) : ∀ b, n1 ≤ b → b < n2 → m1 b = none := fun b h1 h2 => by
  have hle := e.nle
  cases hq : m1 b with
  | none => rfl
  | some q =>
    rcases e.new b q hq with h3 | ⟨_, _, h3, _⟩
    · rw [hf b (by omega) h2] at h3; cases h3
    · omega

theorem VRel.bool_iff {v v' : Value} {b : Bool} (h : VRel m v v') : v = .bool b ↔ v' = .bool b := by
  cases h <;> simp

theorem undef_ne_bool (b : Bool) : undef ≠ .bool b := by intro h; cases h

theorem wanted_eq {ops : Array Oper} {o : Oper} {tmps : Array Value} (hf : FrRel m nt fr tmps) : wanted ops fr o = Region.wanted o (yielded ops tmps) := by
  unfold wanted Region.wanted
  cases o.guard with
  | none => rfl
  | some g =>
    obtain ⟨j, want⟩ := g
    simp only [yielded]
    cases hd : (ops[j]?).bind (·.dst) with
    | none => simp
    | some d =>
      simp only [Option.bind_some]
      have hr := hf.at_ d
      rw [Array.getD_eq_getD_getElem?] at hr
      cases hx : fr.get d with
      | none =>
        rw [hx] at hr
        cases hy : tmps[d]? with
        | none => simp
        | some y =>
          rw [hy] at hr
          have hn : ∀ b, y ≠ .bool b := fun b e => undef_ne_bool b ((VRel.bool_iff hr).2 e)
          cases y <;> first | rfl | exact absurd rfl (hn _)
      | some x =>
        rw [hx] at hr
        cases hy : tmps[d]? with
        | none =>
          rw [hy] at hr
          have hn : ∀ b, x ≠ .bool b := fun b e => undef_ne_bool b ((VRel.bool_iff hr).1 e)
          cases x <;> first | rfl | exact absurd rfl (hn _)
        | some y =>
          rw [hy] at hr
          have hr : VRel m x y := hr
          cases hr <;> first | rfl | simp

theorem opsF_le {ev : Ev} (hev : Snd P ev) {E : Env} {ops : Array Oper} : ∀ (l : List Oper) {fr : Fr} {H : Hp} {n : Nat} {x : Ex} {fr' : Fr} {H' : Hp} {n' : Nat}, opsF E ev nt ops l fr H n = some (x, fr', H', n') → n ≤ n' ∧ x = .normal
  | [], fr, H, n, x, fr', H', n', h => by cases h; exact ⟨Nat.le_refl _, rfl⟩
  | o :: l, fr, H, n, x, fr', H', n', h => by
    have h1 : putK nt o (opsF E ev nt ops l) fr (cnd (wanted ops fr o) (oper o.op E ev fr H n) (some (undef, H, n))) = some (x, fr', H', n') := h
    clear h
    rw [cnd_eq] at h1
    unfold putK at h1
    split at h1
    · rename_i v H1 n1 hm
      split at h1
      · have h2 := opsF_le hev l h1
        split at hm
        · exact ⟨Nat.le_trans (oper_le hev hm) h2.1, h2.2⟩
        · cases hm; exact h2
      · cases h1
    · cases h1

/-- **Operations one behind the other.** -/
theorem opsF_sound {ev : Ev} (hev : Snd P ev) (hN : NamesOk P) {ro : Option Nat} {ops : Array Oper} {Q : Exit → Act → World → Prop} : ∀ (l : List Oper) {m : Mp} {H : Hp} {w : World} {fr : Fr} {a : Act} {n : Nat} {x : Ex} {fr' : Fr} {H' : Hp} {n' : Nat},
    Rel P m H w → FrRel m nt fr a.tmps → opsF (envOf P) ev nt ops l fr H n = some (x, fr', H', n') → (∀ b, n ≤ b → b < n' → m b = none) →
    (∀ m' a' w', Rel P m' H' w' → Evol m H n w m' H' n' w' → FrRel m' nt fr' a'.tmps → a'.defers = a.defers → Q .normal a' w') → wpListIn (W ro) 0 P ops Q l a w
  | [], m, H, w, fr, a, n, x, fr', H', n', h, hf, hr, hfr, hk => by
    cases hr
    exact hk m a w h (Evol.refl _ _ _ _) hf rfl
  | o :: l, m, H, w, fr, a, n, x, fr', H', n', h, hf, hr, hfr, hk => by
    have h1 : putK nt o (opsF (envOf P) ev nt ops l) fr (cnd (wanted ops fr o) (oper o.op (envOf P) ev fr H n) (some (undef, H, n))) = some (x, fr', H', n') := hr
    clear hr
    rw [cnd_eq] at h1
    unfold putK at h1
    split at h1
    · rename_i v H1 n1 hm
      split at h1
      · rename_i fr1 hp
        have hle := (opsF_le hev l h1).1
        unfold wpListIn
        rw [← wanted_eq hf]
        split at hm
        · rename_i hw
          rw [if_pos hw]
          refine oper_sound hev hN h hf hm (fun b h2 h3 => hfr b h2 (by omega)) ?_
          intro v' m1 w1 g1 g2 g3
          have g4 := put_rel (a := a) (hf.mono g3.le) g1 hp
          exact opsF_sound hev hN l g2 g4.1 h1 (g3.freshLeft hfr) fun m2 a2 w2 k1 k2 k3 k4 => hk m2 a2 w2 k1 (g3.trans k2) k3 (k4.trans g4.2)
        · rename_i hw
          cases hm
          rw [if_neg hw]
          refine ⟨fun _ _ => trivial, ?_⟩
          have g4 := put_rel (a := a) hf (undef_rel m) hp
          exact opsF_sound hev hN l h g4.1 h1 hfr fun m2 a2 w2 k1 k2 k3 k4 => hk m2 a2 w2 k1 k2 k3 (k4.trans g4.2)
      · cases h1
    · cases h1

/-! Ends, one behind the other. -/
theorem Marks.app {B B1 : Nat} {Ds Ds1 : List Nat} (h : Marks m w B Ds) (h1 : Marks m w B1 Ds1) (hB : B ≤ B1) (hlt : ∀ D ∈ Ds, D < B1) : Marks m w B (Ds1 ++ Ds) := by
  refine ⟨List.nodup_append.2 ⟨h1.1, h.1, fun x hx y hy e => ?_⟩, fun D hD => ?_⟩
  · have := hlt y hy
    have := (h1.2 x hx).1
    omega
  · rcases List.mem_append.1 hD with hD | hD
    · obtain ⟨g1, g2, g3⟩ := h1.2 D hD
      exact ⟨by omega, g2, g3⟩
    · exact h.2 D hD

theorem Marks.lt {B : Nat} {Ds : List Nat} (h : Marks m w B Ds) : ∀ D ∈ Ds, D < w.heap.size := fun D hD => (Array.getElem?_eq_some_iff.1 (h.2 D hD).2.1).1

/-- What a stretch of code has left, for what comes behind it. -/
structure Mid (P : Program) (m : Mp) (H : Hp) (n : Nat) (w : World) (nt : Nat) (a : Act) (m1 : Mp) (fr1 : Fr) (H1 : Hp) (n1 : Nat) (a1 : Act) (w1 : World) (Ds : List Nat) : Prop where
  rel : Rel P m1 H1 w1
  evol : Evol m H n w m1 H1 n1 w1
  frame : FrRel m1 nt fr1 a1.tmps
  defers : a1.defers = Ds.map markOf ++ a.defers
  marks : Marks m1 w1 w.heap.size Ds

theorem Mid.then {m1 : Mp} {fr1 : Fr} {H1 : Hp} {n1 : Nat} {a1 : Act} {w1 : World} {Ds : List Nat} (h : Mid P m H n w nt a m1 fr1 H1 n1 a1 w1 Ds) {x : Ex} {fr2 : Fr} {H2 : Hp} {n2 : Nat} {e : Exit} {a2 : Act} {w2 : World}
    (k : Ends P m1 H1 n1 w1 nt a1 x fr2 H2 n2 e a2 w2) : Ends P m H n w nt a x fr2 H2 n2 e a2 w2 := by
  obtain ⟨k0, m2, Ds2, k1, k2, k3, k4, k5⟩ := k
  refine ⟨k0, m2, Ds2 ++ Ds, k1, h.evol.trans k2, k3, ?_, ?_⟩
  · rw [k4, h.defers, List.map_append, List.append_assoc]
  · exact Marks.app (h.marks.evol k2) k5 h.evol.size h.marks.lt

theorem seqK_some {k : Fr → Hp → Nat → R} {r : R} {x : Ex} {fr' : Fr} {H' : Hp} {n' : Nat} (h : seqK k r = some (x, fr', H', n')) :
    (∃ fr1 H1 n1, r = some (.normal, fr1, H1, n1) ∧ k fr1 H1 n1 = some (x, fr', H', n')) ∨ (r = some (x, fr', H', n') ∧ x ≠ .normal) := by
  unfold seqK at h
  split at h
  · exact .inl ⟨_, _, _, rfl, h⟩
  · rename_i hne
    subst h
    exact .inr ⟨rfl, fun e => by subst e; exact hne _ _ _ rfl⟩

/-- The rule of code one behind the other, in general. -/
theorem seq_sound {ev : Ev} (hev : Snd P ev) {ro : Option Nat} {c1 c2 : Code} {x : Ex} {fr' : Fr} {H' : Hp} {n' : Nat}
    (hr : seqK (ev nt c2) (ev nt c1 fr H n) = some (x, fr', H', n')) : n ≤ n' ∧ (Rel P m H w → FrRel m nt fr a.tmps → (∀ b, n ≤ b → b < n' → m b = none) → RoundOk ro m H →
      c1.wpIn (W ro) 0 P (Exit.then (c2.wpIn (W ro) 0 P (Ends P m H n w nt a x fr' H' n')) (Ends P m H n w nt a x fr' H' n')) a w) := by
  rcases seqK_some hr with ⟨fr1, H1, n1, h1, h2⟩ | ⟨h1, hne⟩
  · obtain ⟨l1, s1⟩ := hev ro _ _ _ _ _ _ _ _ _ h1
    obtain ⟨l2, s2⟩ := hev ro _ _ _ _ _ _ _ _ _ h2
    refine ⟨Nat.le_trans l1 l2, fun h hf hfr hro => ?_⟩
    refine wpIn_mono (s1 m w a h hf (fun b g1 g2 => hfr b g1 (by omega)) hro) ?_
    rintro e a1 w1 ⟨rfl, m1, Ds, g1, g2, g3, g4, g5⟩
    have := s2 m1 w1 a1 g1 g3 (g2.freshLeft hfr) (hro.evol g2)
    exact wpIn_mono this fun e a2 w2 k => Mid.then ⟨g1, g2, g3, g4, g5⟩ k
  · obtain ⟨l1, s1⟩ := hev ro _ _ _ _ _ _ _ _ _ h1
    refine ⟨l1, fun h hf hfr hro => ?_⟩
    refine wpIn_mono (s1 m w a h hf hfr hro) ?_
    intro e a1 w1 k
    have he := k.ex
    subst he
    cases x with
    | normal => exact absurd rfl hne
    | exit id => exact k
    | ret => exact k
end Go.Ab

/- Ranges over functions; the steps of code. -/
namespace Go.Ab
variable {P : Program} [HasOrc P] [OrcOk P] {m : Mp} {H : Hp} {w : World} {nt : Nat} {fr : Fr} {a : Act} {n : Nat}

theorem alloc_old {w : World} {B : Nat} (hB : B < w.heap.size) (o : Obj) : (w.alloc o).heap[B]? = w.heap[B]? := by
  show (w.heap.push o)[B]? = _
  rw [Array.getElem?_push_lt hB]
  exact (Array.getElem?_eq_getElem hB).symm

theorem callG_some {E : Env} {ev : Ev} {v : Value} {args : List Value} {r : Value × Hp × Nat} (h : callG E ev v args H n = some r) :
    ∃ g first cap, v = .func (.func g) first cap ∧ callF E ev g (first.toList ++ args ++ cap.toList) H n = some r := by
  unfold callG at h
  split at h
  · exact ⟨_, _, _, rfl, h⟩
  · cases h

theorem tmpsOf_rel {tmps : Array Value} (hf : FrRel m nt fr tmps) : VRels m (tmpsOf nt fr) tmps.toList := by
  have hs := hf.size
  refine VRels.of_get (by simp [tmpsOf, hs]) fun j v hj => ?_
  have hlt : j < nt := by
    have := (List.getElem?_eq_some_iff.1 hj).1
    simpa [tmpsOf] using this
  have hv : v = (fr.get j).getD undef := by
    simp [tmpsOf, hlt] at hj
    exact hj.symm
  subst hv
  refine ⟨tmps.getD j undef, ?_, hf.at_ j⟩
  have hlt2 : j < tmps.size := by omega
  rw [Array.getD_eq_getD_getElem?, Array.getElem?_eq_getElem hlt2]
  simp

theorem rangeF_le {ev : Ev} (hev : Snd P ev) {E : Env} {f : Operand} {ps : Array Tmp} {as body : Code} {x : Ex} {fr' : Fr} {H' : Hp} {n' : Nat}
    (hr : rangeF E ev nt f ps as body fr H n = some (x, fr', H', n')) : n + 1 ≤ n' := by
  unfold rangeF at hr
  split at hr
  · split at hr
    · rename_i v H2 n2 hc
      obtain ⟨g, first, cap, rfl, hc⟩ := callG_some hc
      have := callF_le hev hc
      split at hr
      · split at hr <;> cases hr <;> exact this
      · cases hr
    · cases hr
  · cases hr

/-- **A range over a function.** -/
theorem rangeF_sound {ev : Ev} (hev : Snd P ev) (hN : NamesOk P) {ro : Option Nat} {f : Operand} {ps : Array Tmp} {as body : Code} {x : Ex} {fr' : Fr} {H' : Hp} {n' : Nat}
    (hr : rangeF (envOf P) ev nt f ps as body fr H n = some (x, fr', H', n')) (h : Rel P m H w) (hf : FrRel m nt fr a.tmps) (hfr : ∀ b, n ≤ b → b < n' → m b = none) (hro : RoundOk ro m H) :
    (Code.rangeFunc f ps as body).wpIn (W ro) 0 P (Ends P m H n w nt a x fr' H' n') a w := by
  have hle := rangeF_le hev hr
  unfold rangeF at hr
  split at hr
  · rename_i u hu
    split at hr
    · rename_i v H2 n2 hc
      obtain ⟨g, first, cap, rfl, hc⟩ := callG_some hc
      split at hr
      · rename_i L hL
        have hn2 : n2 = n' := by
          split at hr <;> cases hr <;> rfl
        subst hn2
        have hu := opv_sound h hf hu
        generalize hq : a.eval f = q at hu
        cases hu with
        | @func g first first' captured captured' k1 k2 =>
          have hn : m n = none := hfr n (Nat.le_refl _) (by omega)
          -- whatever record and blocks the statement lays
          have core : ∀ (l : Nat) (r : Loop) (w1 : World) (Ds : List Nat), w1.heap[l]? = some (.loop r) → r.state = .ready → r.pending = none → r.tmps = a.tmps → r.params = ps → r.assign = as → r.body = body →
              w.heap.size ≤ l → w.heap.size ≤ w1.heap.size → (∀ B, B < w.heap.size → w1.heap[B]? = w.heap[B]?) → w1.os = w.os → w1.tape = w.tape → w1.output = w.output →
              Ds.Nodup → (∀ D ∈ Ds, w.heap.size ≤ D ∧ D ≠ l ∧ w1.heap[D]? = some (.deferred (some []))) →
              ∃ (d : Deferred) (w₁' : World) (f' : FuncId) (args : Array Value) (w₂ : World),
                (resolve a.eval (rangeCall f l) 0).run P w1 = .ok d w₁' ∧ (∀ f', Target.leads P w₁' d.target d.args = some f' → (W ro).fn f') ∧
                (invoke d.target d.args).run P w₁' = .ok (.enter f' args) w₂ ∧ ((W ro).depth.isSome = true → 1 ≤ 0) ∧
                CallsIn (W ro) (0 - 1) P f' args w₂ (rangePost (W ro) 0 P l (Ends P m H n w nt a x fr' H' n2) { a with defers := Ds.map markOf ++ a.defers }) := by
            intro l r w1 Ds hr1 hst hpd htm hps has hbd hl hsz hold hos htp hout hnd hDs
            obtain ⟨pl, hpl⟩ : ∃ pl : Pl, pl = ⟨l, 0, 0, 0, .own⟩ := ⟨_, rfl⟩
            have hplB : pl.B = l := by rw [hpl]
            have hnew := h.new (w' := w1) (n := n) (X := .loop { state := .ready, pending := none, fn := 0, tmps := (tmpsOf nt fr).toArray, params := ps, assign := as, body := body, defers := 0 }) (pl := pl) hn (by rw [hplB]; exact hl) hsz hold
              ⟨r, by rw [hplB]; exact hr1, hst, hpd, by rw [htm]; exact (tmpsOf_rel hf).mono (le_upd pl hn), hps, has, hbd⟩ rfl hos htp hout
            obtain ⟨hrel1, hev1⟩ := hnew
            have hargs : VRels (upd m n pl) (first.toList ++ [.func (.yield n) #[] #[]] ++ cap.toList) (first'.toList ++ [Value.func (.yield l) #[] #[]] ++ captured'.toList) := by
              have hy : VRel (upd m n pl) (.func (.yield n) #[] #[]) (.func (.yield pl.B) #[] #[]) := .yield (upd_same m n pl)
              rw [hplB] at hy
              exact ((k1.mono (le_upd pl hn)).append (.cons hy .nil)).append (k2.mono (le_upd pl hn))
            obtain ⟨fn, c1, c2, c3⟩ := call_sound hev hrel1 hargs hc (hev1.freshLeft hfr)
            have hr : (match L.state, L.pending with
              | .busy, _ => none
              | _, none => some (.normal, fr, H2.put n (.loop { L with state := .exhausted }), n2)
              | _, some (.exit id) => some (.exit id, fr, H2.put n (.loop { L with state := .exhausted }), n2)
              | _, some .ret => some (.ret, fr, H2.put n (.loop { L with state := .exhausted }), n2)
              | _, _ => none) = some (x, fr', H', n2) := hr
            have harr : first' ++ #[Value.func (.yield l) #[] #[]] ++ captured' = (first'.toList ++ [Value.func (.yield l) #[] #[]] ++ captured'.toList).toArray := by
              apply Array.ext'; simp
            refine ⟨{ target := .fn (Fn.func g) captured', args := first' ++ #[Value.func (.yield l) #[] #[]] }, w1, g, (first'.toList ++ [Value.func (.yield l) #[] #[]] ++ captured'.toList).toArray, w1, ?_, fun _ _ => trivial, ?_, (fun h => by cases h), ?_⟩
            · simp only [resolve, rangeCall, hq, Deferred.ofValue, Sem.run_bind, Sem.run_pure, Result.andThen_ok]
              rw [show Array.map a.eval #[Operand.const (Value.func (.yield l) #[] #[])] = #[Value.func (.yield l) #[] #[]] from by simp [Act.eval]]
            · obtain ⟨bd, hbody⟩ := Option.isSome_iff_exists.1 c2
              have := hN g fn c1
              rw [← harr]
              simp [invoke, callFunc, c1, hbody, this]
            · refine CallsIn.mono (F := W ro) (R := Back P (upd m n pl) _ (n + 1) w1 v H2 n2) c3 ?_
              rintro e w3 ⟨v', m2, rfl, b1, b2, b3⟩
              have hm2 : m2 n = some pl := b3.le n pl (upd_same m n pl)
              obtain ⟨L', q1, q2, q3, q4, q5, q6, q7⟩ := b2.blk n _ pl hL hm2
              obtain ⟨s1, s2⟩ := b2.putLoop n2 hL hm2 (L2 := { L with state := .exhausted }) (L2' := { L' with state := .exhausted }) rfl q3 q4 q5 q6 q7
              have hmarks : Marks m2 (w3.putObj pl.B (.loop { L' with state := .exhausted })) w.heap.size Ds := by
                have hm0 : Marks (upd m n pl) w1 w.heap.size Ds := by
                  refine ⟨hnd, fun D hD => ?_⟩
                  obtain ⟨g1, g2, g3⟩ := hDs D hD
                  refine ⟨g1, g3, fun b pl' hb => ?_⟩
                  by_cases e : b = n
                  · subst e
                    rw [upd_same] at hb
                    cases hb
                    rw [hplB]
                    exact Ne.symm g2
                  · rw [upd_ne m pl e] at hb
                    have := h.inb b pl' hb
                    omega
                exact hm0.evol (b3.trans s2)
              have hends : ∀ {y : Ex}, H' = H2.put n (.loop { L with state := .exhausted }) → fr' = fr → x = y → Ends P m H n w nt a x fr' H' n2 (exOf y) { a with defers := Ds.map markOf ++ a.defers } (w3.putObj pl.B (.loop { L' with state := .exhausted })) := by
                rintro y rfl rfl rfl
                exact ⟨rfl, m2, Ds, s1, (hev1.trans b3).trans s2, hf.mono (hev1.trans b3).le, rfl, hmarks⟩
              have hnb : L'.state ≠ .busy := by
                rw [q2]
                intro hb
                rw [hb] at hr
                cases hr
              have hend := run_endLoop (P := P) q1 hnb
              rw [hplB] at hend hends
              generalize w3.putObj l (.loop { L' with state := .exhausted }) = w4 at hend hends
              refine ⟨_, _, hend, ?_⟩
              rw [q3]
              split at hr
              · cases hr
              · rename_i hp _
                cases hr
                have k := hends (y := .normal) rfl rfl rfl
                rw [hp] at k ⊢
                exact k
              · rename_i id hp _
                cases hr
                have k := hends (y := .exit id) rfl rfl rfl
                rw [hp] at k ⊢
                exact wpIn_exit k
              · rename_i hp _
                cases hr
                have k := hends (y := .ret) rfl rfl rfl
                rw [hp] at k ⊢
                exact wpIn_ret k
              · cases hr
          refine wpIn_rangeFunc fun fid _ => ?_
          cases ro with
          | none =>
            obtain ⟨d, w₁', f', args, w₂, g1, g2, g3, g4, g5⟩ := core (w.heap.size + 1) { state := .ready, pending := none, fn := fid, tmps := a.tmps, params := ps, assign := as, body := body, defers := w.heap.size }
              ((w.alloc (.deferred (some []))).alloc (.loop { state := .ready, pending := none, fn := fid, tmps := a.tmps, params := ps, assign := as, body := body, defers := w.heap.size })) [w.heap.size]
              (by have := World.alloc_heap_new (w.alloc (.deferred (some []))) (.loop { state := .ready, pending := none, fn := fid, tmps := a.tmps, params := ps, assign := as, body := body, defers := w.heap.size })
                  simpa using this) rfl rfl rfl rfl rfl rfl (by omega) (by simp; omega)
              (fun B hB => (alloc_old (by simp; omega) _).trans (alloc_old hB _)) rfl rfl rfl (by simp)
              (fun D hD => by
                have : D = w.heap.size := by simpa using hD
                subst this
                exact ⟨Nat.le_refl _, by omega, (alloc_old (by simp) _).trans (World.alloc_heap_new _ _)⟩)
            exact ⟨_, _, _, d, w₁', f', args, w₂, run_enterLoop_outer fid a.tmps ps as body, g1, g2, g3, g4, g5⟩
          | some l0 =>
            obtain ⟨l, pl0, L0, e1, e2, e3⟩ := hro l0 rfl
            obtain ⟨r0, e4, _⟩ := h.blk l _ pl0 e3 e1
            rw [e2] at e4
            obtain ⟨d, w₁', f', args, w₂, g1, g2, g3, g4, g5⟩ := core w.heap.size { state := .ready, pending := none, fn := fid, tmps := a.tmps, params := ps, assign := as, body := body, defers := r0.defers }
              (w.alloc (.loop { state := .ready, pending := none, fn := fid, tmps := a.tmps, params := ps, assign := as, body := body, defers := r0.defers })) []
              (World.alloc_heap_new _ _) rfl rfl rfl rfl rfl rfl (by omega) (by simp)
              (fun B hB => alloc_old hB _) rfl rfl rfl .nil
              (fun D hD => by cases hD)
            exact ⟨_, _, _, d, w₁', f', args, w₂, run_enterLoop_inner e4 fid a.tmps ps as body, g1, g2, g3, g4, g5⟩
      · cases hr
    · cases hr
  · cases hr
end Go.Ab

/- The evaluator's runs are the model's, but for regions that draw (asked as a premise here). -/
namespace Go.Ab
variable {P : Program} [HasOrc P] [OrcOk P] {m : Mp} {H : Hp} {w : World} {nt : Nat} {fr : Fr} {a : Act} {n : Nat}

section scope
variable {b : Frame} {k : List Item} {cs : List Frame}
theorem stepR_scope {c : Code} : Go.step P (lone (b.atR a (.code (.scope c) :: k)) cs w) = .next (lone (b.atR a (.code c :: .inScope c :: k)) cs w) :=
  step_lone_go (by simp [stepG, stepG.exec, Frame.atR])
theorem stepR_inScope {c : Code} : Go.step P (lone (b.atR a (.inScope c :: k)) cs w) = .next (lone (b.atR a k) cs w) :=
  step_lone_go (by simp [stepG, stepG.exec, Frame.atR])
end scope

/-- A scope that no jump leaves by its label. -/
theorem wpIn_scope {F : Fence} {d : Nat} {Q : Exit → Act → World → Prop} {c : Code} (hg : ∀ l a w, ¬ Q (.goto l) a w) (h : c.wpIn F d P Q a w) : (Code.scope c).wpIn F d P Q a w := by
  intro b k cs hro hb hr
  have h0 : (lone (b.atR a (.code (.scope c) :: k)) cs w).fenced P F := fenced_calm hb hr rfl
  obtain ⟨e, a₁, w₁, hq, harr⟩ := h b (.inScope c :: k) cs hro hb hr
  cases e with
  | normal => exact ⟨.normal, a₁, w₁, hq, .head h0 stepR_scope (StepsIn.trans harr (.one (fenced_calm hb hr rfl) stepR_inScope))⟩
  | exit id =>
    have hx : exitTo id (.inScope c :: k) = exitTo id k := by simp [exitTo]
    exact ⟨.exit id, a₁, w₁, hq, fun k' hk => .head h0 stepR_scope (harr.1 k' (by rw [hx]; exact hk)),
      fun hr' hk => let ⟨k₁, h1, h2⟩ := harr.2 hr' (by rw [hx]; exact hk); ⟨k₁, h1, .head h0 stepR_scope h2⟩⟩
  | goto l => exact absurd hq (hg _ _ _)
  | ret => exact ⟨_, a₁, w₁, hq, .of_steps (.one h0 stepR_scope) harr⟩
  | panic ch => exact ⟨_, a₁, w₁, hq, .of_steps (.one h0 stepR_scope) harr⟩
  | outgrown => exact ⟨_, a₁, w₁, hq, .of_steps (.one h0 stepR_scope) harr⟩

theorem roundsIn_mono {F : Fence} {d : Nat} {Q Q' : Exit → Act → World → Prop} {c : Code} (hq : ∀ e a w, Q e a w → Q' e a w) : ∀ (k : Nat) (a : Act) (w : World), Code.roundsIn F d P c Q k a w → Code.roundsIn F d P c Q' k a w
  | 0, _, _, h => h
  | k + 1, a, w, h => by
    rw [roundsIn_succ] at h ⊢
    refine wpIn_mono h fun e a1 w1 g => ?_
    cases e <;> first | exact roundsIn_mono hq k _ _ g | exact hq _ _ _ g

/-- Regions that draw. -/
def DrawSnd (P : Program) [HasOrc P] : Prop := ∀ (ev : Ev), Snd P ev → ∀ (ro : Option Nat) (nt id : Nat) (ops : Array Oper) (fr : Fr) (H : Hp) (n : Nat) (x : Ex) (fr' : Fr) (H' : Hp) (n' : Nat), drawnF (envOf P) ev nt ops fr H n = some (x, fr', H', n') →
  n ≤ n' ∧ ∀ (m : Mp) (w : World) (a : Act), Rel P m H w → FrRel m nt fr a.tmps → (∀ b, n ≤ b → b < n' → m b = none) → RoundOk ro m H → (Code.region id ops true).wpIn (W ro) 0 P (Ends P m H n w nt a x fr' H' n') a w

theorem ends_here (h : Rel P m H w) (hf : FrRel m nt fr a.tmps) (x : Ex) : Ends P m H n w nt a x fr H n (exOf x) a w :=
  ⟨rfl, m, [], h, Evol.refl _ _ _ _, hf, rfl, Marks.nil _ _ _⟩

theorem ends_goto {x : Ex} {fr' : Fr} {H' : Hp} {n' : Nat} (l : Nat) (a1 : Act) (w1 : World) : ¬ Ends P m H n w nt a x fr' H' n' (.goto l) a1 w1 := fun h => by
  have := h.ex
  cases x <;> cases this

theorem evc_zero (E : Env) (nt : Nat) (c : Code) : evc E 0 nt c fr H n = none := rfl
theorem evc_succ (E : Env) (f nt : Nat) (c : Code) : evc E (f + 1) nt c fr H n = step c E (evc E f) nt fr H n := rfl

/-- **The evaluator tells the model's runs.** -/
theorem evc_snd (hN : NamesOk P) (hD : DrawSnd P) : ∀ f, Snd P (evc (envOf P) f) ∧ ∀ (ro : Option Nat) (nt : Nat) (b : Code) (fr : Fr) (H : Hp) (n : Nat) (x : Ex) (fr' : Fr) (H' : Hp) (n' : Nat), evc (envOf P) f nt (.loop b) fr H n = some (x, fr', H', n') →
    ∀ (m : Mp) (w : World) (a : Act), Rel P m H w → FrRel m nt fr a.tmps → (∀ b, n ≤ b → b < n' → m b = none) → RoundOk ro m H → Code.roundsIn (W ro) 0 P b (Ends P m H n w nt a x fr' H' n') f a w := by
  intro f
  induction f with
  | zero =>
    refine ⟨fun ro nt c fr H n x fr' H' n' h => ?_, fun ro nt b fr H n x fr' H' n' h => ?_⟩
    · cases h
    · cases h
  | succ f ih =>
    obtain ⟨hev, hlp⟩ := ih
    -- the loop's rounds
    have hloop : ∀ (ro : Option Nat) (nt : Nat) (b : Code) (fr : Fr) (H : Hp) (n : Nat) (x : Ex) (fr' : Fr) (H' : Hp) (n' : Nat), evc (envOf P) (f + 1) nt (.loop b) fr H n = some (x, fr', H', n') →
        ∀ (m : Mp) (w : World) (a : Act), Rel P m H w → FrRel m nt fr a.tmps → (∀ b, n ≤ b → b < n' → m b = none) → RoundOk ro m H → Code.roundsIn (W ro) 0 P b (Ends P m H n w nt a x fr' H' n') (f + 1) a w := by
      intro ro nt b fr H n x fr' H' n' hr m w a h hf hfr hro
      have hr : seqK (evc (envOf P) f nt (.loop b)) (evc (envOf P) f nt b fr H n) = some (x, fr', H', n') := hr
      rw [roundsIn_succ]
      rcases seqK_some hr with ⟨fr1, H1, n1, h1, h2⟩ | ⟨h1, hne⟩
      · obtain ⟨l1, s1⟩ := hev ro _ _ _ _ _ _ _ _ _ h1
        have l2 := (hev ro _ _ _ _ _ _ _ _ _ h2).1
        refine wpIn_mono (s1 m w a h hf (fun b g1 g2 => hfr b g1 (by omega)) hro) ?_
        rintro e a1 w1 ⟨rfl, m1, Ds, g1, g2, g3, g4, g5⟩
        have := hlp ro _ _ _ _ _ _ _ _ _ h2 m1 w1 a1 g1 g3 (g2.freshLeft hfr) (hro.evol g2)
        exact roundsIn_mono (fun e a2 w2 k => Mid.then ⟨g1, g2, g3, g4, g5⟩ k) f a1 w1 this
      · obtain ⟨l1, s1⟩ := hev ro _ _ _ _ _ _ _ _ _ h1
        refine wpIn_mono (s1 m w a h hf hfr hro) ?_
        intro e a1 w1 k
        have he := k.ex
        subst he
        cases x with
        | normal => exact absurd rfl hne
        | exit id => exact k
        | ret => exact k
    refine ⟨fun ro nt c fr H n x fr' H' n' hr => ?_, hloop⟩
    cases c with
    | skip =>
      cases hr
      exact ⟨Nat.le_refl _, fun m w a h hf _ _ => wpIn_skip (ends_here h hf .normal)⟩
    | label l =>
      cases hr
      exact ⟨Nat.le_refl _, fun m w a h hf _ _ => wpIn_label (ends_here h hf .normal)⟩
    | exit i =>
      cases hr
      exact ⟨Nat.le_refl _, fun m w a h hf _ _ => wpIn_exit (ends_here h hf (.exit i))⟩
    | ret =>
      cases hr
      exact ⟨Nat.le_refl _, fun m w a h hf _ _ => wpIn_ret (ends_here h hf .ret)⟩
    | goto l => cases hr
    | refuse s => cases hr
    | seq c1 c2 =>
      have hr : seqK (evc (envOf P) f nt c2) (evc (envOf P) f nt c1 fr H n) = some (x, fr', H', n') := hr
      refine ⟨(seq_sound (m := fun _ => none) (w := default) (a := { tmps := #[], defers := [] }) (ro := ro) hev hr).1, fun m w a h hf hfr hro => ?_⟩
      exact wpIn_seq ((seq_sound (ro := ro) hev hr).2 h hf hfr hro)
    | cond y c1 c2 =>
      have hr : condK (opv (envOf P) fr y) (evc (envOf P) f nt c1 fr H n) (evc (envOf P) f nt c2 fr H n) = some (x, fr', H', n') := hr
      unfold condK at hr
      split at hr
      · rename_i t ht
        rw [cnd_eq] at hr
        have key : ∀ (m : Mp) (w : World) (a : Act), Rel P m H w → FrRel m nt fr a.tmps → a.eval y = .bool t := fun m w a h hf => (VRel.bool_iff (opv_sound h hf ht)).1 rfl
        cases t with
        | true =>
          obtain ⟨l1, s1⟩ := hev ro _ _ _ _ _ _ _ _ _ hr
          exact ⟨l1, fun m w a h hf hfr hro => wpIn_cond_true (key m w a h hf) (s1 m w a h hf hfr hro)⟩
        | false =>
          obtain ⟨l1, s1⟩ := hev ro _ _ _ _ _ _ _ _ _ hr
          exact ⟨l1, fun m w a h hf hfr hro => wpIn_cond_false (key m w a h hf) (s1 m w a h hf hfr hro)⟩
      · cases hr
    | block id b =>
      have hr : blockK id (evc (envOf P) f nt b fr H n) = some (x, fr', H', n') := hr
      unfold blockK at hr
      split at hr
      · rename_i i fr1 H1 n1 he
        obtain ⟨l1, s1⟩ := hev ro _ _ _ _ _ _ _ _ _ he
        rw [cnd_eq] at hr
        split at hr
        · rename_i hid
          have hid := Nat.eq_of_beq_eq_true hid
          cases hr
          refine ⟨l1, fun m w a h hf hfr hro => wpIn_block (wpIn_mono (s1 m w a h hf hfr hro) ?_)⟩
          rintro e a1 w1 ⟨rfl, g⟩
          simp only [exOf, Exit.inBlock, hid, if_true]
          exact ⟨rfl, g⟩
        · rename_i hid
          have hid : i ≠ id := fun e => hid (by rw [e]; exact Nat.beq_refl id)
          cases hr
          refine ⟨l1, fun m w a h hf hfr hro => wpIn_block (wpIn_mono (s1 m w a h hf hfr hro) ?_)⟩
          rintro e a1 w1 ⟨rfl, g⟩
          simp only [exOf, Exit.inBlock, hid, if_false]
          exact ⟨rfl, g⟩
      · rename_i hne
        obtain ⟨l1, s1⟩ := hev ro _ _ _ _ _ _ _ _ _ hr
        refine ⟨l1, fun m w a h hf hfr hro => wpIn_block (wpIn_mono (s1 m w a h hf hfr hro) ?_)⟩
        intro e a1 w1 k
        have he := k.ex
        subst he
        cases x with
        | normal => exact k
        | exit i => exact absurd hr (hne _ _ _ _)
        | ret => exact k
    | loop b =>
      refine ⟨?_, fun m w a h hf hfr hro => wpIn_loop_rounds (f + 1) (hloop ro nt b fr H n x fr' H' n' hr m w a h hf hfr hro)⟩
      have hr : seqK (evc (envOf P) f nt (.loop b)) (evc (envOf P) f nt b fr H n) = some (x, fr', H', n') := hr
      exact (seq_sound (m := fun _ => none) (w := default) (a := { tmps := #[], defers := [] }) (ro := ro) hev hr).1
    | scope b =>
      obtain ⟨l1, s1⟩ := hev ro _ b _ _ _ _ _ _ _ hr
      exact ⟨l1, fun m w a h hf hfr hro => wpIn_scope ends_goto (s1 m w a h hf hfr hro)⟩
    | region id ops d =>
      have hr : cnd d (drawnF (envOf P) (evc (envOf P) f) nt ops fr H n) (opsF (envOf P) (evc (envOf P) f) nt ops ops.toList fr H n) = some (x, fr', H', n') := hr
      cases d with
      | true => exact hD _ hev ro nt id ops fr H n x fr' H' n' hr
      | false =>
        have hr : opsF (envOf P) (evc (envOf P) f) nt ops ops.toList fr H n = some (x, fr', H', n') := hr
        obtain ⟨l1, rfl⟩ := opsF_le hev _ hr
        refine ⟨l1, fun m w a h hf hfr hro => wpIn_region_list (opsF_sound hev hN _ h hf hr hfr ?_)⟩
        intro m1 a1 w1 g1 g2 g3 g4
        exact ⟨rfl, m1, [], g1, g2, g3, g4, Marks.nil _ _ _⟩
    | rangeFunc g ps as b =>
      have hr : rangeF (envOf P) (evc (envOf P) f) nt g ps as b fr H n = some (x, fr', H', n') := hr
      exact ⟨Nat.le_of_succ_le (rangeF_le hev hr), fun m w a h hf hfr hro => rangeF_sound hev hN hr h hf hfr hro⟩

/-- **A run, in the model.** -/
theorem run_sound (hN : NamesOk P) (hD : DrawSnd P) (f : Nat) {g : FuncId} {args args' : List Value} {v : Value} {H' : Hp} {n' : Nat} (hr : run (envOf P) f g args H n = some (v, H', n')) (h : Rel P m H w) (ha : VRels m args args') (hf : ∀ b, n ≤ b → b < n' → m b = none) :
    Calls P g args'.toArray w (Back P m H n w v H' n') := by
  obtain ⟨fn, h1, h2, h3⟩ := call_sound (evc_snd hN hD f).1 h ha hr hf
  exact h3.calls fun k => room_wide k
end Go.Ab
