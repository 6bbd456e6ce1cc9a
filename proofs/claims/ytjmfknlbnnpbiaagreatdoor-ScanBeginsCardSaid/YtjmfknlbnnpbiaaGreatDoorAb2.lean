/- The evaluator's operations are the model's: loads, slices, memory, append, conversions. -/
import Derived.Test.YtjmfknlbnnpbiaaGreatDoorAb1

set_option linter.all false

/- The light operations: each comes in the model to what the evaluator says. -/
namespace Go.Ab
variable {P : Program} [HasOrc P]

structure FrRel (m : Mp) (nt : Nat) (fr : Fr) (tmps : Array Value) : Prop where
  size : tmps.size = nt
  at_ : ∀ i, VRel m ((fr.get i).getD undef) (tmps.getD i undef)

theorem FrRel.mono {m m' : Mp} {nt : Nat} {fr : Fr} {tmps : Array Value} (hm : m.le m') (h : FrRel m nt fr tmps) : FrRel m' nt fr tmps := ⟨h.size, fun i => (h.at_ i).mono hm⟩

section ti
variable {t : TypeId} {ti : TI} (h : tiOf P t = some ti) (w : World)
include h
theorem run_sz : (sizeOf t).run P w = .ok ti.size w := by
  obtain ⟨i, d, z, h1, h2, h3, h4, h5, h6, h7, h8, h9⟩ := tiOf_some h
  simp [sizeOf, typeInfo, h1, h4]
theorem run_ul : (underlying t).run P w = .ok ti.desc w := by
  obtain ⟨i, d, z, h1, h2, h3, h4, h5, h6, h7, h8, h9⟩ := tiOf_some h
  simp [underlying, h2, h6]
theorem run_ag : (isAgg t).run P w = .ok ti.agg w := by
  obtain ⟨i, d, z, h1, h2, h3, h4, h5, h6, h7, h8, h9⟩ := tiOf_some h
  simp only [isAgg, underlying, Sem.run_bind, run_program, Result.andThen_ok, h2, Sem.run_pure, h8]
  split <;> simp
theorem run_ze : ∃ z, (zeroValue t).run P w = .ok z w ∧ z.cells.toList = ti.zero := by
  obtain ⟨i, d, z, h1, h2, h3, h4, h5, h6, h7, h8, h9⟩ := tiOf_some h
  exact ⟨z, by simp [zeroValue, typeInfo, h1, h3], h5.symm⟩
theorem run_ty : ∃ i, (typeInfo t).run P w = .ok i w ∧ i.bytes = ti.bytes ∧ i.size = ti.size := by
  obtain ⟨i, d, z, h1, h2, h3, h4, h5, h6, h7, h8, h9⟩ := tiOf_some h
  exact ⟨i, by simp [typeInfo, h1], h7.symm, h4.symm⟩
theorem ti_flat : ti.zero.all flat0 = true := by
  obtain ⟨i, d, z, h1, h2, h3, h4, h5, h6, h7, h8, h9⟩ := tiOf_some h
  exact h9
end ti

theorem types_env (t : TypeId) : (envOf P).types t = tiOf P t := rfl

section
variable {m : Mp} {H : Hp} {w : World} {nt : Nat} {fr : Fr} {a : Act}

theorem opv_sound (h : Rel P m H w) (hf : FrRel m nt fr a.tmps) {x : Operand} {v : Value} (ho : opv (envOf P) fr x = some v) : VRel m v (a.eval x) := by
  cases x with
  | tmp t => simp only [opv] at ho; cases ho; exact hf.at_ t
  | const c =>
    simp only [opv] at ho
    obtain ⟨h1, h2⟩ := cnd_some ho
    cases h2
    exact constOk_rel m h1
  | global g =>
    simp only [opv] at ho
    obtain ⟨h1, h2⟩ := cnd_some ho
    cases h2
    obtain ⟨pl, h3, h4, h5⟩ := h.glob g (by simpa [envOf] using h1)
    exact .ptr h3 ⟨rfl, by simp [h4, h5]⟩
  | func f => simp only [opv] at ho; cases ho; exact .func f .nil .nil

theorem opvs_sound (h : Rel P m H w) (hf : FrRel m nt fr a.tmps) : ∀ {xs : List Operand} {vs : List Value}, opvs (envOf P) fr xs = some vs → VRels m vs (xs.map a.eval)
  | [], vs, ho => by simp only [opvs] at ho; cases ho; exact .nil
  | x :: xs, vs, ho => by
    simp only [opvs] at ho
    split at ho
    · rename_i v ws h1 h2
      cases ho
      exact .cons (opv_sound h hf h1) (opvs_sound h hf h2)
    · cases ho

inductive PRel (m : Mp) : List (Nat × Value) → List (Nat × Value) → Prop
  | nil : PRel m [] []
  | cons (i : Nat) {v v' : Value} {ps ps' : List (Nat × Value)} (h : VRel m v v') (hs : PRel m ps ps') : PRel m ((i, v) :: ps) ((i, v') :: ps')

theorem opvp_sound (h : Rel P m H w) (hf : FrRel m nt fr a.tmps) : ∀ {xs : List (Nat × Operand)} {ps : List (Nat × Value)}, opvp (envOf P) fr xs = some ps → PRel m ps (xs.map fun (i, x) => (i, a.eval x))
  | [], vs, ho => by simp only [opvp] at ho; cases ho; exact .nil
  | (i, x) :: xs, vs, ho => by
    simp only [opvp] at ho
    split at ho
    · rename_i v ws h1 h2
      cases ho
      exact .cons i (opv_sound h hf h1) (opvp_sound h hf h2)
    · cases ho

theorem cells_rel {v v' : Value} (h : VRel m v v') : VRels m v.cells.toList v'.cells.toList := by
  cases h with
  | agg hc => exact hc
  | bool b => exact .cons (.bool b) .nil
  | int k n => exact .cons (.int k n) .nil
  | string s => exact .cons (.string s) .nil
  | nilPtr => exact .cons .nilPtr .nil
  | ptr h1 h2 => exact .cons (.ptr h1 h2) .nil
  | nilSlice l c => exact .cons (.nilSlice l c) .nil
  | slice h1 h2 => exact .cons (.slice h1 h2) .nil
  | nilFunc => exact .cons .nilFunc .nil
  | nilIface => exact .cons .nilIface .nil
  | func f h1 h2 => exact .cons (.func f h1 h2) .nil
  | yield h1 => exact .cons (.yield h1) .nil
  | tuple hc => exact .cons (.tuple hc) .nil

theorem cells_size {v v' : Value} (h : VRel m v v') : v'.cells.size = v.cells.size := by
  have := (cells_rel h).length
  simpa using this

theorem VRels.set {l l' : List Value} {x x' : Value} (h : VRels m l l') (hx : VRel m x x') (i : Nat) : VRels m (l.set i x) (l'.set i x') := by
  induction l generalizing l' i with
  | nil => cases h; exact .nil
  | cons y ys ih => cases h with
    | cons h hs => cases i with
      | zero => exact .cons hx hs
      | succ i => exact .cons h (ih hs i)

theorem foldl_rel (off : Nat) : ∀ {l l' : List Value} (k : Nat) {cs cs' : Array Value}, VRels m l l' → VRels m cs.toList cs'.toList →
    VRels m ((l.zipIdx k).foldl (fun cs (c, j) => cs.setIfInBounds (off + j) c) cs).toList ((l'.zipIdx k).foldl (fun cs (c, j) => cs.setIfInBounds (off + j) c) cs').toList
  | _, _, _, _, _, .nil, hc => hc
  | _, _, k, cs, cs', .cons h hs, hc => by
    simp only [List.zipIdx_cons, List.foldl_cons]
    exact foldl_rel off (k + 1) hs (by simpa using hc.set h (off + k))

theorem fill_rel {place place' : Nat → Option (Nat × Nat)} (hp : ∀ i, place' i = place i) : ∀ {ps ps' : List (Nat × Value)} {cs cs' r : Array Value}, PRel m ps ps' → VRels m cs.toList cs'.toList → Instr.fill place cs ps = some r →
    ∃ r', Instr.fill place' cs' ps' = some r' ∧ VRels m r.toList r'.toList
  | _, _, cs, cs', r, .nil, hc, hr => by
    simp only [Instr.fill] at hr ⊢
    cases hr
    exact ⟨cs', rfl, hc⟩
  | _, _, cs, cs', r, .cons i h hs, hc, hr => by
    simp only [Instr.fill] at hr ⊢
    rw [hp]
    have e1 := cells_size h
    have e2 : cs'.size = cs.size := by simpa using hc.length
    split at hr
    · cases hr
    · rename_i off size hpl
      split at hr
      · cases hr
      · rename_i hne
        rw [e1, e2, if_neg hne]
        refine fill_rel hp hs ?_ hr
        rw [← Array.foldl_toList, ← Array.foldl_toList, Array.toList_zipIdx, Array.toList_zipIdx]
        exact foldl_rel off 0 (cells_rel h) hc

theorem places_run : ∀ {fs : List Field} {ps : List (Nat × Nat)}, places (envOf P) fs = some ps → ∀ w : World, (fs.mapM fun f => do pure (f.offset, ← sizeOf f.type) : Sem (List (Nat × Nat))).run P w = .ok ps w
  | [], ps, h, w => by simp only [places] at h; cases h; rfl
  | f :: fs, ps, h, w => by
    simp only [places] at h
    split at h
    · rename_i ti qs h1 h2
      cases h
      simp only [List.mapM_cons, Sem.run_bind, run_sz h1, Result.andThen_ok, Sem.run_pure, places_run h2]
    · cases h

theorem build_sound {t : TypeId} {ps ps' : List (Nat × Value)} {v : Value} (hp : PRel m ps ps') (hb : buildV (envOf P) t ps = some v) : ∃ v', (Instr.build t ps'.toArray).run P w = .ok v' w ∧ VRel m v v' := by
  simp only [buildV, types_env] at hb
  split at hb
  · rename_i ti hti
    obtain ⟨z, hz, hz'⟩ := run_ze hti w
    have hzr : VRels m ti.zero z.cells.toList := by rw [hz']; exact flat0s_rel m (ti_flat hti)
    split at hb
    · rename_i fields hd
      split at hb
      · rename_i pls hpl
        have hrun := places_run hpl w
        simp only [Option.map_eq_some_iff] at hb
        obtain ⟨r, hr, rfl⟩ := hb
        obtain ⟨r', hr', hrel⟩ := fill_rel (place' := fun i => pls[i]?) (fun i => rfl) hp (cs' := z.cells) (by simpa using hzr) hr
        refine ⟨.agg r', ?_, .agg hrel⟩
        simp only [Instr.build, Sem.run_bind, hz, Result.andThen_ok, run_ul hti, hd, Array.mapM_eq_mapM_toList, Sem.run_map, hrun]
        simp [hr']
      · cases hb
    · rename_i n elem hd
      split at hb
      · rename_i te hte
        simp only [Option.map_eq_some_iff] at hb
        obtain ⟨r, hr, rfl⟩ := hb
        obtain ⟨r', hr', hrel⟩ := fill_rel (place' := fun i => some (i * te.size, te.size)) (fun i => rfl) hp (cs' := z.cells) (by simpa using hzr) hr
        refine ⟨.agg r', ?_, .agg hrel⟩
        simp only [Instr.build, Sem.run_bind, hz, Result.andThen_ok, run_ul hti, hd, run_sz hte]
        simp [hr']
      · cases hb
    · cases hb
  · cases hb

theorem loadV_sound (h : Rel P m H w) {t : TypeId} {p p' : Addr} {pl : Pl} (hm : m p.block = some pl) (ha : ARel pl p p') {v : Value} (hl : loadV (envOf P) H t p = some v) : ∃ v', (loadVar t p').run P w = .ok v' w ∧ VRel m v v' := by
  simp only [loadV, types_env] at hl
  split at hl
  · rename_i ti hti
    rw [cnd_eq] at hl
    split at hl
    · rename_i hag
      split at hl
      · rename_i l hr
        cases hl
        obtain ⟨l', h1, h2, _⟩ := readC_sound h hm ha hr
        refine ⟨.agg l'.toArray, ?_, .agg (by simpa using h2)⟩
        simp only [loadVar, Sem.run_bind, run_ag hti, Result.andThen_ok, hag, if_true, run_sz hti, h1, Sem.run_pure]
      · cases hl
    · rename_i hag
      split at hl
      · rename_i c e k hb
        obtain ⟨_, ⟨arr, fz, h1, _, _, h4⟩, _⟩ := h.blk _ _ _ hb hm
        obtain ⟨v', h5, h6⟩ := h4 _ _ hl
        refine ⟨v', ?_, h6⟩
        obtain ⟨_, rfl⟩ := ha
        have hc : w.cell? ⟨pl.B, pl.base + p.off, none⟩ = some v' := by rw [cell_of h1]; exact h5
        simp [loadVar, run_ag hti, hag, hc]
      · cases hl
  · cases hl

theorem bnds_run {len cap : Nat} {low high : Option Value} {l h : Nat} (hb : bnds len cap low high = some (l, h)) (cap' : Nat) (hc : cap ≤ cap') (isS : Bool) (w : World) :
    (Instr.sliceBounds isS len cap' low high none).run P w = .ok (l, h, cap') w ∧ l ≤ h ∧ h ≤ cap := by
  simp only [bnds] at hb
  split at hb
  · rename_i h' hh
    split at hb
    · rename_i l' hl'
      cases hb
      have h1 : (match high with | some v => Instr.sliceBound v cap' (if isS = true then .sliceAcap else .sliceAlen) | none => pure len : Sem Nat).run P w = .ok h w ∧ h ≤ cap := by
        cases high with
        | none =>
          obtain ⟨h3, h4⟩ := cnd_some hh
          cases h4
          exact ⟨rfl, Nat.le_of_ble_eq_true h3⟩
        | some v =>
          cases v with
          | int k i =>
            obtain ⟨h3, h9⟩ := cnd_some hh
            cases h9
            simp only [Bool.and_eq_true, decide_eq_true_eq] at h3
            refine ⟨?_, by omega⟩
            simp only [Instr.sliceBound, asIntOf, pure_bind]
            rw [if_pos (by omega)]; rfl
          | _ => cases hh
      have h2 : ∀ code, (match low with | some v => Instr.sliceBound v h code | none => pure 0 : Sem Nat).run P w = .ok l w ∧ l ≤ h := by
        intro code
        cases low with
        | none => cases hl'; exact ⟨rfl, by omega⟩
        | some v =>
          cases v with
          | int k i =>
            obtain ⟨h3, h9⟩ := cnd_some hl'
            cases h9
            simp only [Bool.and_eq_true, decide_eq_true_eq] at h3
            refine ⟨?_, by omega⟩
            simp only [Instr.sliceBound, asIntOf, pure_bind]
            rw [if_pos (by omega)]; rfl
          | _ => cases hl'
      refine ⟨?_, (h2 .sliceB).2, h1.2⟩
      cases high <;> cases low <;> simp [Instr.sliceBounds] at h1 h2 ⊢ <;> simp_all
    · cases hb
  · cases hb
end
end Go.Ab

/- The light operations, continued. -/
namespace Go.Ab
variable {P : Program} [HasOrc P] {m : Mp} {H : Hp} {w : World} {nt : Nat} {fr : Fr} {a : Act}

theorem fieldPl_run {s : TypeId} {p p' q : Addr} {f : Nat} {pl : Pl} (ha : ARel pl p p') (hf : fieldPl (envOf P) s p f = some q) : ∃ q', (Instr.fieldAt s (.pointer (some p')) f).run P w = .ok (.pointer (some q')) w ∧ ARel pl q q' ∧ q.block = p.block := by
  simp only [fieldPl, types_env] at hf
  split at hf
  · rename_i ti hti
    split at hf
    · rename_i fields hd
      split at hf
      · rename_i fd hfd
        split at hf
        · rename_i tf htf
          rw [cnd_eq] at hf
          split at hf
          · cases hf
          · rename_i hz
            cases hf
            have hz : tf.size ≠ 0 := by intro e; rw [e] at hz; exact hz rfl
            refine ⟨p'.add fd.offset, ?_, ha.add _, block_add _ _⟩
            simp only [Instr.fieldAt, Sem.run_bind, run_ul hti, hd, Result.andThen_ok, hfd, Instr.sureAddr, fieldPlace, run_sz htf, Sem.run_pure]
            simp [hz]
        · cases hf
      · cases hf
    · cases hf
  · cases hf

theorem ptrTo_some {p : Option Addr} {v : Value} (h : ptrTo p = some v) : ∃ q, p = some q ∧ v = .pointer (some q) := by
  unfold ptrTo at h
  split at h
  · cases h; exact ⟨_, rfl, rfl⟩
  · cases h

theorem SRel.live {pl : Pl} {p p' : Addr} {l c c' : Nat} (h : SRel pl p l c p' c') (hl : 0 < l) : ARel pl p p' := by
  unfold SRel at h
  split at h
  · exact h.1
  · rcases h.2 with h2 | h2
    · omega
    · exact h2
  · rcases h.2 with h2 | h2
    · omega
    · exact h2.1

theorem indexPl_run {t : TypeId} {x x' i i' : Value} {q : Addr} (hx : VRel m x x') (hi : VRel m i i') (hp : indexPl (envOf P) t x i = some q) : ∃ q' pl, (Instr.indexAt t x' i').run P w = .ok (.pointer (some q')) w ∧ ARel pl q q' ∧ m q.block = some pl := by
  simp only [indexPl, types_env] at hp
  split at hp
  · rename_i ti p len cap k j hti
    split at hp
    · rename_i elem hd
      split at hp
      · rename_i te hte
        obtain ⟨hc, h9⟩ := cnd_some hp
        cases h9
        simp only [Bool.and_eq_true, decide_eq_true_eq] at hc
        cases hi
        cases hx with
        | @slice _ p' _ _ c' pl h1 h2 =>
          have ha := h2.live (by omega)
          refine ⟨p'.add (j.toNat * te.size), pl, ?_, ha.add _, by rw [block_add]; exact h1⟩
          simp only [Instr.indexAt, asIntOf, pure_bind, Sem.run_bind, run_ul hti, hd, Result.andThen_ok]
          simp [hc.1, hc.2, run_sz hte]
      · cases hp
    · cases hp
  · rename_i ti p k j hti
    split at hp
    · rename_i len elem hd
      split at hp
      · rename_i te hte
        obtain ⟨hc, h9⟩ := cnd_some hp
        cases h9
        simp only [Bool.and_eq_true, decide_eq_true_eq] at hc
        cases hi
        cases hx with
        | @ptr _ p' pl h1 ha =>
          refine ⟨p'.add (j.toNat * te.size), pl, ?_, ha.add _, by rw [block_add]; exact h1⟩
          simp only [Instr.indexAt, asIntOf, pure_bind, Sem.run_bind, run_ul hti, hd, Result.andThen_ok, Instr.sureAddr]
          simp [hc.1, hc.2, run_sz hte]
      · cases hp
    · cases hp
  · cases hp

/-- A slice expression. -/
theorem sliceV_run (h : Rel P m H w) {t : TypeId} {x x' v : Value} {low high low' high' : Option Value} (hx : VRel m x x') (hlo : low' = low) (hhi : high' = high) (hs : sliceV (envOf P) H t x low high = some v) :
    ∃ v', (Instr.sliceAt t x' low' high' none).run P w = .ok v' w ∧ VRel m v v' := by
  subst hlo hhi
  simp only [sliceV, types_env] at hs
  split at hs
  · rename_i base len cap
    split at hs
    · rename_i ti hti
      split at hs
      · rename_i elem hd
        split at hs
        · rename_i te l hh hte hb
          have hrun : ∀ (base' : Option Addr) (len' cap' : Nat), (Instr.sliceBounds true len' cap' low' high' none).run P w = .ok (l, hh, cap') w →
              (Instr.sliceAt t (.slice base' len' cap') low' high' none).run P w = .ok (.slice (if cap' = l then base' else base'.map (·.add (l * te.size))) (hh - l) (cap' - l)) w := by
            intro base' len' cap' hbr
            simp only [Instr.sliceAt, Sem.run_bind, run_ul hti, hd, Result.andThen_ok, Instr.slice, hbr, run_sz hte, Sem.run_pure]
          split at hs
          · cases hs
            cases hx
            have hbr := bnds_run (P := P) hb cap (Nat.le_refl _) true w
            refine ⟨_, hrun none len cap hbr.1, ?_⟩
            simp only [Option.map_none, ite_self]
            exact .nilSlice _ _
          · rename_i p
            cases hx with
            | @slice _ p' _ _ c' pl h1 h2 =>
              simp only [sliceB] at hs
              split at hs
              · rename_i cs e k hbk
                have hbr' := h.blk _ _ _ hbk h1
                have hkd : pl.kind = k := hbr'.kind
                unfold SRel at h2
                rw [hkd] at h2
                split at hs
                · -- own
                  simp only at h2
                  cases hs
                  obtain ⟨ha, rfl⟩ := h2
                  have hbr := bnds_run (P := P) hb c' (Nat.le_refl _) true w
                  refine ⟨_, hrun _ _ _ hbr.1, ?_⟩
                  by_cases e1 : c' = l
                  · rw [if_pos e1, e1, Nat.beq_refl]
                    exact .slice h1 (by unfold SRel; rw [hkd]; exact ⟨ha, rfl⟩)
                  · have : c'.beq l = false := by cases hq : c'.beq l with
                      | true => exact absurd (Nat.eq_of_beq_eq_true hq) e1
                      | false => rfl
                    rw [if_neg e1, this]
                    refine .slice (by rw [cnd_false, block_add]; exact h1) ?_
                    unfold SRel
                    rw [hkd]
                    exact ⟨ha.add _, rfl⟩
                · -- ro
                  simp only at h2
                  cases hs
                  have hbr := bnds_run (P := P) hb c' h2.1 true w
                  refine ⟨_, hrun _ _ _ hbr.1, ?_⟩
                  by_cases e1 : c' = l
                  · rw [if_pos e1]
                    refine .slice (by rw [block_add]; exact h1) ?_
                    unfold SRel
                    rw [hkd]
                    exact ⟨by omega, .inl ⟨by omega, by omega⟩⟩
                  · rw [if_neg e1]
                    refine .slice (by rw [block_add]; exact h1) ?_
                    unfold SRel
                    rw [hkd]
                    refine ⟨by omega, ?_⟩
                    rcases h2.2 with h3 | h3
                    · exact .inl ⟨by omega, by omega⟩
                    · exact .inr (h3.add _)
                · -- grown
                  obtain ⟨hee, h9⟩ := cnd_some hs
                  have hee := Nat.eq_of_beq_eq_true hee
                  simp only at h2
                  cases h9
                  have hesz : pl.esz = te.size := by
                    obtain ⟨ti2, h3, h4⟩ := hbr'.esz rfl
                    rw [hee, hte] at h3; cases h3; exact h4
                  have hbr := bnds_run (P := P) hb c' h2.1 true w
                  refine ⟨_, hrun _ _ _ hbr.1, ?_⟩
                  by_cases e1 : c' = l
                  · rw [if_pos e1]
                    refine .slice (by rw [block_add]; exact h1) ?_
                    unfold SRel
                    rw [hkd]
                    exact ⟨by omega, .inl ⟨by omega, by omega⟩⟩
                  · rw [if_neg e1]
                    refine .slice (by rw [block_add]; exact h1) ?_
                    unfold SRel
                    rw [hkd]
                    refine ⟨by omega, ?_⟩
                    rcases h2.2 with h3 | h3
                    · exact .inl ⟨by omega, by omega⟩
                    · refine .inr ⟨h3.1.add _, ?_⟩
                      rw [off_add, hesz]
                      have h4 := h3.2
                      rw [hesz] at h4
                      have : l ≤ c' := by omega
                      have e2 : (c' - l) * te.size = c' * te.size - l * te.size := Nat.sub_mul _ _ _
                      have e3 : l * te.size ≤ c' * te.size := Nat.mul_le_mul_right _ this
                      omega
              · cases hs
        · cases hs
      · cases hs
    · cases hs
  · rename_i p
    split at hs
    · rename_i ti hti
      split at hs
      · rename_i n elem hd
        split at hs
        · rename_i te l hh hte hb
          cases hx with
          | @ptr _ p' pl h1 ha =>
            simp only [sliceA] at hs
            split at hs
            · rename_i cs e k hbk
              have hkd : pl.kind = k := (h.blk _ _ _ hbk h1).kind
              have hbr := bnds_run (P := P) hb n (Nat.le_refl _) false w
              have hrun : (Instr.sliceAt t (.pointer (some p')) low' high' none).run P w = .ok (.slice (some (if n = l then p' else p'.add (l * te.size))) (hh - l) (n - l)) w := by
                simp only [Instr.sliceAt, Sem.run_bind, run_ul hti, hd, Result.andThen_ok, Instr.sureAddr, hbr.1, run_sz hte, Sem.run_pure]
              have hA : ARel pl (cnd (n.beq l) p (p.add (l * te.size))) (if n = l then p' else p'.add (l * te.size)) ∧ m (cnd (n.beq l) p (p.add (l * te.size))).block = some pl := by
                by_cases e1 : n = l
                · rw [if_pos e1, e1, Nat.beq_refl]; exact ⟨ha, h1⟩
                · have : n.beq l = false := by cases hq : n.beq l with
                    | true => exact absurd (Nat.eq_of_beq_eq_true hq) e1
                    | false => rfl
                  rw [if_neg e1, this]; exact ⟨ha.add _, by rw [cnd_false, block_add]; exact h1⟩
              split at hs
              · cases hs
                exact ⟨_, hrun, .slice hA.2 (by unfold SRel; rw [hkd]; exact ⟨hA.1, rfl⟩)⟩
              · cases hs
                exact ⟨_, hrun, .slice hA.2 (by unfold SRel; rw [hkd]; exact ⟨Nat.le_refl _, .inr hA.1⟩)⟩
              · cases hs
            · cases hs
        · cases hs
      · cases hs
    · cases hs
  · rename_i s
    split at hs
    · rename_i ti hti
      split at hs
      · rename_i l hh hd hb
        cases hs
        cases hx
        have hbr := bnds_run (P := P) hb s.size (Nat.le_refl _) false w
        refine ⟨.string (s.extract l hh), ?_, .string _⟩
        simp only [Instr.sliceAt, Sem.run_bind, run_ul hti, hd, Result.andThen_ok, Instr.slice]
        simp [hbr.1]
      · cases hs
    · cases hs
  · cases hs

/-- '==' and '!=' at nil. -/
theorem eqGuard_run {op : BinOp} {t : TypeId} {x y : Operand} {u v : Value} (h : ∀ c d, u = .agg c → v = .agg d → False) (h2 : u = .nilIface → v = .nilIface → False) : (eqGuard op t x y u v).run P w = .ok () w := by
  unfold eqGuard
  cases u <;> first
    | (cases v <;> first | (exact (h _ _ rfl rfl).elim) | (exact (h2 rfl rfl).elim) | (cases op <;> rfl))

theorem isSlice_desc {t : TypeId} (h : isSlice (envOf P) t = true) : ∃ ti e, tiOf P t = some ti ∧ ti.desc = .slice e := by
  simp only [isSlice, types_env] at h
  split at h
  · rename_i ti hti
    split at h
    · rename_i e hd; exact ⟨ti, e, hti, hd⟩
    · cases h
  · cases h
theorem isPtr_desc {t : TypeId} (h : isPtr (envOf P) t = true) : ∃ ti e, tiOf P t = some ti ∧ ti.desc = .pointer e := by
  simp only [isPtr, types_env] at h
  split at h
  · rename_i ti hti
    split at h
    · rename_i e hd; exact ⟨ti, e, hti, hd⟩
    · cases h
  · cases h

theorem eqNil_slice {x y : Operand} {t e : TypeId} {ti : TI} (hti : tiOf P t = some ti) (hd : ti.desc = .slice e) {op : BinOp} {u v : Value} {b : Bool} {r : Value} (hn : nilEq op b = some r)
    (he : ∀ d, (Op.equalIn (d + 1) t u v).run P w = .ok b w) (hu : ∃ q l c, u = .slice q l c) (hv : ∃ q l c, v = .slice q l c) : (do eqGuard op t x y u v; binOp op t u v : Sem Value).run P w = .ok r w := by
  obtain ⟨q, l, c, rfl⟩ := hu
  obtain ⟨q', l', c', rfl⟩ := hv
  have he : (Op.equal t (.slice q l c) (.slice q' l' c')).run P w = .ok b w := he 9999
  simp only [Sem.run_bind, eqGuard_run (P := P) (w := w) (u := .slice q l c) (v := .slice q' l' c') (fun _ _ h _ => by cases h) (fun h _ => by cases h), Result.andThen_ok]
  cases op <;> simp [nilEq] at hn <;> subst hn <;> simp [binOp, he]

theorem eqNil_ptr {x y : Operand} {t e : TypeId} {ti : TI} (hti : tiOf P t = some ti) (hd : ti.desc = .pointer e) {op : BinOp} {u v : Value} {b : Bool} {r : Value} (hn : nilEq op b = some r)
    (he : ∀ d, (Op.equalIn (d + 1) t u v).run P w = .ok b w) (hu : ∃ q, u = .pointer q) (hv : ∃ q, v = .pointer q) : (do eqGuard op t x y u v; binOp op t u v : Sem Value).run P w = .ok r w := by
  obtain ⟨q, rfl⟩ := hu
  obtain ⟨q', rfl⟩ := hv
  have he : (Op.equal t (.pointer q) (.pointer q')).run P w = .ok b w := he 9999
  simp only [Sem.run_bind, eqGuard_run (P := P) (w := w) (u := .pointer q) (v := .pointer q') (fun _ _ h _ => by cases h) (fun h _ => by cases h), Result.andThen_ok]
  cases op <;> simp [nilEq] at hn <;> subst hn <;> simp [binOp, he]

theorem eqV_run {op : BinOp} {t : TypeId} {x y : Operand} {u u' v v' r : Value} (hu : VRel m u u') (hv : VRel m v v') (hr : eqV (envOf P) op t x y u v = some r) : (do eqGuard op t x y u' v'; binOp op t u' v' : Sem Value).run P w = .ok r w ∧ VRel m r r := by
  have hplain : ∀ {u u' v v' : Value}, VRel m u u' → VRel m v v' → plainEq (envOf P) op t x y u v = some r → (do eqGuard op t x y u' v'; binOp op t u' v' : Sem Value).run P w = .ok r w ∧ VRel m r r := by
    intro u u' v v' hu hv hr
    obtain ⟨hc, he⟩ := cnd_some hr
    simp only [Bool.and_eq_true] at hc
    rw [plain_same hu hc.1, plain_same hv hc.2]
    obtain ⟨h1, h2⟩ := plainR_some he
    exact ⟨evSem_run h1 w, plain_rel m h2⟩
  have hnil : eqNil (envOf P) op t x y u v = some r → (do eqGuard op t x y u' v'; binOp op t u' v' : Sem Value).run P w = .ok r w ∧ VRel m r r := by
    intro hr
    have hb : ∀ {b : Bool}, nilEq op b = some r → VRel m r r := by
      intro b hb
      unfold nilEq at hb
      split at hb <;> cases hb <;> exact .bool _
    unfold eqNil at hr
    split at hr
    · rename_i l c q l2 c2
      obtain ⟨h1, h2⟩ := cnd_some hr
      obtain ⟨ti, e, hti, hd⟩ := isSlice_desc h1
      cases hu
      refine ⟨?_, hb h2⟩
      cases hv with
      | nilSlice => exact eqNil_slice hti hd h2 (fun d => by simp [Op.equalIn, run_ul hti, hd]) ⟨_, _, _, rfl⟩ ⟨_, _, _, rfl⟩
      | slice h3 h4 => exact eqNil_slice hti hd h2 (fun d => by simp [Op.equalIn, run_ul hti, hd]) ⟨_, _, _, rfl⟩ ⟨_, _, _, rfl⟩
    · rename_i q l c l2 c2
      obtain ⟨h1, h2⟩ := cnd_some hr
      obtain ⟨ti, e, hti, hd⟩ := isSlice_desc h1
      cases hv
      refine ⟨?_, hb h2⟩
      cases hu with
      | slice h3 h4 => exact eqNil_slice hti hd h2 (fun d => by simp [Op.equalIn, run_ul hti, hd]) ⟨_, _, _, rfl⟩ ⟨_, _, _, rfl⟩
    · rename_i q
      obtain ⟨h1, h2⟩ := cnd_some hr
      obtain ⟨ti, e, hti, hd⟩ := isPtr_desc h1
      cases hu
      refine ⟨?_, hb h2⟩
      cases hv with
      | nilPtr => exact eqNil_ptr hti hd h2 (fun d => by simp [Op.equalIn, run_ul hti, hd]) ⟨_, rfl⟩ ⟨_, rfl⟩
      | ptr h3 h4 => exact eqNil_ptr hti hd h2 (fun d => by simp [Op.equalIn, run_ul hti, hd]) ⟨_, rfl⟩ ⟨_, rfl⟩
    · rename_i q
      obtain ⟨h1, h2⟩ := cnd_some hr
      obtain ⟨ti, e, hti, hd⟩ := isPtr_desc h1
      cases hv
      refine ⟨?_, hb h2⟩
      cases hu with
      | ptr h3 h4 => exact eqNil_ptr hti hd h2 (fun d => by simp [Op.equalIn, run_ul hti, hd]) ⟨_, rfl⟩ ⟨_, rfl⟩
    · exact hplain hu hv hr
  unfold eqV at hr
  split at hr
  · split at hr
    · cases hu
      cases hv
      refine ⟨?_, scal_rel m (intOp_scal hr)⟩
      rw [Sem.run_bind, eqGuard_run (fun _ _ h _ => by cases h) (fun h _ => by cases h)]
      exact intOp_run hr w
    · cases hr
  · exact hnil hr
end Go.Ab

/- The light operations, put together. -/
namespace Go.Ab
variable {P : Program} [HasOrc P] {m : Mp} {H : Hp} {w : World} {nt : Nat} {fr : Fr} {a : Act}

theorem isU8_desc {t : TypeId} (h : isU8 (envOf P) t = true) : ∃ ti, tiOf P t = some ti ∧ ti.desc = .int .u8 := by
  simp only [isU8, types_env] at h
  split at h
  · rename_i ti hti
    split at h
    · rename_i hd; exact ⟨ti, hti, hd⟩
    · cases h
  · cases h

theorem bytesOf_same : ∀ {l l' : List Value} {bs : List UInt8}, VRels m l l' → bytesOf l = some bs → l' = l
  | [], _, _, .nil, _ => rfl
  | v :: vs, _, bs, .cons h hs, hb => by
    cases v with
    | int k n =>
      cases k with
      | u8 =>
        simp only [bytesOf] at hb
        split at hb
        · rename_i l hl
          cases h
          rw [bytesOf_same hs hl]
        · cases hb
      | _ => simp [bytesOf] at hb
    | _ => simp [bytesOf] at hb

theorem bytesLoop (f : Value → ByteArray → Sem (ForInStep ByteArray)) (hf : ∀ n s, f (.int .u8 n) s = pure (.yield (s.push (UInt8.ofNat n.toNat)))) : ∀ (l : List Value) (bs : List UInt8) (s : ByteArray), bytesOf l = some bs →
    (forIn l s f : Sem ByteArray).run P w = .ok ⟨s.data ++ bs.toArray⟩ w
  | [], bs, s, h => by simp only [bytesOf] at h; cases h; simp
  | v :: vs, bs, s, h => by
    cases v with
    | int k n =>
      cases k with
      | u8 =>
        simp only [bytesOf] at h
        split at h
        · rename_i l hl
          cases h
          have := bytesLoop f hf vs l (s.push (UInt8.ofNat n.toNat)) hl
          simp only [List.forIn_cons, hf, pure_bind]
          rw [this]
          congr 1
          simp [ByteArray.push]
        · cases h
      | _ => simp [bytesOf] at h
    | _ => simp [bytesOf] at h

theorem convI_run {s d : TypeId} {k : IntKind} {n : Int} {v : Value} (h : convI (envOf P) s d n = some v) : (Go.convert s d (.int k n)).run P w = .ok v w ∧ VRel m v v := by
  simp only [convI, types_env] at h
  split at h
  · rename_i ts ti hts hti
    split at h
    · rename_i k' hd
      cases h
      refine ⟨?_, .int _ _⟩
      simp only [Go.convert, Sem.run_bind, run_ul hts, Result.andThen_ok, run_ul hti, hd, Conv.intToInt, Sem.run_pure, wr_eq]
    · cases h
  · cases h

theorem bytesStr_run (h : Rel P m H w) {q : Option Addr} {len cap : Nat} {x' v : Value} (hx : VRel m (.slice q len cap) x') (hb : bytesStr H q len = some v) : (Conv.bytesToString x').run P w = .ok v w ∧ VRel m v v := by
  unfold bytesStr at hb
  split at hb
  · cases hb
    cases hx
    exact ⟨rfl, .string _⟩
  · rename_i p
    split at hb
    · rename_i l hl
      split at hb
      · rename_i bs hbs
        cases hb
        refine ⟨?_, .string _⟩
        cases hx with
        | @slice _ p' _ _ c' pl h1 h2 =>
          have hload : ∃ l', (loadCells p' len).run P w = .ok l'.toArray w ∧ l' = l := by
            cases len with
            | zero => simp only [readC] at hl; cases hl; exact ⟨[], by simp [loadCells_zero], rfl⟩
            | succ k =>
              obtain ⟨l', h3, h4, _⟩ := readC_sound h h1 (h2.live (by omega)) hl
              exact ⟨l', h3, bytesOf_same h4 hbs⟩
          obtain ⟨l', h3, rfl⟩ := hload
          simp only [Conv.bytesToString, Sem.run_bind, h3, Result.andThen_ok]
          rw [List.forIn_toArray, bytesLoop (P := P) (w := w) _ (fun n s => rfl) l' bs ByteArray.empty hbs]
          simp [ByteArray.empty, ByteArray.emptyWithCapacity]
          rfl
      · cases hb
    · cases hb

theorem convS_run (h : Rel P m H w) {s d : TypeId} {q : Option Addr} {len cap : Nat} {x' v : Value} (hx : VRel m (.slice q len cap) x') (hc : convS (envOf P) H s d q len = some v) : (Go.convert s d x').run P w = .ok v w ∧ VRel m v v := by
  simp only [convS, types_env] at hc
  split at hc
  · rename_i ts td hts htd
    split at hc
    · rename_i e hds hdd
      obtain ⟨hu, hb⟩ := cnd_some hc
      obtain ⟨te, hte, hde⟩ := isU8_desc hu
      have hb := bytesStr_run h hx hb
      refine ⟨?_, hb.2⟩
      have hb := hb.1
      cases hx <;> simp only [Go.convert, Sem.run_bind, run_ul hts, run_ul htd, hds, hdd, Result.andThen_ok, run_ul hte, hde, hb]
    · cases hc
  · cases hc

theorem lenD_run {t : TypeId} {ti : TI} (hti : tiOf P t = some ti) {x x' v : Value} (hx : VRel m x x') (hl : lenD ti.desc x = some v) (ty : TypeId) (ts : Array TypeId) (hts : ts[0]? = some t) :
    (Builtin.len_ ts ty #[x']).run P w = .ok v w ∧ VRel m v v := by
  unfold lenD at hl
  split at hl
  · rename_i e q n c hd
    cases hl
    refine ⟨?_, .int _ _⟩
    cases hx <;> simp [Builtin.len_, hts, run_ul hti, hd]
  · rename_i s hd
    cases hl
    refine ⟨?_, .int _ _⟩
    cases hx; simp [Builtin.len_, hts, run_ul hti, hd]
  · rename_i n e hd
    cases hl
    refine ⟨?_, .int _ _⟩
    simp [Builtin.len_, hts, run_ul hti, hd]
  · cases hl

theorem lBuiltin_run (h : Rel P m H w) {b : Builtin} {ts : Array TypeId} {vs vs' : List Value} {v : Value} (hv : VRels m vs vs') (hb : lBuiltin (envOf P) H b ts (some vs) = some v) (ty : TypeId) (cs : Array Bool) :
    (Go.builtin b ts ty cs vs'.toArray).run P w = .ok (.value v) w ∧ VRel m v v := by
  cases b <;> simp only [lBuiltin] at hb <;> try (cases hb; done)
  case len =>
    split at hb
    · rename_i x hx
      cases hx
      cases hv with
      | cons h1 h2 =>
        cases h2
        unfold lLen at hb
        split at hb
        · rename_i t ht
          simp only [types_env] at hb
          split at hb
          · rename_i ti hti
            have := lenD_run (w := w) hti h1 hb ty ts ht
            refine ⟨?_, this.2⟩
            simp [Go.builtin, this.1]
          · cases hb
        · cases hb
    · cases hb
  case cap =>
    split at hb
    · rename_i x hx
      cases hx
      cases hv with
      | cons h1 h2 =>
        cases h2
        unfold lCap at hb
        split at hb
        · rename_i t q l c ht
          obtain ⟨hs, hb⟩ := cnd_some hb
          obtain ⟨ti, e, hti, hd⟩ := isSlice_desc hs
          split at hb
          · cases hb
            refine ⟨?_, .int _ _⟩
            cases h1; simp [Go.builtin, Builtin.cap_, ht, run_ul hti, hd]
          · rename_i p
            split at hb
            · rename_i cs' e' hbk
              cases hb
              refine ⟨?_, .int _ _⟩
              cases h1 with
              | @slice _ p' _ _ c' pl h3 h4 =>
                have hkd : pl.kind = .own := (h.blk _ _ _ hbk h3).kind
                unfold SRel at h4
                rw [hkd] at h4
                rw [h4.2]
                simp [Go.builtin, Builtin.cap_, ht, run_ul hti, hd]
            · cases hb
        · cases hb
    · cases hb
  case min =>
    obtain ⟨h1, h2⟩ := cnd_some hb
    obtain ⟨h2, h3⟩ := plainR_some h2
    rw [scals_same hv h1]
    refine ⟨?_, plain_rel m h3⟩
    have := evSem_run h2 w
    simp only [Go.builtin, Sem.run_bind]
    rw [show (Builtin.min_ ts ty vs.toArray) = Builtin.min_ ts 0 vs.toArray from rfl, show (envOf P).P = P from rfl] at *
    simp [this]
  case max =>
    obtain ⟨h1, h2⟩ := cnd_some hb
    obtain ⟨h2, h3⟩ := plainR_some h2
    rw [scals_same hv h1]
    refine ⟨?_, plain_rel m h3⟩
    have := evSem_run h2 w
    simp only [Go.builtin, Sem.run_bind]
    rw [show (Builtin.max_ ts ty vs.toArray) = Builtin.max_ ts 0 vs.toArray from rfl, show (envOf P).P = P from rfl] at *
    simp [this]

theorem cons_array {u u' : List Value} (h : VRels m u u') : VRels m u.toArray.toList u'.toArray.toList := by simpa using h

/-- What a light operation comes to. -/
theorem light_sound (h : Rel P m H w) (hf : FrRel m nt fr a.tmps) {o : Oper} {v : Value} (hl : light o.op (envOf P) H fr = some v) : ∃ v', (execOp a.eval o).run P w = .ok (.value v') w ∧ VRel m v v' := by
  obtain ⟨dst, op, ty, pos, after, guard⟩ := o
  have S := fun {x : Operand} {v : Value} (ho : opv (envOf P) fr x = some v) => opv_sound h hf ho
  have V : ∀ {s : Sem Value} {v v' : Value}, s.run P w = .ok v' w → VRel m v v' → ∃ v', (do pure (Next.value (← s)) : Sem Next).run P w = .ok (.value v') w ∧ VRel m v v' := fun h1 h2 => ⟨_, by simp [h1], h2⟩
  cases op <;> simp only [light] at hl <;> try (cases hl; done)
  case move x => exact ⟨_, rfl, S hl⟩
  case assign x => exact ⟨_, rfl, S hl⟩
  case pick c x y =>
    unfold lPick at hl
    split at hl
    · rename_i t hc
      split at hl
      · rename_i u v hx hy
        cases hl
        have hc := S hc
        have hx := S hx
        have hy := S hy
        refine ⟨if t then a.eval x else a.eval y, ?_, ?_⟩
        · simp only [execOp]
          generalize a.eval c = c' at hc
          cases hc
          cases t <;> simp [asBool]
        · cases t
          · exact hy
          · exact hx
      · cases hl
    · cases hl
  case build t parts =>
    unfold lBuild at hl
    split at hl
    · rename_i ps hps
      have hp := opvp_sound h hf hps
      obtain ⟨v', h1, h2⟩ := build_sound (w := w) hp hl
      refine V (s := Instr.build t (parts.map fun (i, x) => (i, a.eval x))) ?_ h2
      have e : (parts.map fun (i, x) => (i, a.eval x)) = (parts.toList.map fun (i, x) => (i, a.eval x)).toArray := by
        apply Array.ext'; simp
      rw [e]; exact h1
    · cases hl
  case load t x =>
    unfold lLoad at hl
    split at hl
    · rename_i p hx
      have hx := S hx
      generalize hq : a.eval x = q at hx
      cases hx with
      | ptr h1 ha =>
        obtain ⟨v', h3, h4⟩ := loadV_sound h h1 ha hl
        refine V (s := Instr.loadAt t (a.eval x)) ?_ h4
        rw [hq]
        simp only [Instr.loadAt, Sem.run_bind, Instr.sureAddr, Sem.run_pure, Result.andThen_ok, h3]
    · cases hl
  case nilCheck x =>
    unfold lNil at hl
    split at hl
    · rename_i p hx
      cases hl
      have hx := S hx
      generalize hq : a.eval x = q at hx
      cases hx with
      | ptr h1 ha =>
        refine ⟨_, ?_, .ptr h1 ha⟩
        simp only [execOp, hq, Sem.run_pure]
    · cases hl
  case binOp op t x y yt =>
    unfold lBin at hl
    split at hl
    · rename_i u v hx hy
      obtain ⟨h1, h2⟩ := eqV_run (w := w) (S hx) (S hy) hl
      exact V (s := do eqGuard op t x y (a.eval x) (a.eval y); binOp op t (a.eval x) (a.eval y)) h1 h2
    · cases hl
  case unOp op t x =>
    unfold lUn at hl
    split at hl
    · rename_i u hx
      obtain ⟨h1, h2⟩ := cnd_some hl
      obtain ⟨h2, h3⟩ := plainR_some h2
      refine V (s := Op.unary op (a.eval x)) ?_ (plain_rel m h3)
      rw [scal_same (S hx) h1]
      exact evSem_run h2 w
    · cases hl
  case convert s d x =>
    unfold lConv at hl
    split at hl
    · rename_i k n hx
      have hx := S hx
      generalize hq : a.eval x = q at hx
      cases hx
      obtain ⟨h1, h2⟩ := convI_run (P := P) (m := m) (w := w) (k := k) hl
      refine V (s := Go.convert s d (a.eval x)) ?_ h2
      rw [hq]; exact h1
    · rename_i q len cap hx
      obtain ⟨h1, h2⟩ := convS_run h (S hx) hl
      exact V (s := Go.convert s d (a.eval x)) h1 h2
    · cases hl
  case makeFunc fn first captured =>
    unfold lFunc at hl
    split at hl
    · rename_i f
      unfold lMk at hl
      split at hl
      · rename_i u v hu hv
        cases hl
        refine V (s := Instr.makeFunc (.func f) (first.map a.eval) (captured.map a.eval)) rfl (.func f ?_ ?_)
        · simpa using opvs_sound h hf hu
        · simpa using opvs_sound h hf hv
      · cases hl
    · cases hl
  case slice t x lo hi mx =>
    unfold lSlice3 at hl
    split at hl
    · unfold lSlice at hl
      split at hl
      · rename_i u l hh hx hlo hhi
        obtain ⟨hi1, hl⟩ := cnd_some hl
        simp only [Bool.and_eq_true] at hi1
        have key : ∀ {o : Option Operand} {q : Option Value}, oopv (envOf P) fr o = some q → intO q = true → o.map a.eval = q := by
          intro o q ho hi
          unfold oopv at ho
          split at ho
          · cases ho; rfl
          · rename_i o'
            simp only [Option.map_eq_some_iff] at ho
            obtain ⟨z, hz, rfl⟩ := ho
            cases z with
            | int k i =>
              have := S hz
              generalize hq : a.eval o' = q at this
              cases this
              simp [hq]
            | _ => cases hi
        have e1 := key hlo hi1.1
        have e2 := key hhi hi1.2
        obtain ⟨v', h1, h2⟩ := sliceV_run h (S hx) e1 e2 hl
        exact V (s := Instr.sliceAt t (a.eval x) (lo.map a.eval) (hi.map a.eval) none) h1 h2
      · cases hl
    · cases hl
  case fieldAddr s x f =>
    unfold lField at hl
    split at hl
    · rename_i p hx
      obtain ⟨q, hq, rfl⟩ := ptrTo_some hl
      have hx := S hx
      generalize hy : a.eval x = y at hx
      cases hx with
      | ptr h1 ha =>
        obtain ⟨q', h3, h4, h5⟩ := fieldPl_run (w := w) ha hq
        refine V (s := Instr.fieldAt s (a.eval x) f) (v' := .pointer (some q')) ?_ (.ptr (by rw [h5]; exact h1) h4)
        rw [hy]; exact h3
    · cases hl
  case indexAddr t x i =>
    unfold lIndexA at hl
    split at hl
    · rename_i u j hx hi
      obtain ⟨q, hq, rfl⟩ := ptrTo_some hl
      obtain ⟨q', pl, h3, h4, h5⟩ := indexPl_run (w := w) (S hx) (S hi) hq
      exact V (s := Instr.indexAt t (a.eval x) (a.eval i)) h3 (.ptr h5 h4)
    · cases hl
  case index t x i =>
    unfold lIndex at hl
    split at hl
    · rename_i u k j hx hi
      obtain ⟨h1, h2⟩ := cnd_some hl
      obtain ⟨h2, h3⟩ := plainR_some h2
      have hi := S hi
      generalize hy : a.eval i = y at hi
      cases hi
      refine V (s := Instr.index t (a.eval x) (a.eval i)) ?_ (plain_rel m h3)
      rw [plain_same (S hx) h1, hy]
      exact evSem_run h2 w
    · cases hl
  case extract t i =>
    unfold lExtract at hl
    split at hl
    · rename_i vs hx
      have hx := S hx
      generalize hy : a.eval t = y at hx
      cases hx with
      | tuple hc =>
        obtain ⟨v', h1, h2⟩ := hc.get (by simpa using hl)
        refine V (s := Instr.extract (a.eval t) i) (v' := v') ?_ h2
        rw [hy]
        simp only [Instr.extract]
        rw [show (_ : Array Value)[i]? = some v' by simpa using h1]
        rfl
    · cases hl
  case call c =>
    unfold lCall at hl
    split at hl
    · rename_i b hb
      cases hvs : opvs (envOf P) fr c.args.toList with
      | none => rw [hvs] at hl; cases b <;> simp [lBuiltin] at hl
      | some vs =>
        rw [hvs] at hl
        have h1 := lBuiltin_run h (opvs_sound h hf hvs) hl ty (c.args.map fun | .const _ => true | _ => false)
        refine ⟨v, ?_, h1.2⟩
        have e : (c.args.toList.map a.eval).toArray = c.args.map a.eval := by apply Array.ext'; simp
        rw [e] at h1
        simp only [execOp, resolve, hb, Sem.run_bind, Sem.run_pure, Result.andThen_ok, invoke]
        exact h1.1
    · cases hl
end Go.Ab

/- The heavy operations but append and calls. -/
namespace Go.Ab
variable {P : Program} [HasOrc P] {m : Mp} {H : Hp} {w : World} {nt : Nat} {fr : Fr} {a : Act} {n : Nat}

/-- What a heavy operation comes to. -/
def Comes1 (P : Program) (m : Mp) (H : Hp) (n : Nat) (w : World) (s : Sem Value) (v : Value) (H' : Hp) (n' : Nat) : Prop :=
  ∃ v' m' w', s.run P w = .ok v' w' ∧ VRel m' v v' ∧ Rel P m' H' w' ∧ Evol m H n w m' H' n' w'

/-- A new block of cells, with more behind them. -/
theorem newCells (h : Rel P m H w) (hn : m n = none) {c c' : List Value} (hc : VRels m c c') (e : TypeId) (k : Kind) (hk : k ≠ .ro) (arr : Array Value) (fz : Nat × Nat) (esz : Nat)
    (harr : ∀ (i : Nat) (v' : Value), c'[i]? = some v' → arr[i]? = some v') (hfz : fz.1 = fz.2 ∨ arr.size ≤ fz.1) (hesz : k = .grown → ∃ ti, tiOf P e = some ti ∧ esz = ti.size) :
    Rel P (upd m n ⟨w.heap.size, 0, arr.size, esz, k⟩) (H.put n (.cells c e k)) (w.alloc (.cells arr e fz)) ∧ Evol m H n w (upd m n ⟨w.heap.size, 0, arr.size, esz, k⟩) (H.put n (.cells c e k)) (n + 1) (w.alloc (.cells arr e fz)) := by
  refine h.new hn (Nat.le_refl _) (by simp) (fun B hB => by rw [show (w.alloc (.cells arr e fz)).heap = w.heap.push (.cells arr e fz) from rfl, Array.getElem?_push_lt hB]; exact (Array.getElem?_eq_getElem hB).symm) ?_ rfl rfl rfl rfl
  refine ⟨rfl, ⟨arr, fz, by rw [show (w.alloc (.cells arr e fz)).heap = w.heap.push (.cells arr e fz) from rfl]; exact Array.getElem?_push_size, rfl, fun _ => hfz, fun i v hi => ?_⟩, hesz⟩
  obtain ⟨v', h1, h2⟩ := hc.get hi
  exact ⟨v', by simpa using harr i v' h1, h2.mono (le_upd _ hn)⟩

theorem newPtr (m : Mp) (n B N esz : Nat) (k : Kind) : VRel (upd m n ⟨B, 0, N, esz, k⟩) (.pointer (some ⟨n, 0, none⟩)) (.pointer (some ⟨B, 0, none⟩)) := .ptr (upd_same _ _ _) ⟨rfl, by simp⟩

theorem newSlice (m : Mp) (n B N esz l c : Nat) : VRel (upd m n ⟨B, 0, N, esz, .own⟩) (.slice (some ⟨n, 0, none⟩) l c) (.slice (some ⟨B, 0, none⟩) l c) :=
  .slice (upd_same _ _ _) ⟨⟨rfl, by simp⟩, rfl⟩

theorem newSliceG (m : Mp) (n B N esz l c c' : Nat) (hc : c ≤ c') (hN : c' * esz ≤ N) : VRel (upd m n ⟨B, 0, N, esz, .grown⟩) (.slice (some ⟨n, 0, none⟩) l c) (.slice (some ⟨B, 0, none⟩) l c') :=
  .slice (upd_same _ _ _) ⟨hc, .inr ⟨⟨rfl, by simp⟩, by simpa using hN⟩⟩

theorem newB_some {H H' : Hp} {n n' : Nat} {b : Blk} {v v' : Value} (h : newB H n b v = some (v', H', n')) : v' = v ∧ H' = H.put n b ∧ n' = n + 1 := by
  unfold newB at h; cases h; exact ⟨rfl, rfl, rfl⟩

theorem hAlloc_sound (h : Rel P m H w) {e : TypeId} {v : Value} {H' : Hp} {n' : Nat} (hr : hAlloc (envOf P) H n e = some (v, H', n')) (hf : ∀ b, n ≤ b → b < n' → m b = none) :
    Comes1 P m H n w (Instr.alloc e true (.tuple #[])) v H' n' := by
  simp only [hAlloc, types_env] at hr
  split at hr
  · rename_i te hte
    obtain ⟨rfl, rfl, rfl⟩ := newB_some hr
    obtain ⟨z, hz, hz'⟩ := run_ze hte w
    have hn := hf n (Nat.le_refl _) (Nat.lt_succ_self _)
    have := newCells h hn (flat0s_rel m (ti_flat hte)) e .own (by simp) z.cells (0, 0) 0 (fun i v' hi => by rw [← hz'] at hi; simpa using hi) (.inl rfl) (fun h => by cases h)
    exact ⟨_, _, _, by simp [Instr.alloc, hz, newVar, newRow], newPtr _ _ _ _ _ _, this.1, this.2⟩
  · cases hr

theorem hBox_sound (h : Rel P m H w) {e : TypeId} {x x' v : Value} {H' : Hp} {n' : Nat} (hx : VRel m x x') (hr : hBox H n e (some x) = some (v, H', n')) (hf : ∀ b, n ≤ b → b < n' → m b = none) :
    Comes1 P m H n w (Instr.box e x') v H' n' := by
  simp only [hBox] at hr
  obtain ⟨rfl, rfl, rfl⟩ := newB_some hr
  have hn := hf n (Nat.le_refl _) (Nat.lt_succ_self _)
  have := newCells h hn (cells_rel hx) e .own (by simp) x'.cells (0, 0) 0 (fun i v' hi => by simpa using hi) (.inl rfl) (fun h => by cases h)
  exact ⟨_, _, _, by simp [Instr.box, newVar, newRow], newPtr _ _ _ _ _ _, this.1, this.2⟩

theorem zeros_eq (z : Array Value) (k : Nat) : ((Array.range k).map (fun i => z[i % z.size]!)).toList = zeros z.toList k := by
  simp only [zeros, Array.toList_map, Array.toList_range, Array.length_toList]
  apply List.map_congr_left
  intro i _
  simp [Array.getElem!_eq_getD, Array.getD_eq_getD_getElem?, List.getD]

theorem zeros_flat {z : List Value} (h : z.all flat0 = true) (k : Nat) (hz : k = 0 ∨ 0 < z.length) : (zeros z k).all flat0 = true := by
  rw [List.all_eq_true]
  intro v hv
  simp only [zeros, List.mem_map, List.mem_range] at hv
  obtain ⟨i, hi, rfl⟩ := hv
  have hl : 0 < z.length := by omega
  have hlt := Nat.mod_lt i hl
  simp only [List.getD, List.getElem?_eq_getElem hlt, Option.getD_some]
  exact List.all_eq_true.1 h _ (List.getElem_mem _)

theorem elemT_some {t e : TypeId} {te : TI} (h : elemT (envOf P) t = some (e, te)) : ∃ ti, tiOf P t = some ti ∧ ti.desc = .slice e ∧ tiOf P e = some te := by
  simp only [elemT, types_env] at h
  split at h
  · rename_i ti hti
    split at h
    · rename_i e' hd
      split at h
      · rename_i te' hte
        cases h
        exact ⟨ti, hti, hd, hte⟩
      · cases h
    · cases h
  · cases h

/-- Noughts, as the evaluator and the model lay them. -/
theorem zeros_rel {e : TypeId} {te : TI} (hte : tiOf P e = some te) (k : Nat) (w : World) : ∃ z : Array Value, z.toList = cnd (k.beq 0) [] te.zero ∧ (k = 0 → z = #[]) ∧ (k ≠ 0 → ∃ v, (zeroValue e).run P w = .ok v w ∧ v.cells = z) := by
  obtain ⟨z, hz, hz'⟩ := run_ze hte w
  by_cases h0 : k = 0
  · subst h0; exact ⟨#[], rfl, fun _ => rfl, fun h => absurd rfl h⟩
  · have : k.beq 0 = false := by cases hq : k.beq 0 with
      | true => exact absurd (Nat.eq_of_beq_eq_true hq) h0
      | false => rfl
    exact ⟨z.cells, by rw [this, cnd_false, hz'], fun h => absurd h h0, fun _ => ⟨z, hz, rfl⟩⟩

theorem zeros_vrel (m : Mp) {e : TypeId} {te : TI} (hte : tiOf P e = some te) (k : Nat) (hl : te.zero.length = te.size ∨ True) : VRels m (zeros (cnd (k.beq 0) [] te.zero) k) (zeros (cnd (k.beq 0) [] te.zero) k) := by
  by_cases h0 : k = 0
  · subst h0; exact .nil
  · have : k.beq 0 = false := by cases hq : k.beq 0 with
      | true => exact absurd (Nat.eq_of_beq_eq_true hq) h0
      | false => rfl
    rw [this, cnd_false]
    by_cases hz : 0 < te.zero.length
    · exact flat0s_rel m (zeros_flat (ti_flat hte) k (.inr hz))
    · have : te.zero = [] := by cases hq : te.zero with
        | nil => rfl
        | cons => rw [hq] at hz; simp at hz
      rw [this]
      refine VRels.of_get rfl fun i v hi => ⟨v, hi, ?_⟩
      simp only [zeros, List.getElem?_map] at hi
      simp only [Option.map_eq_some_iff] at hi
      obtain ⟨j, _, rfl⟩ := hi
      exact .bool _

theorem hBuildSlice_sound (h : Rel P m H w) {t : TypeId} {len : Nat} {ps ps' : List (Nat × Value)} {v : Value} {H' : Hp} {n' : Nat} (hp : PRel m ps ps') (hr : hBuildSlice (envOf P) H n t len (some ps) = some (v, H', n')) (hf : ∀ b, n ≤ b → b < n' → m b = none) :
    Comes1 P m H n w (Instr.buildSlice t len ps'.toArray) v H' n' := by
  simp only [hBuildSlice] at hr
  split at hr
  · rename_i e te ps2 he hps
    cases hps
    obtain ⟨ti, hti, hd, hte⟩ := elemT_some he
    obtain ⟨hle, hr⟩ := cnd_some hr
    have hle := Nat.le_of_ble_eq_true hle
    split at hr
    · rename_i cs hcs
      obtain ⟨rfl, rfl, rfl⟩ := newB_some hr
      have hn := hf n (Nat.le_refl _) (Nat.lt_succ_self _)
      obtain ⟨z, hz', hz0, hz1⟩ := zeros_rel hte (len * te.size) w
      obtain ⟨r', hr', hrel⟩ := fill_rel (place' := fun i => some (i * te.size, te.size)) (fun i => rfl) hp (cs' := (Array.range (len * te.size)).map (fun i => z[i % z.size]!))
        (by rw [zeros_eq, hz']; simpa using zeros_vrel m hte (len * te.size) (.inr trivial)) hcs
      have := newCells h hn hrel e .own (by simp) r' (0, 0) 0 (fun i v' hi => by simpa using hi) (.inl rfl) (fun h => by cases h)
      refine ⟨_, _, _, ?_, newSlice _ _ _ _ _ _ _, this.1, this.2⟩
      simp only [Instr.buildSlice, Sem.run_bind, run_ul hti, hd, Result.andThen_ok, run_sz hte]
      rw [if_neg (by omega)]
      by_cases h0 : len * te.size = 0
      · rw [if_pos h0]
        rw [hz0 h0] at hr'
        have hr'' : Instr.fill (fun i => some (i * te.size, te.size)) ((Array.range (len * te.size)).map (fun i => (#[] : Array Value)[i % (#[] : Array Value).size]!)) ps' = some r' := hr'
        refine Eq.trans (b := Sem.run P (match Instr.fill (fun i => some (i * te.size, te.size)) ((Array.range (len * te.size)).map (fun i => (#[] : Array Value)[i % (#[] : Array Value).size]!)) ps' with
          | some cells => do pure (.slice (some (← newRow e cells)) len len)
          | _ => stuck "buildSlice: a part of the wrong size") w) rfl ?_
        rw [hr'']
        rfl
      · rw [if_neg h0]
        obtain ⟨u, hu, hu'⟩ := hz1 h0
        simp only [Sem.run_bind, hu, Result.andThen_ok, hu', hr', pure_bind]
        rfl
    · cases hr
  · cases hr

theorem hStore_sound (n : Nat) (h : Rel P m H w) {t : TypeId} {x x' y y' : Value} {v : Value} {H' : Hp} {n' : Nat} (hx : VRel m x x') (hy : VRel m y y') (hr : hStore (envOf P) H n t (some x) (some y) = some (v, H', n')) :
    ∃ w', (Instr.storeAt t x' y').run P w = .ok () w' ∧ v = undef ∧ n' = n ∧ Rel P m H' w' ∧ Evol m H n w m H' n w' := by
  unfold hStore at hr
  split at hr
  · rename_i p u hp hu
    cases hp; cases hu
    unfold undo at hr
    split at hr
    · rename_i H2 hs
      cases hr
      cases hx with
      | ptr h1 ha =>
        simp only [storeV, types_env] at hs
        split at hs
        · rename_i ti hti
          obtain ⟨hsz, hw⟩ := cnd_some hs
          have hsz := Nat.eq_of_beq_eq_true hsz
          obtain ⟨w', h3, h4, h5⟩ := writeC_sound _ h h1 ha (cells_rel hy) hw
          refine ⟨w', ?_, rfl, rfl, h4, h5⟩
          simp only [Instr.storeAt, Instr.sureAddr, pure_bind, storeVar, Sem.run_bind, run_sz hti, Result.andThen_ok]
          rw [cells_size hy, hsz]
          simp [h3]
        · cases hs
    · cases hr
  · cases hr

theorem wrap_lim {l : Int} (h0 : 0 ≤ l) (h1 : l ≤ lim) : IntKind.i64.wrap l = l := by
  unfold lim at h1
  simp only [IntKind.wrap, IntKind.bits, IntKind.signed]
  simp only [Bool.true_and]
  split <;> rename_i hc <;> simp at hc <;> omega

theorem hMake_sound (h : Rel P m H w) {t : TypeId} {x x' y y' : Value} {v : Value} {H' : Hp} {n' : Nat} (hx : VRel m x x') (hy : VRel m y y') (hr : hMake (envOf P) H n t (some x) (some y) = some (v, H', n')) (hf : ∀ b, n ≤ b → b < n' → m b = none) :
    Comes1 P m H n w (Instr.makeSlice t x' y') v H' n' := by
  unfold hMake at hr
  split at hr
  · rename_i e te l c he hx' hy'
    cases hx'; cases hy'
    cases hx; cases hy
    obtain ⟨ti, hti, hd, hte⟩ := elemT_some he
    obtain ⟨hc, hr⟩ := cnd_some hr
    simp only [Bool.and_eq_true, decide_eq_true_eq] at hc
    obtain ⟨h1, h2, h3, h4⟩ := hc
    obtain ⟨rfl, rfl, rfl⟩ := newB_some hr
    have hn := hf n (Nat.le_refl _) (Nat.lt_succ_self _)
    obtain ⟨i, hi, hib, his⟩ := run_ty hte w
    obtain ⟨z, hz', hz0, hz1⟩ := zeros_rel hte (c.toNat * te.size) w
    have := newCells h hn (zeros_vrel m hte (c.toNat * te.size) (.inr trivial)) e .own (by simp) ((Array.range (c.toNat * te.size)).map (fun i => z[i % z.size]!)) (0, 0) 0
      (fun i v' hi => by rw [← hz', ← zeros_eq] at hi; rw [← Array.getElem?_toList]; exact hi) (.inl rfl) (fun h => by cases h)
    refine ⟨_, _, _, ?_, newSlice _ _ _ _ _ _ _, this.1, this.2⟩
    have w1 : IntKind.i64.wrap l = l := wrap_lim h1 (by omega)
    have w2 : IntKind.i64.wrap c = c := wrap_lim (by omega) h3
    have hbig : ¬ ((i.bytes : Int) * c > 2 ^ 48) := by
      rw [hib, Int.mul_comm]
      unfold lim at h4
      have : ((68719476736 : Nat) : Int) ≤ 2 ^ 48 := by decide
      omega
    simp only [Instr.makeSlice, Sem.run_bind, run_ul hti, hd, Result.andThen_ok, asInt, asIntOf, pure_bind, hi, w1, w2]
    rw [if_neg (by
      simp only [Bool.or_eq_true, decide_eq_true_eq, not_or]
      refine ⟨⟨⟨?_, ?_⟩, ?_⟩, ?_⟩
      · omega
      · exact hbig
      · omega
      · omega)]
    simp only [Sem.run_bind, run_askRoom, Result.andThen_ok, run_sz hte]
    by_cases h0 : c.toNat * te.size = 0
    · rw [if_pos h0, hz0 h0]
      rfl
    · rw [if_neg h0]
      obtain ⟨u, hu, hu'⟩ := hz1 h0
      simp only [Sem.run_bind, hu, Result.andThen_ok, hu', pure_bind]
      rfl
  · cases hr
end Go.Ab

/- Append, copy, clear, and conversions that make or mark a block. -/
namespace Go.Ab
variable {P : Program} [HasOrc P] {m : Mp} {H : Hp} {w : World} {nt : Nat} {fr : Fr} {a : Act} {n : Nat}

theorem growBy_le (N : Nat) : ∀ (r c : Nat), c ≤ N + (N + 768) / 4 → Builtin.growBy N r c ≤ N + (N + 768) / 4
  | 0, c, h => h
  | r + 1, c, h => by
    simp only [Builtin.growBy]
    split
    · exact h
    · exact growBy_le N r _ (by omega)

theorem next_le {N o : Nat} (h : o < N) : Builtin.nextslicecap N o ≤ 2 * N + 512 := by
  unfold Builtin.nextslicecap
  split
  · omega
  · split
    · omega
    · have := growBy_le N 4 o (by omega)
      omega

theorem next_bytes {N o b : Nat} (h : o < N) (h1 : N * b ≤ lim) : Builtin.nextslicecap N o * b ≤ 2 ^ 48 := by
  have h2 := next_le h
  unfold lim at h1
  have h3 : b ≤ N * b := Nat.le_mul_of_pos_left b (by omega)
  have h4 : Builtin.nextslicecap N o * b ≤ (2 * N + 512) * b := Nat.mul_le_mul_right _ h2
  have h5 : (2 * N + 512) * b = 2 * (N * b) + 512 * b := by rw [Nat.add_mul, Nat.mul_assoc]
  omega

/-- What is appended, as the model has it. -/
structure AppX (P : Program) (m : Mp) (te tx : TI) (x' : Value) (k : Nat) (xs xs' : List Value) (w : World) : Prop where
  rel : VRels m xs xs'
  len : xs.length = k * te.size
  zf : (match tx.desc with | .int _ => true | _ => false) = true → (∃ l : Int, x' = .int .i64 l ∧ 0 ≤ l ∧ l.toNat = k ∧ l * te.bytes ≤ lim ∧ l ≤ lim) ∧ xs' = zeros te.zero (k * te.size)
  nz : (match tx.desc with | .int _ => true | _ => false) = false → ∀ w2 : World, w2.heap = w.heap → (Builtin.lenOf x').run P w2 = .ok k w2 ∧ (Builtin.firstCells te.size k x').run P w2 = .ok xs'.toArray w2

theorem strCells_len (b : ByteArray) : (b.data.toList.map fun c => Value.int .u8 c.toNat).length = b.size := by simp

theorem ints_rel (m : Mp) (l : List UInt8) : VRels m (l.map fun c => Value.int .u8 c.toNat) (l.map fun c => Value.int .u8 c.toNat) := by
  induction l with
  | nil => exact .nil
  | cons x xs ih => exact .cons (.int _ _) ih

theorem zeros_length (z : List Value) (k : Nat) : (zeros z k).length = k := by simp [zeros]

theorem appCells_sound (h : Rel P m H w) {e : TypeId} {te tx : TI} (hte : tiOf P e = some te) {x x' : Value} (hx : VRel m x x') {k : Nat} {xs : List Value} (hr : appCells (envOf P) H te tx x = some (k, xs)) (hz : te.zero.length = te.size) :
    ∃ xs', AppX P m te tx x' k xs xs' w := by
  unfold appCells at hr
  split at hr
  · rename_i kd l
    split at hr
    · split at hr
      · rename_i kk hd
        obtain ⟨hc, hr⟩ := cnd_some hr
        simp only [Bool.and_eq_true, decide_eq_true_eq] at hc
        cases hr
        cases hx
        refine ⟨_, ?_, zeros_length _ _, fun _ => ⟨⟨l, rfl, hc.1, rfl, hc.2.1, hc.2.2⟩, rfl⟩, (fun h => by rw [hd] at h; cases h)⟩
        by_cases h0 : l.toNat * te.size = 0
        · rw [h0]; exact .nil
        · exact flat0s_rel m (zeros_flat (ti_flat hte) _ (.inr (by
            rw [hz]
            rcases Nat.eq_zero_or_pos te.size with h1 | h1
            · rw [h1] at h0; omega
            · exact h1)))
      · cases hr
    · cases hr
  · rename_i k' c
    split at hr
    · rename_i e' hd
      obtain ⟨h0, hr⟩ := cnd_some hr
      have h0 := Nat.eq_of_beq_eq_true h0
      cases hr
      cases hx
      exact ⟨[], .nil, by simp, (fun h => by rw [hd] at h; cases h), fun _ w2 hw2 => ⟨by simp [Builtin.lenOf, h0], by simp [Builtin.firstCells]⟩⟩
    · cases hr
  · rename_i p k' c
    split at hr
    · rename_i e' hd
      split at hr
      · rename_i l hl
        injection hr with hr
        injection hr with e1 e2
        subst e1 e2
        cases hx with
        | @slice _ p' _ _ c' pl h1 h2 =>
          by_cases h0 : k' * te.size = 0
          · rw [h0] at hl
            simp only [readC] at hl
            cases hl
            exact ⟨[], .nil, by simpa using h0.symm, (fun h => by rw [hd] at h; cases h), fun _ w2 hw2 => ⟨rfl, by simp [Builtin.firstCells, h0, loadCells_zero]⟩⟩
          · have hk : 0 < k' := by
              rcases Nat.eq_zero_or_pos k' with h3 | h3
              · rw [h3] at h0; simp at h0
              · exact h3
            obtain ⟨l', h3, h4, h5⟩ := readC_sound2 h h1 (h2.live hk) hl
            exact ⟨l', h4, h5, (fun h => by rw [hd] at h; cases h), fun _ w2 hw2 => ⟨rfl, by simpa [Builtin.firstCells] using h3 w2 hw2⟩⟩
      · cases hr
    · cases hr
  · rename_i b
    split at hr
    · rename_i hd
      obtain ⟨h0, hr⟩ := cnd_some hr
      have h0 := Nat.eq_of_beq_eq_true h0
      cases hr
      cases hx
      refine ⟨_, ints_rel m _, by rw [strCells_len, h0, Nat.mul_one], (fun h => by rw [hd] at h; cases h), fun _ w2 hw2 => ⟨rfl, ?_⟩⟩
      simp only [Builtin.firstCells, Sem.run_pure]
      congr 1
      apply Array.ext'
      rw [show b.extract 0 b.size = b from ByteArray.extract_zero_size]
      simp
    · cases hr
  · cases hr

/-- The facts that an append starts from. -/
structure AppT (P : Program) (ts : Array TypeId) (elem : TypeId) (te tx : TI) : Prop where
  st : ∃ t ti, ts[0]? = some t ∧ tiOf P t = some ti ∧ ti.desc = .slice elem
  xt : ∃ t, ts[1]? = some t ∧ tiOf P t = some tx
  el : tiOf P elem = some te
  z : te.zero.length = te.size

/-- What is appended, read in a world. -/
def appended (te : TI) (elem : TypeId) (zf : Bool) (k : Nat) (x' : Value) : Sem (Array Value) :=
  if !zf then Builtin.firstCells te.size k x'
  else if k * te.size = 0 then pure #[]
  else do pure (Builtin.zeroCells (← zeroValue elem).cells k)

theorem appended_run {elem : TypeId} {te tx : TI} (hte : tiOf P elem = some te) (hz : te.zero.length = te.size) {x' : Value} {k : Nat} {xs xs' : List Value} (hx : AppX P m te tx x' k xs xs' w) :
    (appended te elem (match tx.desc with | .int _ => true | _ => false) k x').run P w = .ok xs'.toArray w := by
  unfold appended
  cases hzf : (match tx.desc with | .int _ => true | _ => false) with
  | false => simpa using (hx.nz hzf w rfl).2
  | true =>
    obtain ⟨_, rfl⟩ := hx.zf hzf
    simp only [Bool.not_true, Bool.false_eq_true, if_false]
    by_cases h0 : k * te.size = 0
    · simp [h0, zeros]
    · obtain ⟨z, hz1, hz2⟩ := run_ze hte w
      have hzs : z.cells.size = te.size := by rw [← hz, ← hz2]; simp
      simp only [h0, if_false, Sem.run_bind, hz1, Result.andThen_ok, Sem.run_pure, Builtin.zeroCells]
      congr 1
      apply Array.ext'
      rw [hzs]
      have := zeros_eq z.cells (k * te.size)
      rw [hzs] at this
      rw [this, hz2]

set_option maxHeartbeats 4000000 in
theorem append_unfold {ts : Array TypeId} {elem : TypeId} {te tx : TI} (hT : AppT P ts elem te tx) {base' : Option Addr} {sLen sCap' k : Nat} {x' : Value} {xs xs' : List Value} (hx : AppX P m te tx x' k xs xs' w) (ty : TypeId) (hlim : sLen + k ≤ lim)
    (hb : (sLen + k) * te.bytes ≤ lim) {r : Result Value}
    (hr : (if sLen + k ≤ sCap' then
        (do
          let new ← appended te elem (match tx.desc with | .int _ => true | _ => false) k x'
          if let some p := base' then storeCells (p.add (sLen * te.size)) new.toList
          pure (.slice base' (sLen + k) sCap') : Sem Value)
      else do
        let newCap ← choose (.appendCap (sLen + k) sCap' elem)
        let old ← Builtin.firstCells te.size sLen (.slice base' sLen sCap')
        let new ← appended te elem (match tx.desc with | .int _ => true | _ => false) k x'
        let rest := Builtin.zeroCells (← zeroValue elem).cells (newCap - (sLen + k))
        pure (.slice (some (← newRow elem (old ++ new ++ rest))) (sLen + k) newCap)).run P w = r) : (Builtin.append_ ts ty #[.slice base' sLen sCap', x']).run P w = r := by
  subst hr
  obtain ⟨⟨t, ti, h1, h2, h3⟩, ⟨t2, h4, h5⟩, h6, h7⟩ := hT
  obtain ⟨i, z, hi, hz, hib⟩ : ∃ i z, (∀ w : World, (typeInfo elem).run P w = .ok i w) ∧ (∀ w : World, (zeroValue elem).run P w = .ok z w) ∧ i.bytes = te.bytes := by
    obtain ⟨i, d, z, g1, g2, g3, g4, g5, g6, g7, g8, g9⟩ := tiOf_some h6
    exact ⟨i, z, fun w => by simp [typeInfo, g1], fun w => by simp [zeroValue, typeInfo, g1, g3], g7.symm⟩
  have hbig : ¬ (9223372036854775807 < (sLen : Int) + (k : Int)) := by unfold lim at hlim; omega
  have hgo : ¬ sLen + k ≤ sCap' → ¬ (281474976710656 < Builtin.nextslicecap (sLen + k) sCap' * i.bytes) := by
    intro hc
    rw [hib]
    have := next_bytes (by omega : sCap' < sLen + k) hb
    omega
  have hul := run_ul h5
  obtain ⟨s1, s2, s3, d, s5⟩ := tx
  cases d with
  | int kk =>
    obtain ⟨⟨l, rfl, hl0, hlk, hlb, hll⟩, hxs⟩ := hx.zf rfl
    have hw := wrap_lim hl0 hll
    have hn0 : ¬ (l < 0) := by omega
    have hbig0 : ¬ (281474976710656 < l * (i.bytes : Int)) := by
      rw [hib]
      unfold lim at hlb
      omega
    have hlk' : l = (k : Int) := by omega
    subst hlk'
    by_cases hle : sLen + k ≤ sCap'
    · by_cases h0 : k * te.size = 0
      · simp [Builtin.append_, h1, h4, run_ul h2, h3, hul, run_sz h6, appended, asInt, asIntOf, hw, hn0, hi, hz, hbig0, hle, h0]
        cases base' <;> simp
      · simp [Builtin.append_, h1, h4, run_ul h2, h3, hul, run_sz h6, appended, asInt, asIntOf, hw, hn0, hi, hz, hbig0, hle, h0]
        cases base' <;> simp
    · have hbig2 := hgo hle
      by_cases h0 : k * te.size = 0
      · simp [Builtin.append_, h1, h4, run_ul h2, h3, hul, run_sz h6, appended, asInt, asIntOf, hw, hn0, hi, hz, hbig0, hle, h0, hbig, hbig2]
      · simp [Builtin.append_, h1, h4, run_ul h2, h3, hul, run_sz h6, appended, asInt, asIntOf, hw, hn0, hi, hz, hbig0, hle, h0, hbig, hbig2]
  | _ =>
    obtain ⟨hl, hf⟩ := hx.nz rfl w rfl
    by_cases hle : sLen + k ≤ sCap'
    · simp [Builtin.append_, h1, h4, run_ul h2, h3, hul, run_sz h6, hl, hle, hf, appended]
      cases base' <;> simp
    · have hbig2 := hgo hle
      simp [Builtin.append_, h1, h4, run_ul h2, h3, hul, run_sz h6, hl, hle, hi, hbig, hbig2, appended]
end Go.Ab

/- Append, copy, clear, conversions: each comes to what the evaluator says. -/
namespace Go.Ab
variable {P : Program} [HasOrc P] {m : Mp} {H : Hp} {w : World} {nt : Nat} {fr : Fr} {a : Act} {n : Nat}

theorem Comes1.of_drew {s : Sem Value} {v : Value} {H' : Hp} {n' : Nat} {v' : Value} {m' : Mp} {w' : World} (h1 : s.run P w = .ok v' w') (h2 : VRel m' v v') (h3 : Rel P m' H' w') (h4 : Evol m H n w.drew m' H' n' w') : Comes1 P m H n w s v H' n' :=
  ⟨v', m', w', h1, h2, h3, (Evol.drew m H n w).trans h4⟩

theorem beq_ne {a b : Nat} (h : ¬ a = b) : a.beq b = false := by
  cases hq : a.beq b with
  | true => exact absurd (Nat.eq_of_beq_eq_true hq) h
  | false => rfl

theorem ext_get {arr : Array Value} {base : Nat} {c xs xs' : List Value} {m : Mp} (hv : VRels m xs xs') (hN : base + c.length + xs.length ≤ arr.size)
    (h4 : ∀ (i : Nat) (v : Value), c[i]? = some v → ∃ v', arr[base + i]? = some v' ∧ VRel m v v') :
    ∀ (i : Nat) (v : Value), (c ++ xs)[i]? = some v → ∃ v', (arr.toList.take (base + c.length) ++ xs' ++ arr.toList.drop (base + c.length + xs'.length)).toArray[base + i]? = some v' ∧ VRel m v v' := by
  intro i v hi
  have hl' := hv.length
  have ht' : (arr.toList.take (base + c.length)).length = base + c.length := by simp; omega
  rw [List.getElem?_toArray, List.append_assoc]
  by_cases h1 : i < c.length
  · rw [List.getElem?_append_left h1] at hi
    obtain ⟨v', h5, h6⟩ := h4 i v hi
    refine ⟨v', ?_, h6⟩
    rw [List.getElem?_append_left (by omega), List.getElem?_take, if_pos (by omega)]
    simpa using h5
  · rw [List.getElem?_append_right (by omega)] at hi
    rw [List.getElem?_append_right (by omega), ht']
    obtain ⟨v', h5, h6⟩ := hv.get hi
    refine ⟨v', ?_, h6⟩
    have := (List.getElem?_eq_some_iff.1 h5).1
    rw [show base + i - (base + c.length) = i - c.length by omega, List.getElem?_append_left this]
    exact h5

/-- An append that makes a new block. -/
theorem grow_sound (h : Rel P m H w) (hn : m n = none) {ts : Array TypeId} {elem : TypeId} {te tx : TI} (hT : AppT P ts elem te tx) {base' : Option Addr} {sLen sCap' k : Nat} {x' : Value} {xs xs' old old' : List Value}
    (hx : AppX P m te tx x' k xs xs' w) (hxd : AppX P m te tx x' k xs xs' w.drew) (ty : TypeId) (hlim : sLen + k ≤ lim) (hb : (sLen + k) * te.bytes ≤ lim) (hgt : ¬ sLen + k ≤ sCap')
    (hold : VRels m old old') (holdl : old.length = sLen * te.size) (hfc : (Builtin.firstCells te.size sLen (.slice base' sLen sCap')).run P w.drew = .ok old'.toArray w.drew) :
    ∃ N newCap w', (Builtin.append_ ts ty #[.slice base' sLen sCap', x']).run P w = .ok (.slice (some ⟨w.heap.size, 0, none⟩) (sLen + k) newCap) w' ∧ sLen + k ≤ newCap ∧ newCap * te.size ≤ N ∧
      Rel P (upd m n ⟨w.heap.size, 0, N, te.size, .grown⟩) (H.put n (.cells (old ++ xs) elem .grown)) w' ∧ Evol m H n w (upd m n ⟨w.heap.size, 0, N, te.size, .grown⟩) (H.put n (.cells (old ++ xs) elem .grown)) (n + 1) w' := by
  have hT' := hT
  obtain ⟨_, _, h6, h7⟩ := hT'
  obtain ⟨z, hz1, hz2⟩ := run_ze h6 w.drew
  have hzs : z.cells.size = te.size := by rw [← h7, ← hz2]; simp
  obtain ⟨newCap, hnc⟩ : ∃ c, c = (Question.appendCap (sLen + k) sCap' elem).cut (w.tape w.drawn (.appendCap (sLen + k) sCap' elem)) := ⟨_, rfl⟩
  have hle : sLen + k ≤ newCap := by rw [hnc]; simp only [Question.cut]; omega
  have hlen' : old'.length = sLen * te.size := by rw [hold.length, holdl]
  have hxl' : xs'.length = k * te.size := by rw [hx.rel.length, hx.len]
  obtain ⟨arr, harr⟩ : ∃ arr, arr = old'.toArray ++ xs'.toArray ++ Builtin.zeroCells z.cells (newCap - (sLen + k)) := ⟨_, rfl⟩
  have hsize : arr.size = newCap * te.size := by
    rw [harr]
    simp only [Array.size_append, List.size_toArray, Builtin.zeroCells, Array.size_map, Array.size_range, hlen', hxl', hzs]
    rw [← Nat.add_mul, ← Nat.add_mul]
    congr 1
    omega
  have hnew := newCells (h.drew) hn (hold.append hx.rel) elem .grown (by simp) arr (0, 0) te.size (fun i v' hi => by
    rw [harr, ← Array.getElem?_toList]
    simp only [Array.toList_append, List.append_assoc]
    rw [← List.append_assoc, List.getElem?_append_left (by have := (List.getElem?_eq_some_iff.1 hi).1; simpa using this)]
    exact hi) (.inl rfl) (fun _ => ⟨te, h6, rfl⟩)
  refine ⟨arr.size, newCap, w.drew.alloc (.cells arr elem (0, 0)), ?_, hle, by rw [hsize]; exact Nat.le_refl _, hnew.1, (Evol.drew m H n w).trans hnew.2⟩
  refine append_unfold hT hx ty hlim hb ?_
  rw [if_neg hgt]
  simp only [Sem.run_bind, run_choose, Question.forced, Bool.false_eq_true, if_false, Result.andThen_ok, World.drew_eq]
  rw [hfc]
  simp only [Result.andThen_ok]
  rw [appended_run h6 h7 hxd]
  simp only [Result.andThen_ok, hz1, newRow, Sem.run_bind, run_newObj, Sem.run_pure, World.alloc_eq, ← hnc, ← harr]
  rfl

theorem append_nil_sound (h : Rel P m H w) (hn : m n = none) {ts : Array TypeId} {elem : TypeId} {te tx : TI} (hT : AppT P ts elem te tx) {k : Nat} {x' : Value} {xs xs' : List Value}
    (hx : AppX P m te tx x' k xs xs' w) (hxd : AppX P m te tx x' k xs xs' w.drew) (ty : TypeId) (hlim : 0 + k ≤ lim) (hb : (0 + k) * te.bytes ≤ lim) (hk : k ≠ 0) :
    Comes1 P m H n w (Builtin.append_ ts ty #[.slice none 0 0, x']) (.slice (some ⟨n, 0, none⟩) k k) (H.put n (.cells xs elem .grown)) (n + 1) := by
  obtain ⟨N, c, w', h1, h2, h3, h4, h5⟩ := grow_sound h hn hT hx hxd ty (sLen := 0) (sCap' := 0) (base' := none) hlim hb (by omega) (old := []) (old' := []) .nil (by simp) (by simp [Builtin.firstCells])
  refine ⟨_, _, w', h1, ?_, h4, h5⟩
  have := newSliceG m n w.heap.size N te.size (0 + k) k c (by omega) h3
  simpa using this

theorem appendV_sound (h : Rel P m H w) {ts : Array TypeId} {s s' x x' v : Value} {H' : Hp} {n' : Nat} (hs : VRel m s s') (hx : VRel m x x') (hr : appendV (envOf P) H n ts s x = some (v, H', n')) (hf : ∀ b, n ≤ b → b < n' → m b = none) (ty : TypeId) :
    Comes1 P m H n w (Builtin.append_ ts ty #[s', x']) v H' n' := by
  unfold appendV at hr
  split at hr
  · rename_i st xt base sLen sCap hst hxt
    simp only [types_env] at hr
    split at hr
    · rename_i ti tx hti htx
      split at hr
      · rename_i elem hd
        split at hr
        · rename_i te hte
          split at hr
          · rename_i k xs hac
            unfold appTo at hr
            have hr1 := cnd_some hr
            clear hr
            obtain ⟨hc, hr⟩ := hr1
            simp only [Bool.and_eq_true] at hc
            obtain ⟨hc1, hlim, hb, hz⟩ := hc
            have hlim := Nat.le_of_ble_eq_true hlim
            have hb := Nat.le_of_ble_eq_true hb
            have hz := Nat.eq_of_beq_eq_true hz
            have hT : AppT P ts elem te tx := ⟨⟨st, ti, hst, hti, hd⟩, ⟨xt, hxt, htx⟩, hte, hz⟩
            obtain ⟨xs', hX⟩ := appCells_sound h hte hx hac hz
            have hXd : AppX P m te tx x' k xs xs' w.drew := ⟨hX.rel, hX.len, hX.zf, fun hq w2 hw2 => hX.nz hq w2 hw2⟩
            have hcap : ∃ base' sCap', s' = .slice base' sLen sCap' ∧ sCap ≤ sCap' := by
              cases hs with
              | nilSlice => exact ⟨_, _, rfl, Nat.le_refl _⟩
              | @slice _ p' _ _ c' pl h1 h2 =>
                refine ⟨_, _, rfl, ?_⟩
                unfold SRel at h2
                split at h2
                · omega
                · exact h2.1
                · exact h2.1
            obtain ⟨base', sCap', rfl, hcc⟩ := hcap
            by_cases hk : k = 0
            · -- nothing is appended
              subst hk
              obtain ⟨hle, hr⟩ := cnd_some hr
              have hle := Nat.le_of_ble_eq_true hle
              cases hr
              have hxe : xs' = [] := by
                have := hX.rel.length
                rw [hX.len] at this
                simp at this
                exact this
              refine ⟨.slice base' sLen sCap', m, w, ?_, hs, h, Evol.refl _ _ _ _⟩
              refine append_unfold hT hX ty hlim hb ?_
              rw [if_pos (by omega)]
              simp only [Sem.run_bind, appended_run hte hz hX, Result.andThen_ok, hxe]
              cases base' <;> simp [storeCells]
            · have hkb : k.beq 0 = false := beq_ne hk
              rw [hkb, cnd_false] at hr
              unfold appAt at hr
              split at hr
              · -- nil
                obtain ⟨h0, hr⟩ := cnd_some hr
                simp only [Bool.and_eq_true] at h0
                have e1 := Nat.eq_of_beq_eq_true h0.1
                have e2 := Nat.eq_of_beq_eq_true h0.2
                subst e1 e2
                obtain ⟨rfl, rfl, rfl⟩ := newB_some hr
                cases hs
                exact append_nil_sound h (hf n (Nat.le_refl _) (Nat.lt_succ_self _)) hT hX hXd ty hlim hb hk
              · rename_i p
                cases hs with
                | @slice _ p' _ _ _ pl h1 h2 =>
                  split at hr
                  · rename_i c e kd hbk
                    have hbr := h.blk _ _ _ hbk h1
                    have hkd : pl.kind = kd := hbr.kind
                    by_cases hin : sLen + k ≤ sCap
                    · -- in place
                      rw [show Nat.ble (sLen + k) sCap = true from Nat.ble_eq_true_of_le hin, cnd_true] at hr
                      unfold appIn at hr
                      split at hr
                      · rename_i H2 hw
                        cases hr
                        have ha : ARel pl p p' := by
                          unfold SRel at h2
                          split at h2
                          · exact h2.1
                          · rcases h2.2 with h3 | h3
                            · omega
                            · exact h3
                          · rcases h2.2 with h3 | h3
                            · omega
                            · exact h3.1
                        obtain ⟨w', h3, h4, h5⟩ := writeC_sound n h (by rw [block_add]; exact h1) (ha.add (sLen * te.size)) hX.rel hw
                        refine ⟨.slice (some p') (sLen + k) sCap', m, w', ?_, .slice h1 ?_, h4, h5⟩
                        · refine append_unfold hT hX ty hlim hb ?_
                          rw [if_pos (by omega)]
                          simp only [Sem.run_bind, appended_run hte hz hX, Result.andThen_ok, h3, Sem.run_pure]
                        · unfold SRel at h2 ⊢
                          split at h2
                          · exact h2
                          · exact ⟨h2.1, .inr ha⟩
                          · refine ⟨h2.1, .inr ?_⟩
                            rcases h2.2 with h6 | h6
                            · omega
                            · exact h6
                      · cases hr
                    · have : Nat.ble (sLen + k) sCap = false := by
                        cases hq : Nat.ble (sLen + k) sCap with
                        | true => exact absurd (Nat.le_of_ble_eq_true hq) hin
                        | false => rfl
                      rw [this, cnd_false] at hr
                      unfold appGrow at hr
                      split at hr
                      · cases hr
                      · -- own: a new block
                        split at hr
                        · rename_i old hold
                          obtain ⟨rfl, rfl, rfl⟩ := newB_some hr
                          have hn := hf n (Nat.le_refl _) (Nat.lt_succ_self _)
                          unfold SRel at h2
                          rw [hkd] at h2
                          simp only at h2
                          obtain ⟨ha, rfl⟩ := h2
                          obtain ⟨old', ho1, ho2, ho3⟩ := readC_sound h.drew h1 ha hold
                          obtain ⟨N, c2, w', g1, g2, g3, g4, g5⟩ := grow_sound h hn hT hX hXd ty (base' := some p') hlim hb hin ho2 ho3 (by simpa [Builtin.firstCells] using ho1)
                          exact ⟨_, _, w', g1, newSliceG m n w.heap.size N te.size (sLen + k) (sLen + k) c2 g2 g3, g4, g5⟩
                        · cases hr
                      · -- grown, at its end
                        obtain ⟨hcd, hr⟩ := cnd_some hr
                        simp only [Bool.and_eq_true] at hcd
                        have he1 := Nat.eq_of_beq_eq_true hcd.1
                        have he2 := Nat.eq_of_beq_eq_true hcd.2
                        subst he2
                        cases hr
                        have hn := hf n (Nat.le_refl _) (Nat.lt_succ_self _)
                        have hesz : pl.esz = te.size := by
                          obtain ⟨ti2, h3, h4⟩ := hbr.esz rfl
                          rw [hte] at h3; cases h3; exact h4
                        unfold SRel at h2
                        rw [hkd] at h2
                        simp only at h2
                        have hne : n ≠ p.block := by intro e; rw [← e, hn] at h1; cases h1
                        have hdl : (c.drop p.off).length = sLen * te.size := by simp; omega
                        by_cases hcc' : sLen + k ≤ sCap'
                        · -- it is taken over
                          have h3 : ARel pl p p' ∧ pl.base + p.off + sCap' * pl.esz ≤ pl.N := by
                            rcases h2.2 with h3 | h3
                            · omega
                            · exact h3
                          obtain ⟨ha, hN⟩ := h3
                          rw [hesz] at hN
                          obtain ⟨hk1, ⟨arr, fz, b1, b2, b3, b4⟩, _⟩ := hbr
                          have hxl : xs'.length = k * te.size := by rw [hX.rel.length, hX.len]
                          have hmul : (sLen + k) * te.size ≤ sCap' * te.size := Nat.mul_le_mul_right _ hcc'
                          rw [Nat.add_mul] at hmul
                          have ha2 := addr_add ha (sLen * te.size)
                          have hst := run_storeCells_own (P := P) pl.B (pl.base + p.off + sLen * te.size) e fz xs' 0 arr w b1 (by rw [b2]; exact b3 (by simp)) (by rw [b2, hxl]; omega) (cells1_one hX.rel hc1)
                          simp only [Nat.add_zero] at hst
                          have hto := h.takeover (n := n) (pl2 := ⟨pl.B, pl.base + p.off, pl.N, te.size, .grown⟩) (c' := c.drop p.off ++ xs)
                            (arr' := (arr.toList.take (pl.base + p.off + sLen * te.size) ++ xs' ++ arr.toList.drop (pl.base + p.off + sLen * te.size + xs'.length)).toArray) hbk h1 hn rfl
                            ⟨rfl, ⟨_, fz, setRow_heap w _ arr _ e fz b1, (splice_size (by rw [b2, hxl]; omega)).trans b2, b3, by
                              intro i u hi
                              have hb4 : ∀ i u, (c.drop p.off)[i]? = some u → ∃ u', arr[pl.base + p.off + i]? = some u' ∧ VRel m u u' := by
                                intro i u hi
                                rw [List.getElem?_drop] at hi
                                have := b4 _ _ hi
                                rwa [← Nat.add_assoc] at this
                              have hx9 := ext_get (arr := arr) (base := pl.base + p.off) (c := c.drop p.off) hX.rel (by rw [b2, hdl, hX.len]; omega) hb4 i u hi
                              rw [hdl] at hx9
                              obtain ⟨u', g1, g2⟩ := hx9
                              exact ⟨u', g1, g2.mono (le_upd _ hn)⟩⟩, fun _ => ⟨te, hte, rfl⟩⟩
                          refine ⟨.slice (some p') (sLen + k) sCap', _, _, ?_, ?_, hto.1, hto.2⟩
                          · refine append_unfold hT hX ty hlim hb ?_
                            rw [if_pos hcc']
                            simp only [Sem.run_bind, appended_run hte hz hX, Result.andThen_ok, ha2, hst, Sem.run_pure]
                          · refine .slice (upd_same _ _ _) ⟨hcc', .inr ⟨⟨rfl, ?_⟩, ?_⟩⟩
                            · rw [ha.2]; rfl
                            · simpa using hN
                        · -- it is copied
                          have hkill := h.kill (b := p.block)
                          have hread : ∃ old', (Builtin.firstCells te.size sLen (.slice (some p') sLen sCap')).run P w.drew = .ok old'.toArray w.drew ∧ VRels m (c.drop p.off) old' := by
                            by_cases h0 : sLen * te.size = 0
                            · have : c.drop p.off = [] := List.length_eq_zero_iff.1 (by omega)
                              rw [this]
                              exact ⟨[], by simp [Builtin.firstCells, h0, loadCells_zero], .nil⟩
                            · have hsl : 0 < sLen := by
                                rcases Nat.eq_zero_or_pos sLen with h3 | h3
                                · rw [h3] at h0; simp at h0
                                · exact h3
                              have ha : ARel pl p p' := by
                                rcases h2.2 with h3 | h3
                                · omega
                                · exact h3.1
                              have hrd : readC H p (sLen * te.size) = some (c.drop p.off) := by
                                unfold readC
                                split
                                · rename_i h9; exact absurd h9 h0
                                · rw [hbk]
                                  simp only
                                  rw [show Nat.ble (p.off + _) c.length = true from Nat.ble_eq_true_of_le (by omega), cnd_true]
                                  congr 1
                                  rw [List.take_of_length_le (by omega)]
                              obtain ⟨old', ho1, ho2, ho3⟩ := readC_sound h.drew h1 ha hrd
                              exact ⟨old', by simpa [Builtin.firstCells] using ho1, ho2⟩
                          obtain ⟨old', hfc, hold⟩ := hread
                          obtain ⟨N, c2, w', g1, g2, g3, g4, g5⟩ := grow_sound hkill hn hT hX hXd ty (base' := some p') hlim hb hcc' hold hdl hfc
                          exact ⟨_, _, w', g1, newSliceG m n w.heap.size N te.size (sLen + k) (sLen + k) c2 g2 g3, g4, (Evol.kill h1 hbk).trans g5⟩
                  · cases hr
          · cases hr
        · cases hr
      · cases hr
    · cases hr
  · cases hr
end Go.Ab

/- Conversions that make or mark a block, copy, clear; the builtins. -/
namespace Go.Ab
variable {P : Program} [HasOrc P] {m : Mp} {H : Hp} {w : World} {nt : Nat} {fr : Fr} {a : Act} {n : Nat}

theorem isStr_desc {t : TypeId} (h : isStr (envOf P) t = true) : ∃ ti, tiOf P t = some ti ∧ ti.desc = .string := by
  simp only [isStr, types_env] at h
  split at h
  · rename_i ti hti
    split at h
    · rename_i hd; exact ⟨ti, hti, hd⟩
    · cases h
  · cases h

theorem freeze_heap {w : World} {B : Nat} {arr : Array Value} {e : TypeId} {fz : Nat × Nat} (h : w.heap[B]? = some (.cells arr e fz)) (o : Nat) :
    (w.freeze ⟨B, o, none⟩ 1).heap[B]? = some (.cells arr e (if fz.1 == fz.2 then (o, o + 1) else (min fz.1 o, max fz.2 (o + 1)))) := by
  obtain ⟨lo, hi⟩ := fz
  simp [World.freeze, Array.getElem?_modify, h]

theorem freeze_other {w : World} {B k : Nat} (o : Nat) (h : k ≠ B) : (w.freeze ⟨B, o, none⟩ 1).heap[k]? = w.heap[k]? := by
  simp [World.freeze, Array.getElem?_modify, Ne.symm h]

theorem freeze_size {w : World} {B : Nat} (o : Nat) : (w.freeze ⟨B, o, none⟩ 1).heap.size = w.heap.size := by simp [World.freeze]

theorem hConv_sound (h : Rel P m H w) {s d : TypeId} {x x' v : Value} {H' : Hp} {n' : Nat} (hx : VRel m x x') (hr : hConv (envOf P) H n s d (some x) = some (v, H', n')) (hf : ∀ b, n ≤ b → b < n' → m b = none) :
    Comes1 P m H n w (Go.convert s d x') v H' n' := by
  unfold hConv at hr
  split at hr
  · rename_i b hxb
    cases hxb
    split at hr
    · rename_i e te he
      obtain ⟨hc, hr⟩ := cnd_some hr
      simp only [Bool.and_eq_true] at hc
      obtain ⟨hs, hu, hz⟩ := hc
      have hz := Nat.eq_of_beq_eq_true hz
      obtain ⟨ts, hts, hds⟩ := isStr_desc hs
      obtain ⟨te', hte', hde⟩ := isU8_desc hu
      obtain ⟨ti, hti, hd, hte⟩ := elemT_some he
      rw [hte] at hte'
      cases hte'
      obtain ⟨rfl, rfl, rfl⟩ := newB_some hr
      have hn := hf n (Nat.le_refl _) (Nat.lt_succ_self _)
      cases hx
      obtain ⟨cap, hcap⟩ : ∃ c, c = (Question.appendCap b.size 0 e).cut (w.tape w.drawn (.appendCap b.size 0 e)) := ⟨_, rfl⟩
      have hle : b.size ≤ cap := by rw [hcap]; simp only [Question.cut]; omega
      obtain ⟨arr, harr⟩ : ∃ arr, arr = (b.data.map fun c => Value.int .u8 c.toNat) ++ Array.replicate (cap - b.size) (.int .u8 0) := ⟨_, rfl⟩
      have hsize : arr.size = cap := by
        rw [harr]
        simp only [Array.size_append, Array.size_map, Array.size_replicate]
        have : b.data.size = b.size := rfl
        omega
      have hnew := newCells (h.drew) hn (ints_rel m b.data.toList) e .grown (by simp) arr (arr.size, arr.size + 1) te.size (fun i v' hi => by
        rw [harr, ← Array.getElem?_toList]
        simp only [Array.toList_append, Array.toList_map]
        rw [List.getElem?_append_left (List.getElem?_eq_some_iff.1 hi).1]
        exact hi) (.inr (Nat.le_refl _)) (fun _ => ⟨te, hte, rfl⟩)
      refine Comes1.of_drew (v' := .slice (some ⟨w.heap.size, 0, none⟩) b.size cap) ?_ (newSliceG m n w.heap.size arr.size te.size b.size b.size cap hle (by rw [hsize, hz]; omega)) hnew.1 hnew.2
      have hfr : (w.drew.alloc (.cells arr e)).freeze ⟨w.heap.size, arr.size, none⟩ 1 = w.drew.alloc (.cells arr e (arr.size, arr.size + 1)) := by
        have hh : ((w.drew.alloc (.cells arr e)).freeze ⟨w.heap.size, arr.size, none⟩ 1).heap = (w.drew.alloc (.cells arr e (arr.size, arr.size + 1))).heap := by
          apply Array.ext_getElem?
          intro i
          by_cases hi : i = w.heap.size
          · subst hi
            rw [freeze_heap (arr := arr) (e := e) (fz := (0, 0)) (by show (w.heap.push _)[w.heap.size]? = _; exact Array.getElem?_push_size)]
            show _ = (w.heap.push _)[w.heap.size]?
            rw [Array.getElem?_push_size]
            rfl
          · rw [freeze_other _ hi]
            show (w.heap.push _)[i]? = (w.heap.push _)[i]?
            rw [Array.getElem?_push, Array.getElem?_push, if_neg hi, if_neg hi]
        have : ∀ (w1 w2 : World), w1.heap = w2.heap → w1.tape = w2.tape → w1.drawn = w2.drawn → w1.os = w2.os → w1.output = w2.output → w1 = w2 := by
          rintro ⟨⟩ ⟨⟩ h1 h2 h3 h4 h5; simp_all
        exact this _ _ hh rfl rfl rfl rfl
      have hshape : (w.drew.alloc (.cells arr e)).shape? w.heap.size = some (e, arr.size) := by
        simp only [World.shape?]
        rw [show (w.drew.alloc (.cells arr e)).heap[w.heap.size]? = some (.cells arr e) from by show (w.heap.push _)[w.heap.size]? = _; exact Array.getElem?_push_size]
      simp only [Go.convert, Sem.run_bind, run_ul hts, hds, run_ul hti, hd, Result.andThen_ok, run_ul hte, hde, Conv.stringToBytes, run_choose, Question.forced, Bool.false_eq_true, if_false, newRow, run_newObj, Sem.run_pure, World.alloc_eq, World.drew_eq, ← hcap, ← harr, markStringish, run_shape]
      rw [show (w.drew.heap.size) = w.heap.size from rfl, hshape]
      simp only [run_freeze, Result.andThen_ok]
      rw [hfr]
    · cases hr
  · rename_i p len cap hxb
    cases hxb
    split at hr
    · rename_i e te c e2 he hbk
      have hr1 := cnd_some hr
      clear hr
      obtain ⟨hc, hr⟩ := hr1
      simp only [Bool.and_eq_true] at hc
      have hsd := Nat.eq_of_beq_eq_true hc.1
      subst hsd
      obtain ⟨te', hte', hde⟩ := isU8_desc hc.2
      obtain ⟨ti, hti, hd, hte⟩ := elemT_some he
      cases hr
      cases hx with
      | @slice _ p' _ _ c' pl h1 h2 =>
        have hbr := h.blk _ _ _ hbk h1
        have hkd : pl.kind = .own := hbr.kind
        have h2' := h2
        unfold SRel at h2'
        rw [hkd] at h2'
        obtain ⟨ha, rfl⟩ := h2'
        obtain ⟨hk1, ⟨arr, fz, b1, b2, b3, b4⟩, b5⟩ := hbr
        have hpB : p'.block = pl.B := by rw [ha.2]
        have hshape : w.shape? pl.B = some (e2, arr.size) := by simp [World.shape?, b1]
        refine ⟨.slice (some p') len c', m, w.freeze ⟨pl.B, arr.size, none⟩ 1, ?_, .slice h1 h2, ?_, ?_⟩
        · simp [Go.convert, run_ul hti, hd, run_ul hte', hde, markStringish, hshape, hpB]
        · refine ⟨fun b X q g1 g2 => ?_, h.sep, h.glob, fun b q g1 => by rw [freeze_size]; exact h.inb b q g1⟩
          by_cases hb : b = p.block
          · subst hb
            rw [hbk] at g1
            rw [h1] at g2
            cases g1; cases g2
            refine ⟨hk1, ⟨arr, _, freeze_heap b1 arr.size, b2, fun _ => ?_, b4⟩, b5⟩
            have := b3 (by simp)
            rw [← b2]
            split
            · exact .inr (Nat.le_refl _)
            · rename_i hne
              simp only [beq_iff_eq] at hne
              right
              simp only
              omega
          · cases hal : X.alive with
            | true => exact (h.blk b X q g1 g2).heap (freeze_other _ (h.sep p.block b _ X pl q (Ne.symm hb) hbk g1 h1 g2 rfl hal).symm)
            | false => cases X with
              | dead => trivial
              | cells => cases hal
              | loop => cases hal
        · exact { Evol.refl m H n w with
            size := by rw [freeze_size]; exact Nat.le_refl _
            frame := fun B _ ho => freeze_other _ (fun e1 => ho ⟨p.block, pl, _, h1, hbk, rfl, e1.symm⟩)
            os := by simp [World.freeze]
            tape := by simp [World.freeze]
            output := by simp [World.freeze] }
    · cases hr
  · cases hr

theorem copyCells_sound (h : Rel P m H w) {te : TI} {dLen : Nat} {x x' : Value} (hx : VRel m x x') {k : Nat} {cs : List Value} (hr : copyCells H te dLen x = some (k, cs)) :
    ∃ cs' l, (Builtin.lenOf x').run P w = .ok l w ∧ Nat.min l dLen = k ∧ (Builtin.firstCells te.size k x').run P w = .ok cs'.toArray w ∧ VRels m cs cs' ∧ (k = 0 → cs = []) := by
  unfold copyCells at hr
  split at hr
  · rename_i j c
    obtain ⟨h0, hr⟩ := cnd_some hr
    have h0 := Nat.eq_of_beq_eq_true h0
    cases hr
    cases hx
    exact ⟨[], j, rfl, by rw [h0]; exact Nat.zero_min _, by simp [Builtin.firstCells], .nil, fun _ => rfl⟩
  · rename_i p j c
    split at hr
    · rename_i l hl
      injection hr with hr
      injection hr with e1 e2
      subst e1 e2
      cases hx with
      | @slice _ p' _ _ c' pl h1 h2 =>
        by_cases h0 : Nat.min j dLen * te.size = 0
        · rw [h0] at hl
          simp only [readC] at hl
          cases hl
          exact ⟨[], j, rfl, rfl, by simp [Builtin.firstCells, h0, loadCells_zero], .nil, fun _ => rfl⟩
        · have hk : 0 < j := by
            rcases Nat.eq_zero_or_pos j with h3 | h3
            · rw [h3] at h0; exact absurd (by rw [show Nat.min 0 dLen = 0 from Nat.zero_min _, Nat.zero_mul]) h0
            · exact h3
          obtain ⟨l', h3, h4, h5⟩ := readC_sound h h1 (h2.live hk) hl
          exact ⟨l', j, rfl, rfl, by simpa [Builtin.firstCells] using h3, h4, fun e => by rw [e] at h0; simp at h0⟩
    · cases hr
  · rename_i s
    obtain ⟨h0, hr⟩ := cnd_some hr
    cases hr
    cases hx
    refine ⟨_, s.size, rfl, rfl, ?_, ints_rel m _, fun e => ?_⟩
    · simp only [Builtin.firstCells, Sem.run_pure]
      congr 1
      apply Array.ext'
      simp
    · rw [e]
      have : (s.extract 0 0).data.toList = [] := by simp
      rw [this]; rfl
  · cases hr

theorem hCopy_sound (h : Rel P m H w) {ts : Array TypeId} {d d' x x' v : Value} {H' : Hp} {n' : Nat} (hd : VRel m d d') (hx : VRel m x x') (hr : hCopy (envOf P) H n ts[0]? d x = some (v, H', n')) (ty : TypeId) :
    Comes1 P m H n w (Builtin.copy_ ts ty #[d', x']) v H' n' := by
  unfold hCopy at hr
  split at hr
  · rename_i t base dLen dCap ht
    split at hr
    · rename_i e te he
      obtain ⟨ti, hti, hdd, hte⟩ := elemT_some he
      split at hr
      · rename_i k cs hcc
        obtain ⟨cs', l, g1, g2, g3, g4, g5⟩ := copyCells_sound h hx hcc
        split at hr
        · obtain ⟨h0, hr⟩ := cnd_some hr
          have h0 := Nat.eq_of_beq_eq_true h0
          cases hr
          cases hd
          refine ⟨_, m, w, ?_, .int _ _, h, Evol.refl _ _ _ _⟩
          subst g2
          simp [Builtin.copy_, ht, run_ul hti, hdd, g1, run_sz hte, g3]
          rfl
        · rename_i p
          split at hr
          · rename_i H2 hw
            injection hr with hr
            injection hr with e1 e2
            injection e2 with e2 e3
            subst e1 e2 e3
            cases hd with
            | @slice _ p' _ _ c' pl h1 h2 =>
              have key : ∃ w', (storeCells p' cs').run P w = .ok () w' ∧ Rel P m H2 w' ∧ Evol m H n w m H2 n w' := by
                cases cs with
                | nil =>
                  cases g4
                  simp only [writeC] at hw
                  cases hw
                  exact ⟨w, rfl, h, Evol.refl _ _ _ _⟩
                | cons u us =>
                  have hk : 0 < dLen := by
                    rcases Nat.eq_zero_or_pos dLen with h3 | h3
                    · have : k = 0 := by rw [← g2, h3]; exact Nat.min_zero _
                      have := g5 this
                      cases this
                    · exact h3
                  exact writeC_sound n h h1 (h2.live hk) g4 hw
              obtain ⟨w', k1, k2, k3⟩ := key
              refine ⟨_, m, w', ?_, .int _ _, k2, k3⟩
              subst g2
              simp [Builtin.copy_, ht, run_ul hti, hdd, g1, run_sz hte, g3, k1]
              rfl
          · cases hr
      · cases hr
    · cases hr
  · cases hr

theorem hClear_sound (h : Rel P m H w) {ts : Array TypeId} {x x' v : Value} {H' : Hp} {n' : Nat} (hx : VRel m x x') (hr : hClear (envOf P) H n ts[0]? x = some (v, H', n')) (ty : TypeId) :
    Comes1 P m H n w (Builtin.clear_ ts ty #[x']) v H' n' := by
  unfold hClear at hr
  split at hr
  · rename_i t base len cap ht
    split at hr
    · rename_i e te he
      obtain ⟨ti, hti, hdd, hte⟩ := elemT_some he
      split at hr
      · cases hr
        cases hx <;> exact ⟨_, m, w, by simp [Builtin.clear_, ht, run_ul hti, hdd]; rfl, undef_rel m, h, Evol.refl _ _ _ _⟩
      · rename_i k
        split at hr
        · rename_i p
          split at hr
          · rename_i H2 hw
            injection hr with hr
            injection hr with e1 e2
            injection e2 with e2 e3
            subst e1 e2 e3
            cases hx with
            | @slice _ p' _ _ c' pl h1 h2 =>
              obtain ⟨z, hz1, hz2⟩ := run_ze hte w
              have hzl : z.cells.size = te.zero.length := by rw [← hz2]; simp
              have hzz : (Builtin.zeroCells z.cells (k + 1)).toList = zeros te.zero ((k + 1) * te.zero.length) := by
                simp only [Builtin.zeroCells]
                rw [zeros_eq, hz2, hzl]
              have hzr : VRels m (zeros te.zero ((k + 1) * te.zero.length)) (zeros te.zero ((k + 1) * te.zero.length)) := by
                by_cases h0 : (k + 1) * te.zero.length = 0
                · rw [h0]; exact .nil
                · exact flat0s_rel m (zeros_flat (ti_flat hte) _ (.inr (by
                    rcases Nat.eq_zero_or_pos te.zero.length with h3 | h3
                    · rw [h3] at h0; simp at h0
                    · exact h3)))
              obtain ⟨w', k1, k2, k3⟩ := writeC_sound n h h1 (h2.live (by omega)) hzr hw
              refine ⟨_, m, w', ?_, undef_rel m, k2, k3⟩
              simp [Builtin.clear_, ht, run_ul hti, hdd, hz1, hzz, k1]
              rfl
          · cases hr
        · cases hr
    · cases hr
  · cases hr

theorem hBuiltin_sound (h : Rel P m H w) {b : Builtin} {ts : Array TypeId} {vs vs' : List Value} {v : Value} {H' : Hp} {n' : Nat} (hv : VRels m vs vs') (hr : hBuiltin (envOf P) H n b ts (some vs) = some (v, H', n')) (hf : ∀ b, n ≤ b → b < n' → m b = none) (ty : TypeId) (cs : Array Bool) :
    ∃ v' m' w', (Go.builtin b ts ty cs vs'.toArray).run P w = .ok (.value v') w' ∧ VRel m' v v' ∧ Rel P m' H' w' ∧ Evol m H n w m' H' n' w' := by
  unfold hBuiltin at hr
  split at hr
  · split at hr
    · rename_i s x hs
      cases hs
      cases hv with
      | cons h1 h2 => cases h2 with
        | cons h2 h3 =>
          cases h3
          obtain ⟨v', m', w', g1, g2⟩ := appendV_sound h h1 h2 hr hf ty
          exact ⟨v', m', w', by simp [Go.builtin, g1], g2⟩
    · cases hr
  · split at hr
    · rename_i s x hs
      cases hs
      cases hv with
      | cons h1 h2 => cases h2 with
        | cons h2 h3 =>
          cases h3
          obtain ⟨v', m', w', g1, g2⟩ := hCopy_sound h h1 h2 hr ty
          exact ⟨v', m', w', by simp [Go.builtin, g1], g2⟩
    · cases hr
  · split at hr
    · rename_i x hs
      cases hs
      cases hv with
      | cons h1 h2 =>
        cases h2
        obtain ⟨v', m', w', g1, g2⟩ := hClear_sound h h1 hr ty
        exact ⟨v', m', w', by simp [Go.builtin, g1], g2⟩
    · cases hr
  · cases hr
end Go.Ab
