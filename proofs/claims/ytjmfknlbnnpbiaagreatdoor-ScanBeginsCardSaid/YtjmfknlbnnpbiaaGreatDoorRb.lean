/- The chapter's example, called in the model, gives true. -/
import Derived.Test.YtjmfknlbnnpbiaaGreatDoorK1
import Derived.Test.YtjmfknlbnnpbiaaGreatDoorK2
import Derived.Test.YtjmfknlbnnpbiaaGreatDoorRa
import Derived.Test.YtjmfknlbnnpbiaaGreatDoorAb4

set_option linter.all false

/- The answered call is the model's. -/
namespace Go.Ab
open Go.Proofs

theorem namesOk : NamesOk Tryz.prog := by
  have h : (Tryz.prog.funcs.toList.all fun f => decide (f.name ≠ "runtime.NumGoroutine")) = true := by kernel_rfl
  intro g fn hg
  rw [List.all_eq_true] at h
  have := h fn (by rw [← Array.getElem?_toList] at hg; exact List.mem_of_getElem? hg)
  exact of_decide_eq_true this
theorem mixedOk : Tryz.prog.follows .mixedOrders = true := by kernel_rfl
theorem noOrcOk : @OrcOk Tryz.prog noOrc := @OrcOk.mk Tryz.prog noOrc (fun h => by cases h)
theorem snd0 : Snd Tryz.prog (evc TE0 5000) := (@evc_snd Tryz.prog noOrc noOrcOk namesOk (@drawn_snd Tryz.prog noOrc noOrcOk namesOk mixedOk) 5000).1

theorem gchk1_get {H : Hp} {i : Nat} (h : gchk1 H i = true) : H.get i = some (.cells (gcells i) (gtype i) .ro) := by
  unfold gchk1 at h
  split at h
  · rename_i c e k hg
    simp only [Bool.and_eq_true] at h
    obtain ⟨h1, h2, h3⟩ := h
    rw [hg, veqs_eq h1, Nat.eq_of_beq_eq_true h2]
    cases k with
    | ro => rfl
    | _ => cases h3
  · cases h
theorem gchk_get {H : Hp} (h : gchk H = true) : GOk H := by
  unfold gchk at h
  simp only [Bool.and_eq_true] at h
  obtain ⟨h0, h1, h2, h3, h4, h5, h6⟩ := h
  intro i hi
  rcases (show i = 0 ∨ i = 1 ∨ i = 2 ∨ i = 3 ∨ i = 4 ∨ i = 5 ∨ i = 6 by omega) with rfl | rfl | rfl | rfl | rfl | rfl | rfl <;> exact gchk1_get ‹_›

theorem H0_get (b : Nat) : H0.get b = if b < 7 then some (.cells (gcells b) (gtype b) .ro) else none := by
  unfold H0
  simp only [T.get_put, T.get_leaf]
  by_cases h : b < 7
  · rcases (show b = 0 ∨ b = 1 ∨ b = 2 ∨ b = 3 ∨ b = 4 ∨ b = 5 ∨ b = 6 by omega) with rfl | rfl | rfl | rfl | rfl | rfl | rfl <;> rfl
  · rw [if_neg h]
    simp only [show b ≠ 0 by omega, show b ≠ 1 by omega, show b ≠ 2 by omega, show b ≠ 3 by omega, show b ≠ 4 by omega, show b ≠ 5 by omega, show b ≠ 6 by omega, if_false]
theorem gcells_scal {i : Nat} (hi : i < 7) : (gcells i).all scal = true := by
  rcases (show i = 0 ∨ i = 1 ∨ i = 2 ∨ i = 3 ∨ i = 4 ∨ i = 5 ∨ i = 6 by omega) with rfl | rfl | rfl | rfl | rfl | rfl | rfl <;> rfl

/-- Cells of plain things do not look at the map. -/
theorem BRel.scal {P : Program} {m m' : Mp} {cs : List Value} {e : TypeId} {k : Kind} {pl : Pl} {w : World} (hc : cs.all scal = true) (h : BRel P m (.cells cs e k) pl w) : BRel P m' (.cells cs e k) pl w := by
  obtain ⟨h1, ⟨arr, fz, h2, h3, h4, h5⟩, h6⟩ := h
  refine ⟨h1, ⟨arr, fz, h2, h3, h4, fun i v hi => ?_⟩, h6⟩
  obtain ⟨v', g1, g2⟩ := h5 i v hi
  rw [List.all_eq_true] at hc
  have hs := hc v (List.mem_of_getElem? hi)
  exact ⟨v, by rw [g1, scal_same g2 hs], scal_rel m' hs⟩

def mG (m : Mp) : Mp := fun b => if b < 7 then m b else none
theorem mG_rel {m : Mp} {H : Hp} {w : World} (hg : GOk H) (h : Rel Tryz.prog m H w) : Rel Tryz.prog (mG m) H0 w := by
  have hm : ∀ {b pl}, mG m b = some pl → b < 7 ∧ m b = some pl := fun {b pl} hb => by
    unfold mG at hb
    split at hb
    · exact ⟨‹_›, hb⟩
    · cases hb
  refine ⟨fun b X pl h1 h2 => ?_, fun b1 b2 X1 X2 p1 p2 h0 h1 h2 h3 h4 h5 h6 => ?_, fun g hgs => ?_, fun b pl hb => h.inb b pl (hm hb).2⟩
  · obtain ⟨h3, h4⟩ := hm h2
    rw [H0_get, if_pos h3] at h1
    cases h1
    exact BRel.scal (gcells_scal h3) (h.blk b _ pl (hg b h3) h4)
  · obtain ⟨h7, h8⟩ := hm h3
    rw [H0_get, if_pos h7] at h1
    cases h1
    cases h5
  · obtain ⟨pl, g1, g2⟩ := h.glob g hgs
    refine ⟨pl, ?_, g2⟩
    unfold mG
    rw [if_pos (by rw [gsz] at hgs; exact hgs)]
    exact g1
theorem H0_mut {m : Mp} {B : Nat} : ¬ Owned m H0 B := by
  rintro ⟨b, pl, X, _, h2, h3, _⟩
  rw [H0_get] at h2
  split at h2
  · cases h2; cases h3
  · cases h2

theorem teq_eq {a b : Value} (h : teq a b = true) : a = b := by
  unfold teq at h
  split at h
  · have := veqs_eq h
    rw [Array.toList_inj.1 this]
  · exact veq_eq h
theorem frEq_get {fr : Fr} : ∀ {l : List (Option Value)} {i : Nat}, frEq fr l i = true → ∀ j, j < l.length → fr.get (i + j) = l.getD j none
  | [], _, _, j, hj => by simp at hj
  | o :: r, i, h, j, hj => by
    unfold frEq at h
    rw [Bool.and_eq_true] at h
    cases j with
    | zero =>
      have h1 := h.1
      simp only [Nat.add_zero, List.getD_cons_zero]
      split at h1
      · rename_i a b ha; rw [ha, teq_eq h1]
      · rename_i ha; rw [ha]
      · cases h1
    | succ j =>
      have := frEq_get h.2 j (by simpa using hj)
      rw [show i + (j + 1) = i + 1 + j by omega, this, List.getD_cons_succ]
theorem frOfL_get : ∀ {l : List (Option Value)} {i : Nat} {fr : Fr} (j : Nat), (frOfL l i fr).get j = if i ≤ j ∧ j < i + l.length then (match l.getD (j - i) none with | some v => some v | none => fr.get j) else fr.get j
  | [], i, fr, j => by rw [if_neg (by intro h; simp at h; omega)]; rfl
  | none :: r, i, fr, j => by
    unfold frOfL
    rw [frOfL_get j]
    by_cases h : i + 1 ≤ j ∧ j < i + 1 + r.length
    · rw [if_pos h, if_pos (by simp; omega), show j - i = (j - (i + 1)) + 1 by omega, List.getD_cons_succ]
    · rw [if_neg h]
      split
      · rename_i h2
        simp at h2
        have : j = i := by omega
        subst this
        simp
      · rfl
  | some v :: r, i, fr, j => by
    unfold frOfL
    rw [frOfL_get j]
    by_cases h : i + 1 ≤ j ∧ j < i + 1 + r.length
    · rw [if_pos h, if_pos (by simp; omega), show j - i = (j - (i + 1)) + 1 by omega, List.getD_cons_succ]
      split
      · rfl
      · rw [T.get_put, if_neg (by omega)]
    · rw [if_neg h, T.get_put]
      by_cases h2 : j = i
      · subst h2
        rw [if_pos rfl, if_pos (by simp)]
        simp
      · rw [if_neg h2, if_neg (by simp; omega)]
theorem fr2_get (j : Nat) : fr2.get j = if j < 31 then frL.getD j none else none := by
  unfold fr2
  rw [frOfL_get]
  have : frL.length = 31 := rfl
  simp only [this, Nat.zero_le, true_and, Nat.zero_add, Nat.sub_zero, T.get_leaf]
  split
  · split <;> simp_all
  · rfl
theorem H2_get (b : Nat) : H2.get b = if b = 1873 then some (.cells exBytes 5 .grown) else H0.get b := by
  unfold H2
  rw [T.get_put]

theorem body_eq : Tryz.f9.body = some (.seq a0 (.seq a1 a2)) := by kernel_rfl
theorem res_eq : Tryz.f9.results.toList = [.tmp 0] := by kernel_rfl
theorem nt_eq : Tryz.f9.ntmps = 31 := by kernel_rfl
theorem results0 {fr : Fr} {H : Hp} {v : Value} (h : fr.get 0 = some v) : resOf (@envOf Tryz.prog noOrc) H fr Tryz.f9.results.toList = some [v] := by
  rw [res_eq]
  simp [resOf, h]

theorem hfn9 : Tryz.prog.funcs[9]? = some Tryz.f9 := by kernel_rfl
theorem runA : ∃ frA HA nA frB HB, evc TE0 5000 31 a0 .leaf H0 1000 = some (.normal, frA, HA, nA) ∧ evc TE0 5000 31 a1 frA HA nA = some (.normal, frB, HB, 1874) ∧ okA frB HB 1874 = true := by
  have hc := chkA_true
  unfold chkA at hc
  generalize evc TE0 5000 31 a0 .leaf H0 1000 = r at hc ⊢
  rcases r with _ | ⟨x, fr, H, n⟩
  · cases hc
  cases x with
  | normal =>
    dsimp only at hc
    generalize he2 : evc TE0 5000 31 a1 fr H n = r2 at hc
    rcases r2 with _ | ⟨x, fr1, H1, n1⟩
    · cases hc
    cases x with
    | normal =>
      dsimp only at hc
      have hn : n1 = 1874 := by
        unfold okA at hc
        rw [Bool.and_eq_true] at hc
        exact Nat.eq_of_beq_eq_true hc.1
      subst hn
      exact ⟨fr, H, n, fr1, H1, rfl, he2, hc⟩
    | exit id => cases hc
    | ret => cases hc
  | exit id => cases hc
  | ret => cases hc
theorem runB : ∃ frC HC nC, evc TE0 5000 31 a2 fr2 H2 1874 = some (.ret, frC, HC, nC) ∧ frC.get 0 = some (.bool true) := by
  have hc := chkB_true
  unfold chkB at hc
  generalize evc TE0 5000 31 a2 fr2 H2 1874 = r at hc ⊢
  rcases r with _ | ⟨x, fr, H, n⟩
  · cases hc
  cases x with
  | ret =>
    dsimp only at hc
    refine ⟨fr, H, n, rfl, ?_⟩
    split at hc
    · rename_i b hb
      subst hc
      exact hb
    · cases hc
  | exit id => cases hc
  | normal => cases hc
theorem okA_out {fr : Fr} {H : Hp} (hok : okA fr H 1874 = true) : frEq fr frL 0 = true ∧ gchk H = true ∧ H.get 1873 = some (.cells exBytes 5 .grown) := by
  unfold okA at hok
  simp only [Bool.and_eq_true] at hok
  obtain ⟨_, hfr, hgl, hst⟩ := hok
  have hst : H.get 1873 = some (.cells exBytes 5 .grown) := by
    split at hst
    · rename_i c e k hh
      simp only [Bool.and_eq_true] at hst
      rw [hh, veqs_eq hst.1, Nat.eq_of_beq_eq_true hst.2.1]
      have := hst.2.2
      cases k <;> first | rfl | cases this
    · cases hst
  exact ⟨hfr, hgl, hst⟩
/-- **The chapter's example, called in the model.** -/
theorem awake_calls {m : Mp} {H : Hp} {w : World} (hg : GOk H) (h : Rel Tryz.prog m H w) :
    CallsIn (W none) 0 Tryz.prog 9 #[] w fun e w' => ∃ v' m', e = .returned v' ∧ VRel m' (.bool true) v' ∧ Rel Tryz.prog m' H w' ∧ ∀ n, Evol m H n w m' H n w' := by
  letI := noOrc
  haveI := noOrcOk
  obtain ⟨frA, HA, nA, frB, HB, hA, hB, hok⟩ := runA
  obtain ⟨frC, HC, nC, hC, hv⟩ := runB
  obtain ⟨hfr, hgl, hst⟩ := okA_out hok
  have hglb := gchk_get hgl
  have hsub : ∀ b X, H2.get b = some X → HB.get b = some X := by
    intro b X hb
    rw [H2_get] at hb
    split at hb
    · rename_i e; subst e; rw [hst, hb]
    · rw [H0_get] at hb
      split at hb
      · rename_i hb7; rw [hglb b hb7, hb]
      · cases hb
  have h0 := mG_rel hg h
  have hf0 : ∀ b, 7 ≤ b → mG m b = none := fun b hb => by unfold mG; rw [if_neg (by omega)]
  obtain ⟨lA, sA⟩ := snd0 none 31 a0 .leaf H0 1000 _ _ _ _ hA
  obtain ⟨lB, sB⟩ := snd0 none 31 a1 frA HA nA _ _ _ _ hB
  obtain ⟨lC, sC⟩ := snd0 none 31 a2 fr2 H2 1874 _ _ _ _ hC
  have hargs : FrRel (mG m) 31 .leaf (#[] ++ Array.replicate (Tryz.f9.ntmps - (#[] : Array Value).size) undef) := by
    have := args_rel (m := mG m) (args := []) (args' := []) .nil (k := Tryz.f9.ntmps) (Nat.zero_le _)
    rw [nt_eq] at this ⊢
    exact this
  refine callsIn_of_wp_marks hfn9 body_eq trivial ?_
  have key : ∀ e a' w', Ends Tryz.prog (mG m) H0 1000 w 31 { tmps := #[] ++ Array.replicate (Tryz.f9.ntmps - (#[] : Array Value).size) undef, defers := [] } .ret frC HC nC e a' w' →
      LeavesInM (W none) 0 Tryz.prog Tryz.f9 a'.tmps (fun e w' => ∃ v' m', e = .returned v' ∧ VRel m' (.bool true) v' ∧ Rel Tryz.prog m' H w' ∧ ∀ n, Evol m H n w m' H n w') a'.defers .returning w' := by
    rintro e a' w' ⟨_, m', Ds, g1, g2, g3, g4, g5⟩
    rw [g4, List.append_nil]
    refine leaves_marks (v' := undef) Ds w' g5 g1 g2 fun w2 k1 k2 => ?_
    obtain ⟨v', k3, k4⟩ := @results_sound Tryz.prog noOrc _ _ _ _ _ _ k1 g3 _ _ (results0 hv)
    have hfr : ∀ B, B < w.heap.size → w2.heap[B]? = w.heap[B]? := fun B hB => k2.frame B hB H0_mut
    have hk : v' = .bool true := scal_same (v := .bool true) k4 rfl
    subst hk
    refine ⟨_, k3, _, m, rfl, .bool _, h.aside (fun b pl X q1 _ _ => hfr _ (h.inb b pl q1)) k2.size, fun n => ?_⟩
    exact { le := Mp.le.refl m, nle := Nat.le_refl _, fresh := fun b h1 h2 => by omega, new := fun _ _ h => .inl h, size := k2.size, frame := fun B hB _ => hfr B hB, keep := fun b X h1 h2 => .inr ⟨X, h1, h2⟩, loops := fun b L h _ => ⟨L, h⟩, aside := fun _ _ _ => rfl, os := k2.os, tape := k2.tape, output := k2.output }
  have aA := sA (mG m) w { tmps := #[] ++ Array.replicate (Tryz.f9.ntmps - (#[] : Array Value).size) undef, defers := [] } h0 hargs (fun b h1 _ => hf0 b (by omega)) (fun _ h => by cases h)
  have run : (Code.seq a0 (.seq a1 a2)).wpIn (W none) 0 Tryz.prog (Ends Tryz.prog (mG m) H0 1000 w 31 { tmps := #[] ++ Array.replicate (Tryz.f9.ntmps - (#[] : Array Value).size) undef, defers := [] } .ret frC HC nC) { tmps := #[] ++ Array.replicate (Tryz.f9.ntmps - (#[] : Array Value).size) undef, defers := [] } w := by
    refine wpIn_seq (wpIn_mono aA ?_)
    rintro e1 b1 w1 ⟨rfl, m1, D1, p1, p2, p3, p4, p5⟩
    have n1 : ∀ b, nA ≤ b → m1 b = none := fun b hb => by
      cases hm1 : m1 b with
      | none => rfl
      | some pl =>
        rcases p2.new b pl hm1 with q | ⟨_, _, q, _⟩
        · rw [hf0 b (by omega)] at q; cases q
        · omega
    refine wpIn_seq (wpIn_mono (sB m1 w1 b1 p1 p3 (fun b hb _ => n1 b hb) (fun _ h => by cases h)) ?_)
    intro e2 b2 w2 q
    obtain ⟨q1, mx, Dx, q2, q3, q4, q5, q6⟩ := Mid.then ⟨p1, p2, p3, p4, p5⟩ q
    subst q1
    have n2 : ∀ b, 1874 ≤ b → mx b = none := fun b hb => by
      cases hm1 : mx b with
      | none => rfl
      | some pl =>
        rcases q3.new b pl hm1 with r | ⟨_, _, r, _⟩
        · rw [hf0 b (by omega)] at r; cases r
        · omega
    have r2 : Rel Tryz.prog mx H2 w2 := q2.sub hsub
    have v2 : Evol (mG m) H0 1000 w mx H2 1874 w2 := { q3 with
      keep := fun b X z1 z2 => q3.keep b X (hsub b X z1) z2
      loops := fun b L z1 _ => by rw [H0_get] at z1; split at z1 <;> cases z1
      aside := fun b z1 z2 => by rw [H2_get, if_neg (by omega)] }
    have f2 : FrRel mx 31 fr2 b2.tmps := by
      refine ⟨q4.size, fun i => ?_⟩
      have h1 := q4.at_ i
      rw [fr2_get]
      split
      · rename_i hi
        have h2 := frEq_get hfr i hi
        rw [Nat.zero_add] at h2
        rw [← h2]
        exact h1
      · rename_i hi
        have : b2.tmps.getD i undef = undef := by
          rw [Array.getD_eq_getD_getElem?, Array.getElem?_eq_none (by rw [q4.size]; omega)]
          rfl
        rw [this]
        exact undef_rel mx
    refine wpIn_mono (sC mx w2 b2 r2 f2 (fun b hb _ => n2 b hb) (fun _ h => by cases h)) ?_
    intro e3 b3 w3 q
    exact Mid.then ⟨r2, v2, f2, q5, q6⟩ q
  refine wpIn_mono run ?_
  intro e a' w' q
  have := key e a' w' q
  rw [q.ex]
  exact this
end Go.Ab
