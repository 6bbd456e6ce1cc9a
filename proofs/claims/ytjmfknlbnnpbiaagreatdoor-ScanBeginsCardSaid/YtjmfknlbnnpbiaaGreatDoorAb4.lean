/- The evaluator's drawn regions are the model's, under any order. -/
import Derived.Test.YtjmfknlbnnpbiaaGreatDoorAb1
import Derived.Test.YtjmfknlbnnpbiaaGreatDoorAb3

set_option linter.all false

/- For regions that draw: what an operation looks at; kinds of operations; values told equal. -/
namespace Go.Ab
variable {H : Hp} {fr fr2 : Fr} {n : Nat} {E : Env}

theorem lift_some2 {v : Option Value} {x : Value} {H H' : Hp} {n n' : Nat} (h : lift v H n = some (x, H', n')) : v = some x ∧ H' = H ∧ n' = n := by
  cases v with
  | none => cases h
  | some v => cases h; exact ⟨rfl, rfl, rfl⟩

/-- Two frames agree on what these operands name. -/
def Agree (fr fr2 : Fr) (xs : List Operand) : Prop := ∀ t, Operand.tmp t ∈ xs → fr.get t = fr2.get t

theorem Agree.opv {x : Operand} {xs : List Operand} (h : Agree fr fr2 xs) (hx : x ∈ xs) : opv E fr x = opv E fr2 x := by
  cases x with
  | tmp t => simp only [Ab.opv]; rw [h t hx]
  | _ => rfl

theorem Agree.opvs {xs : List Operand} (h : Agree fr fr2 xs) : ∀ {ys : List Operand}, (∀ y ∈ ys, y ∈ xs) → opvs E fr ys = opvs E fr2 ys
  | [], _ => rfl
  | y :: ys, hy => by
    simp only [Ab.opvs]
    rw [h.opv (hy y (List.mem_cons_self ..)), h.opvs fun z hz => hy z (List.mem_cons_of_mem _ hz)]

theorem Agree.opvp {xs : List Operand} (h : Agree fr fr2 xs) : ∀ {ys : List (Nat × Operand)}, (∀ y ∈ ys, y.2 ∈ xs) → opvp E fr ys = opvp E fr2 ys
  | [], _ => rfl
  | (i, y) :: ys, hy => by
    simp only [Ab.opvp]
    rw [h.opv (hy (i, y) (List.mem_cons_self ..)), h.opvp fun z hz => hy z (List.mem_cons_of_mem _ hz)]

theorem Agree.oopv {xs : List Operand} (h : Agree fr fr2 xs) {o : Option Operand} (ho : ∀ y, o = some y → y ∈ xs) : oopv E fr o = oopv E fr2 o := by
  cases o with
  | none => rfl
  | some y => simp only [Ab.oopv]; rw [h.opv (ho y rfl)]

theorem light_congr {o : Op} (h : Agree fr fr2 o.operands.toList) : light o E H fr = light o E H fr2 := by
  cases o <;> simp only [light] <;> try rfl
  all_goals simp only [Op.operands] at h
  case move => exact h.opv (by simp)
  case assign => exact h.opv (by simp)
  case pick c a b => rw [h.opv (x := c) (by simp), h.opv (x := a) (by simp), h.opv (x := b) (by simp)]
  case build t ps => rw [h.opvp fun y hy => List.mem_map.2 ⟨y, hy, rfl⟩]
  case load t a => rw [h.opv (x := a) (by simp)]
  case nilCheck a => rw [h.opv (x := a) (by simp)]
  case binOp op t x y _ => rw [h.opv (x := x) (by simp), h.opv (x := y) (by simp)]
  case unOp a => rw [h.opv (x := a) (by simp)]
  case convert a => rw [h.opv (x := a) (by simp)]
  case makeFunc fn a b =>
    unfold lFunc
    rw [h.opvs fun y hy => by simp at hy ⊢; exact .inl hy, h.opvs fun y hy => by simp at hy ⊢; exact .inr hy]
  case slice t x lo hi mx =>
    unfold lSlice3
    rw [h.opv (x := x) (by simp), h.oopv (o := lo) fun y hy => by subst hy; simp, h.oopv (o := hi) fun y hy => by subst hy; simp]
  case fieldAddr s x f => rw [h.opv (x := x) (by simp)]
  case indexAddr t x i => rw [h.opv (x := x) (by simp), h.opv (x := i) (by simp)]
  case index t x i => rw [h.opv (x := x) (by simp), h.opv (x := i) (by simp)]
  case extract t i => rw [h.opv (x := t) (by simp)]
  case call c =>
    unfold lCall
    split
    · rename_i b hc
      rw [h.opvs fun y hy => by simp [Call.operands, hc, hy]]
    · rfl

theorem oper_congr {ev : Ev} {o : Op} (h : Agree fr fr2 o.operands.toList) : oper o E ev fr H n = oper o E ev fr2 H n := by
  have hl := light_congr (E := E) (H := H) h
  cases o <;> simp only [oper] <;> first | rw [hl] | skip
  all_goals simp only [Op.operands] at h
  case move a => rw [h.opv (x := a) (by simp)]
  case assign a => rw [h.opv (x := a) (by simp)]
  case box e a => rw [h.opv (x := a) (by simp)]
  case buildSlice t l ps => rw [h.opvp fun y hy => List.mem_map.2 ⟨y, hy, rfl⟩]
  case load t a => rw [h.opv (x := a) (by simp)]
  case store t a b => rw [h.opv (x := a) (by simp), h.opv (x := b) (by simp)]
  case makeSlice t a b => rw [h.opv (x := a) (by simp), h.opv (x := b) (by simp)]
  case fieldAddr s x f => rw [h.opv (x := x) (by simp)]
  case binOp op t x y _ => rw [h.opv (x := x) (by simp), h.opv (x := y) (by simp)]
  case convert s d a => simp only [cConv]; rw [h.opv (x := a) (by simp)]
  case call c =>
    unfold cCall
    split
    · rename_i f hc
      rw [h.opv (x := f) (by simp [Call.operands, hc]), h.opvs fun y hy => by simp [Call.operands, hc, hy]]
    · rename_i b hc
      rw [h.opvs fun y hy => by simp [Call.operands, hc, hy]]
    · rfl

/-! Values told equal. -/
theorem veq0_eq {a b : Value} (h : veq0 a b = true) : a = b := by
  unfold veq0 at h
  split at h <;> simp_all

theorem veqs_eq : ∀ {as bs : List Value}, veqs as bs = true → as = bs
  | [], [], _ => rfl
  | a :: as, b :: bs, h => by
    simp only [veqs, Bool.and_eq_true] at h
    rw [veq0_eq h.1, veqs_eq h.2]
  | [], _ :: _, h => by cases h
  | _ :: _, [], h => by cases h

theorem veq_eq {a b : Value} (h : veq a b = true) : a = b := by
  unfold veq at h
  split at h
  · have := veqs_eq h
    congr 1
    exact Array.toList_inj.1 this
  · simp only [Bool.and_eq_true, decide_eq_true_eq] at h
    obtain ⟨⟨h1, h2⟩, h3⟩ := h
    have h2 := Array.toList_inj.1 (veqs_eq h2)
    have h3 := Array.toList_inj.1 (veqs_eq h3)
    subst h1 h2 h3
    rfl
  · exact veq0_eq h

/-! Kinds of operations. -/
theorem newB_form {b : Blk} {u v : Value} {H' : Hp} {n' : Nat} (h : newB H n b u = some (v, H', n')) : u = v ∧ H' = H.put n b ∧ n' = n + 1 := by
  cases h; exact ⟨rfl, rfl, rfl⟩

/-- One that only makes a block makes the same at every heap. -/
theorem fresh_form {ev : Ev} {o : Op} (hfr : isFresh E o = true) {v : Value} {H' : Hp} {n' : Nat} (h : oper o E ev fr H n = some (v, H', n')) (hn : n' = n + 1) :
    ∃ X, H' = H.put n X ∧ ∀ G, oper o E ev fr G n = some (v, G.put n X, n + 1) := by
  cases o <;> simp only [isFresh] at hfr <;> try (cases hfr; done)
  case alloc e =>
    simp only [oper, hAlloc] at h ⊢
    split at h
    · cases h; exact ⟨_, rfl, fun G => rfl⟩
    · cases h
  case box e x =>
    simp only [oper, hBox] at h ⊢
    split at h
    · cases h; exact ⟨_, rfl, fun G => rfl⟩
    · cases h
  case buildSlice t l ps =>
    simp only [oper, hBuildSlice] at h ⊢
    split at h
    · rename_i e te qs h1 h2
      obtain ⟨hc, hr⟩ := cnd_some h
      clear h
      split at hr
      · rename_i cs hcs
        cases hr
        refine ⟨_, rfl, fun G => ?_⟩
        rw [hc]
        rfl
      · cases hr
    · cases h
  case makeSlice t a b =>
    simp only [oper, hMake] at h ⊢
    split at h
    · obtain ⟨hc, hr⟩ := cnd_some h
      cases hr
      refine ⟨_, rfl, fun G => ?_⟩
      rw [hc]
      rfl
    · cases h
  case convert s d x =>
    simp only [oper, cConv, convHeavy, hfr, Bool.true_or, cnd_true] at h ⊢
    unfold hConv at h ⊢
    split at h
    · split at h
      · obtain ⟨hc, hr⟩ := cnd_some h
        cases hr
        refine ⟨_, rfl, fun G => ?_⟩
        rw [hc]
        rfl
      · cases h
    · split at h
      · obtain ⟨hc, hr⟩ := cnd_some h
        cases hr
        omega
      · cases h
    · cases h

/-- One that neither makes a block nor turns memory. -/
theorem calm_form {ev : Ev} {o : Op} (hf : isFresh E o = false) (hh : isHeavy E o = false) {v : Value} {H' : Hp} {n' : Nat} (h : oper o E ev fr H n = some (v, H', n')) :
    H' = H ∧ n' = n ∧ light o E H fr = some v ∧ ∀ (G : Hp) (k : Nat) (u : Value), light o E G fr = some u → oper o E ev fr G k = some (u, G, k) := by
  have key : oper o E ev fr H n = lift (light o E H fr) H n → (∀ (G : Hp) (k : Nat), oper o E ev fr G k = lift (light o E G fr) G k) → H' = H ∧ n' = n ∧ light o E H fr = some v ∧ ∀ (G : Hp) (k : Nat) (u : Value), light o E G fr = some u → oper o E ev fr G k = some (u, G, k) := by
    intro h1 h2
    rw [h1] at h
    obtain ⟨g1, g2, g3⟩ := lift_some2 h
    exact ⟨g2, g3, g1, fun G k u hu => by rw [h2, hu]; rfl⟩
  cases o <;> first | exact key rfl (fun _ _ => rfl) | (simp only [isFresh] at hf; cases hf; done) | (simp only [isHeavy] at hh; cases hh; done) | skip
  case convert s d x =>
    simp only [isFresh] at hf
    simp only [isHeavy, hf, Bool.not_false, Bool.true_and] at hh
    have e : convHeavy E s d = false := by simp only [convHeavy, hf, hh, Bool.or_self]
    exact key (by simp only [oper, cConv, e, cnd_false, light]) (fun _ _ => by simp only [oper, cConv, e, cnd_false, light])
  case call c =>
    simp only [isHeavy] at hh
    split at hh
    · rename_i b hc
      have hb : isLightB b = true := by simpa using hh
      exact key (by simp only [oper, cCall, hc, hb, cnd_true, light, lCall]) (fun _ _ => by simp only [oper, cCall, hc, hb, cnd_true, light, lCall])
    · cases hh

/-- One that does not look at memory. -/
theorem blind {o : Op} (hh : isHeavy E o = false) (hr : isRead o = false) (G : Hp) : light o E G fr = light o E H fr := by
  cases o <;> simp only [light] <;> first | (simp only [isRead] at hr; cases hr; done) | skip
  case call c =>
    unfold lCall
    split
    · rename_i b hc
      simp only [isRead, hc] at hr
      unfold lBuiltin
      cases b <;> first | rfl | (cases hr; done)
    · rfl
end Go.Ab

/- For regions that draw: what is known of a plan and of a trace. -/
namespace Go.Ab
variable {E : Env} {ops : Array Oper} {ev : Ev} {nt : Nat}

/-- What is known of an operation in its place; pre: what stands ahead. -/
structure PoOk (ops : Array Oper) (pre : PO → Prop) (x : PO) : Prop where
  at_ : ops[x.i]? = some x.o
  back : ∀ e ∈ x.o.after.toList, edgeOn e = true → ∃ y, pre y ∧ y.i = e.on
  bits : ∀ b, x.p.testBit b = true → ∃ e ∈ x.o.after.toList, edgeOn e = true ∧ (e.on = b ∨ ∃ y, pre y ∧ y.i = e.on ∧ y.p.testBit b = true)

theorem findP_bits : ∀ {acc : List PO} {i b : Nat}, (findP acc i).testBit b = true → ∃ y, y ∈ acc ∧ y.i = i ∧ y.p.testBit b = true
  | [], i, b, h => by simp [findP] at h
  | y :: acc, i, b, h => by
    simp only [findP, cnd_eq] at h
    split at h
    · rename_i hi
      exact ⟨y, List.mem_cons_self .., Nat.eq_of_beq_eq_true hi, h⟩
    · obtain ⟨z, h1, h2⟩ := findP_bits h
      exact ⟨z, List.mem_cons_of_mem _ h1, h2⟩

theorem shift_bits {i b : Nat} : (1 <<< i).testBit b = true ↔ i = b := by
  rw [Nat.one_shiftLeft, Nat.testBit_two_pow]; simp

theorem edgeMask_bits {acc : List PO} : ∀ {es : List Edge} {b : Nat}, (edgeMask acc es).testBit b = true → ∃ e ∈ es, edgeOn e = true ∧ (e.on = b ∨ ∃ y, y ∈ acc ∧ y.i = e.on ∧ y.p.testBit b = true)
  | [], b, h => by simp [edgeMask] at h
  | e :: es, b, h => by
    simp only [edgeMask, cnd_eq] at h
    split at h
    · rename_i he
      rw [Nat.testBit_or, Nat.testBit_or, Bool.or_eq_true, Bool.or_eq_true] at h
      rcases h with (h | h) | h
      · exact ⟨e, List.mem_cons_self .., he, .inl (shift_bits.1 h)⟩
      · exact ⟨e, List.mem_cons_self .., he, .inr (findP_bits h)⟩
      · obtain ⟨e', h1, h2⟩ := edgeMask_bits h
        exact ⟨e', List.mem_cons_of_mem _ h1, h2⟩
    · obtain ⟨e', h1, h2⟩ := edgeMask_bits h
      exact ⟨e', List.mem_cons_of_mem _ h1, h2⟩

theorem edgesIn_all {m : Nat} : ∀ {es : List Edge}, edgesIn m es = true → ∀ e ∈ es, edgeOn e = true → m.testBit e.on = true
  | [], _, e, he, _ => by cases he
  | e0 :: es, h, e, he, ho => by
    simp only [edgesIn, Bool.and_eq_true, cnd_eq] at h
    rcases List.mem_cons.1 he with rfl | he
    · have := h.1
      rwa [if_pos ho] at this
    · exact edgesIn_all h.2 e he ho

/-- In every place of the list. -/
def Good (ops : Array Oper) : List PO → List PO → Prop
  | _, [] => True
  | pre, x :: xs => PoOk ops (· ∈ pre) x ∧ Good ops (x :: pre) xs

theorem mkPO_good : ∀ (is : List Nat) {acc : List PO} {m : Nat} {L : List PO}, mkPO ops is acc m = some L → (∀ b, m.testBit b = true → ∃ y ∈ acc, y.i = b) → ∃ L', L = acc.reverse ++ L' ∧ Good ops acc L'
  | [], acc, m, L, h, _ => by
    cases h
    exact ⟨[], by simp, trivial⟩
  | i :: is, acc, m, L, h, hm => by
    simp only [mkPO] at h
    split at h
    · rename_i o ho
      obtain ⟨he, hr⟩ := cnd_some h
      clear h
      obtain ⟨L', h1, h2⟩ := mkPO_good is hr (fun b hb => by
        rw [Nat.testBit_or, Bool.or_eq_true] at hb
        rcases hb with hb | hb
        · obtain ⟨y, g1, g2⟩ := hm b hb
          exact ⟨y, List.mem_cons_of_mem _ g1, g2⟩
        · exact ⟨_, List.mem_cons_self .., shift_bits.1 hb⟩)
      refine ⟨⟨i, o, edgeMask acc o.after.toList⟩ :: L', by rw [h1]; simp, ⟨ho, fun e h3 h4 => ?_, fun b hb => edgeMask_bits hb⟩, h2⟩
      obtain ⟨y, g1, g2⟩ := hm _ (edgesIn_all he e h3 h4)
      exact ⟨y, g1, g2⟩
    · cases h

theorem Good.at_ : ∀ {L pre : List PO}, Good ops pre L → ∀ {j : Nat} {x : PO}, L[j]? = some x → PoOk ops (fun y => y ∈ pre ∨ ∃ j', j' < j ∧ L[j']? = some y) x
  | [], _, _, j, x, h => by simp at h
  | z :: L, pre, hg, 0, x, h => by
    simp only [List.getElem?_cons_zero, Option.some.injEq] at h
    subst h
    obtain ⟨h1, h2, h3⟩ := hg.1
    exact ⟨h1, fun e a b => let ⟨y, c, d⟩ := h2 e a b; ⟨y, .inl c, d⟩, fun b hb => let ⟨e, c1, c2, c3⟩ := h3 b hb; ⟨e, c1, c2, c3.imp id fun ⟨y, d1, d2⟩ => ⟨y, .inl d1, d2⟩⟩⟩
  | z :: L, pre, hg, j + 1, x, h => by
    simp only [List.getElem?_cons_succ] at h
    have key : ∀ y, (y ∈ z :: pre ∨ ∃ j', j' < j ∧ L[j']? = some y) → (y ∈ pre ∨ ∃ j', j' < j + 1 ∧ (z :: L)[j']? = some y) := by
      rintro y (hy | ⟨j', h4, h5⟩)
      · rcases List.mem_cons.1 hy with rfl | hy
        · exact .inr ⟨0, by omega, rfl⟩
        · exact .inl hy
      · exact .inr ⟨j' + 1, by omega, by simpa using h5⟩
    obtain ⟨h1, h2, h3⟩ := Good.at_ hg.2 h
    exact ⟨h1, fun e a b => let ⟨y, c, d⟩ := h2 e a b; ⟨y, key y c, d⟩, fun b hb => let ⟨e, c1, c2, c3⟩ := h3 b hb; ⟨e, c1, c2, c3.imp id fun ⟨y, d1, d2⟩ => ⟨y, key y d1, d2⟩⟩⟩

theorem pairsOk_all {x : PO} : ∀ {ys : List PO}, pairsOk E ops x ys = true → ∀ y ∈ ys, pairOk E ops x y = true
  | [], _, y, hy => by cases hy
  | z :: ys, h, y, hy => by
    simp only [pairsOk, Bool.and_eq_true] at h
    rcases List.mem_cons.1 hy with rfl | hy
    · exact h.1
    · exact pairsOk_all h.2 y hy

theorem allPairs_at : ∀ {L : List PO}, allPairs E ops L = true → (∀ {j : Nat} {x : PO}, L[j]? = some x → opFine x.o.op = true) ∧ ∀ {j1 j2 : Nat} {x y : PO}, j1 < j2 → L[j1]? = some x → L[j2]? = some y → pairOk E ops x y = true
  | [], _ => ⟨fun h => by simp at h, fun _ h => by simp at h⟩
  | z :: L, h => by
    simp only [allPairs, Bool.and_eq_true] at h
    obtain ⟨⟨h1, h2⟩, h3⟩ := h
    obtain ⟨h4, h5⟩ := allPairs_at h3
    refine ⟨fun {j x} hj => ?_, fun {j1 j2 x y} hlt g1 g2 => ?_⟩
    · cases j with
      | zero => simp only [List.getElem?_cons_zero, Option.some.injEq] at hj; subst hj; exact h1
      | succ j => exact h4 (by simpa using hj)
    · cases j2 with
      | zero => omega
      | succ j2 =>
        have g2 : L[j2]? = some y := by simpa using g2
        cases j1 with
        | zero =>
          simp only [List.getElem?_cons_zero, Option.some.injEq] at g1
          subst g1
          exact pairsOk_all h2 y (List.mem_of_getElem? g2)
        | succ j1 => exact h5 (j1 := j1) (j2 := j2) (by omega) (by simpa using g1) g2

structure PlanOk (E : Env) (ops : Array Oper) (L : List PO) : Prop where
  po : ∀ {j : Nat} {x : PO}, L[j]? = some x → PoOk ops (fun y => ∃ j', j' < j ∧ L[j']? = some y) x
  all : ∀ i, i < ops.size → ∃ (j : Nat) (x : PO), L[j]? = some x ∧ x.i = i
  fine : ∀ {j : Nat} {x : PO}, L[j]? = some x → opFine x.o.op = true
  pair : ∀ {j1 j2 : Nat} {x y : PO}, j1 < j2 → L[j1]? = some x → L[j2]? = some y → pairOk E ops x y = true

theorem plan_ok {L : List PO} (h : plan E ops = some L) : PlanOk E ops L := by
  unfold plan at h
  split at h
  · rename_i l hl
    obtain ⟨hc, hr⟩ := cnd_some h
    cases hr
    clear h
    simp only [Bool.and_eq_true] at hc
    obtain ⟨L', h1, h2⟩ := mkPO_good _ hl (fun b hb => by simp at hb)
    simp only [List.reverse_nil, List.nil_append] at h1
    subst h1
    obtain ⟨h3, h4⟩ := allPairs_at hc.2
    refine ⟨fun {j x} hj => ?_, fun i hi => ?_, h3, h4⟩
    · obtain ⟨g1, g2, g3⟩ := h2.at_ hj
      exact ⟨g1, fun e a b => let ⟨y, c, d⟩ := g2 e a b; ⟨y, c.resolve_left (by simp), d⟩, fun b hb => let ⟨e, c1, c2, c3⟩ := g3 b hb; ⟨e, c1, c2, c3.imp id fun ⟨y, d1, d2⟩ => ⟨y, d1.resolve_left (by simp), d2⟩⟩⟩
    · have := hc.1
      simp only [covers, List.all_eq_true, List.mem_range, List.any_eq_true] at this
      obtain ⟨x, hx, he⟩ := this i hi
      obtain ⟨j, hj⟩ := List.mem_iff_getElem?.1 hx
      exact ⟨j, x, hj, Nat.eq_of_beq_eq_true he⟩
  · cases h

/-! A trace. -/
inductive StepOk (E : Env) (ev : Ev) (nt : Nat) (ops : Array Oper) (s : St) (x : PO) (s' : St) : Prop
  | done {v : Value} (hw : wanted ops s.fr x.o = true) (hv : s.v = some v) (ho : oper x.o.op E ev s.fr s.H s.n = some (v, s'.H, s'.n)) (hp : put? nt s.fr x.o.dst v = some s'.fr) (hf : isFresh E x.o.op = true → s'.n = s.n + 1)
  | left (hw : wanted ops s.fr x.o = false) (hv : s.v = none) (hp : put? nt s.fr x.o.dst undef = some s'.fr) (hH : s'.H = s.H) (hn : s'.n = s.n)

def stOf (tr : List St) (last : St) (j : Nat) : St := (tr[j]?).getD last

theorem traceF_ok : ∀ (L : List PO) {fr : Fr} {H : Hp} {n : Nat} {tr : List St} {frE : Fr} {HE : Hp} {nE : Nat}, traceF E ev nt ops L fr H n = some (tr, frE, HE, nE) →
    tr.length = L.length ∧ (stOf tr ⟨frE, HE, nE, none⟩ 0).fr = fr ∧ (stOf tr ⟨frE, HE, nE, none⟩ 0).H = H ∧ (stOf tr ⟨frE, HE, nE, none⟩ 0).n = n ∧
    ∀ {j : Nat} {x : PO}, L[j]? = some x → StepOk E ev nt ops (stOf tr ⟨frE, HE, nE, none⟩ j) x (stOf tr ⟨frE, HE, nE, none⟩ (j + 1))
  | [], fr, H, n, tr, frE, HE, nE, h => by
    cases h
    exact ⟨rfl, rfl, rfl, rfl, fun h => by simp at h⟩
  | x :: L, fr, H, n, tr, frE, HE, nE, h => by
    simp only [traceF] at h
    rw [cnd_eq] at h
    split at h
    · rename_i hw
      split at h
      · rename_i v H' n' ho
        split at h
        · rename_i fr' hp
          obtain ⟨hf, h2⟩ := cnd_some h
          clear h
          split at h2
          · rename_i l r ht
            cases h2
            obtain ⟨g1, g2, g3, g4, g5⟩ := traceF_ok L ht
            refine ⟨by simp [g1], rfl, rfl, rfl, fun {j y} hj => ?_⟩
            cases j with
            | zero =>
              simp only [List.getElem?_cons_zero, Option.some.injEq] at hj
              subst hj
              refine .done (v := v) hw rfl ?_ ?_ ?_
              · show oper x.o.op E ev fr H n = some (v, (stOf l _ 0).H, (stOf l _ 0).n)
                rw [g3, g4]; exact ho
              · show put? nt fr x.o.dst v = some (stOf l _ 0).fr
                rw [g2]; exact hp
              · intro hfr
                rw [hfr, cnd_true] at hf
                show (stOf l _ 0).n = n + 1
                rw [g4]
                exact Nat.eq_of_beq_eq_true hf
            | succ j => exact g5 (by simpa using hj)
          · cases h2
        · cases h
      · cases h
    · rename_i hw
      split at h
      · rename_i fr' hp
        split at h
        · rename_i l r ht
          cases h
          obtain ⟨g1, g2, g3, g4, g5⟩ := traceF_ok L ht
          refine ⟨by simp [g1], rfl, rfl, rfl, fun {j y} hj => ?_⟩
          cases j with
          | zero =>
            simp only [List.getElem?_cons_zero, Option.some.injEq] at hj
            subst hj
            refine .left (show wanted ops fr x.o = false by simpa using hw) rfl ?_ ?_ ?_
            · show put? nt fr x.o.dst undef = some (stOf l _ 0).fr
              rw [g2]; exact hp
            · exact g3
            · exact g4
          | succ j => exact g5 (by simpa using hj)
        · cases h
      · cases h

/-! What is read. -/
theorem mayAt_of {x : PO} {h : Nat} : ∀ {L : List PO} {k : Nat}, (∀ (j : Nat) (y : PO), L[j]? = some y → isHeavy E y.o.op = true → (k + j < h → y.p.testBit x.i = false) ∧ (h ≤ k + j → x.p.testBit y.i = false)) → mayAt E x h L k = true
  | [], _, _ => rfl
  | y :: L, k, hh => by
    have ih := mayAt_of (x := x) (h := h) (L := L) (k := k + 1) fun j z hz hv => by
      have := hh (j + 1) z (by simpa using hz) hv
      rwa [show k + (j + 1) = k + 1 + j by omega] at this
    simp only [mayAt]
    rw [ih]
    cases hv : isHeavy E y.o.op with
    | false => simp
    | true =>
      have := hh 0 y rfl hv
      simp only [Nat.add_zero] at this
      rw [cnd_true, Bool.and_true]
      by_cases hlt : k < h
      · rw [show Nat.blt k h = true from Nat.ble_eq_true_of_le hlt, cnd_true, this.1 hlt]; rfl
      · rw [show Nat.blt k h = false from by
          cases e : Nat.blt k h with
          | false => rfl
          | true => exact absurd (Nat.le_of_ble_eq_true e) hlt, cnd_false, this.2 (by omega)]; rfl

theorem readAt_at {L0 : List PO} {x : PO} {s : St} {HE : Hp} {frE : Fr} {nE : Nat} : ∀ {L : List PO} {tr : List St} {h : Nat}, tr.length = L.length → readAt E L0 x s HE L tr h = true →
    ∀ j, j ≤ L.length → (∀ y, L[j]? = some y → isHeavy E y.o.op = true) → mayAt E x (h + j) L0 0 = true → oveq (light x.o.op E (stOf tr ⟨frE, HE, nE, none⟩ j).H s.fr) s.v = true
  | [], [], h, _, hr, j, hj, _, hm => by
    have : j = 0 := by simpa using hj
    subst this
    simp only [readAt] at hr
    rw [Nat.add_zero] at hm
    rw [hm, cnd_true] at hr
    exact hr
  | y :: L, z :: tr, h, hl, hr, j, hj, hy, hm => by
    simp only [readAt, Bool.and_eq_true] at hr
    cases j with
    | zero =>
      have h1 := hy y rfl
      rw [Nat.add_zero] at hm
      rw [h1, hm, Bool.true_and, cnd_true] at hr
      exact hr.1
    | succ j =>
      exact readAt_at (by simpa using hl) hr.2 j (by simpa using hj) (fun y hy' => hy y (by simpa using hy')) (by rwa [show h + 1 + j = h + (j + 1) by omega])

theorem readsAll_at {L0 : List PO} {tr0 : List St} {HE : Hp} : ∀ {L : List PO} {tr : List St}, readsAll E L0 tr0 HE L tr = true → ∀ {j : Nat} {x : PO} {s : St}, L[j]? = some x → tr[j]? = some s → isRead x.o.op = true → isFresh E x.o.op = false → isHeavy E x.o.op = false → s.v.isSome = true → readAt E L0 x s HE L0 tr0 0 = true
  | [], _, _, j, x, s, h, _, _, _, _, _ => by simp at h
  | _ :: _, [], _, j, x, s, _, h, _, _, _, _ => by simp at h
  | y :: L, z :: tr, hr, j, x, s, h1, h2, h3, h4, h5, h6 => by
    simp only [readsAll, Bool.and_eq_true] at hr
    cases j with
    | zero =>
      simp only [List.getElem?_cons_zero, Option.some.injEq] at h1 h2
      subst h1 h2
      have := hr.1
      rw [h3, h4, h5, h6] at this
      exact this
    | succ j => exact readsAll_at hr.2 (by simpa using h1) (by simpa using h2) h3 h4 h5 h6
end Go.Ab

/- Regions that draw: what holds whatever is listed. -/
namespace Go.Ab

def In (l : Array Bool) (i : Nat) : Prop := l.getD i false = true

theorem In.set {l : Array Bool} {i j : Nat} (h : In l j) : In (l.setIfInBounds i true) j := by
  unfold In at *
  rw [Array.getD_eq_getD_getElem?] at *
  rw [Array.getElem?_setIfInBounds]
  split
  · rename_i e; subst e
    split
    · rfl
    · rename_i hlt; rw [Array.getElem?_eq_none (by omega)] at h; simp at h
  · exact h
theorem In.set_self {l : Array Bool} {i : Nat} (h : i < l.size) : In (l.setIfInBounds i true) i := by
  unfold In
  rw [Array.getD_eq_getD_getElem?, Array.getElem?_setIfInBounds, if_pos rfl, if_pos h]; rfl
theorem In.of_set {l : Array Bool} {i j : Nat} (h : In (l.setIfInBounds i true) j) (hne : j ≠ i) : In l j := by
  unfold In at *
  rw [Array.getD_eq_getD_getElem?] at *
  rwa [Array.getElem?_setIfInBounds, if_neg (Ne.symm hne)] at h

section
variable {E : Env} {ops : Array Oper} {L : List PO}

def Closed (L : List PO) (l : Array Bool) : Prop := ∀ (j : Nat) (x : PO), L[j]? = some x → In l x.i → ∀ e ∈ x.o.after.toList, edgeOn e = true → In l e.on

theorem Closed.bits {l : Array Bool} (hp : PlanOk E ops L) (hc : Closed L l) : ∀ (j : Nat) (x : PO) (b : Nat), L[j]? = some x → (∀ e ∈ x.o.after.toList, edgeOn e = true → In l e.on) → x.p.testBit b = true → In l b := by
  intro j
  induction j using Nat.strongRecOn with
  | _ j ih =>
    intro x b hx he hb
    obtain ⟨e, h1, h2, h3⟩ := (hp.po hx).bits b hb
    rcases h3 with rfl | ⟨y, ⟨j', h4, h5⟩, h6, h7⟩
    · exact he e h1 h2
    · have hy : In l y.i := by rw [h6]; exact he e h1 h2
      exact ih j' h4 y b h5 (fun e a b => hc j' y h5 hy e a b) h7

theorem PlanOk.inj (hp : PlanOk E ops L) {j1 j2 : Nat} {x y : PO} (h1 : L[j1]? = some x) (h2 : L[j2]? = some y) (h : x.i = y.i) : j1 = j2 := by
  have key : ∀ {a b : Nat} {u v : PO}, a < b → L[a]? = some u → L[b]? = some v → u.i ≠ v.i := fun hab hu hv e => by
    have := hp.pair hab hu hv
    simp only [pairOk, Bool.and_eq_true, Bool.not_eq_true'] at this
    rw [e] at this
    simp at this
  rcases Nat.lt_trichotomy j1 j2 with g | g | g
  · exact absurd h (key g h1 h2)
  · exact g
  · exact absurd h.symm (key g h2 h1)

def Names (ops : Array Oper) (o : Oper) (t : Nat) : Prop := (nameMask ops o).testBit t = true

theorem dstMask_bit {d : Option Tmp} {t : Nat} (h : d = some t) : (dstMask d).testBit t = true := by
  subst h
  exact shift_bits.2 rfl

theorem maskOps_bit {t : Nat} : ∀ {xs : List Operand}, Operand.tmp t ∈ xs → (maskOps xs).testBit t = true
  | [], h => by cases h
  | x :: xs, h => by
    rcases List.mem_cons.1 h with h | h
    · subst h
      simp only [maskOps]
      rw [Nat.testBit_or, shift_bits.2 rfl]; rfl
    · have := maskOps_bit h
      cases x <;> simp only [maskOps] <;> first | exact this | (rw [Nat.testBit_or, this, Bool.or_true])

theorem Names.dst {o : Oper} {t : Nat} (h : o.dst = some t) : Names ops o t := by
  unfold Names nameMask
  rw [Nat.testBit_or, Nat.testBit_or, dstMask_bit h]; rfl
theorem Names.operand {o : Oper} {t : Nat} (h : Operand.tmp t ∈ o.op.operands.toList) : Names ops o t := by
  unfold Names nameMask
  rw [Nat.testBit_or, Nat.testBit_or, maskOps_bit (xs := opTmps o.op) h]; simp
theorem Names.guard {o : Oper} {g : Nat} {b : Bool} {t : Nat} (h : o.guard = some (g, b)) (hg : (ops[g]?).bind (·.dst) = some t) : Names ops o t := by
  unfold Names nameMask
  rw [Nat.testBit_or, Nat.testBit_or, h]
  simp only
  rw [hg, dstMask_bit rfl, Bool.or_true]

theorem and_zero {a b t : Nat} (h : (a &&& b).beq 0 = true) (ha : a.testBit t = true) (hb : b.testBit t = true) : False := by
  have h := Nat.eq_of_beq_eq_true h
  have : (a &&& b).testBit t = true := by rw [Nat.testBit_and, ha, hb]; rfl
  rw [h, Nat.zero_testBit] at this
  cases this

theorem PlanOk.order (hp : PlanOk E ops L) {j1 j2 : Nat} {x y : PO} (hlt : j1 < j2) (h1 : L[j1]? = some x) (h2 : L[j2]? = some y)
    (h : (∃ t, x.o.dst = some t ∧ Names ops y.o t) ∨ (∃ t, Names ops x.o t ∧ y.o.dst = some t) ∨ isHeavy E x.o.op = true) : y.p.testBit x.i = true := by
  have := hp.pair hlt h1 h2
  simp only [pairOk, Bool.and_eq_true, Bool.or_eq_true, Bool.not_eq_true'] at this
  rcases this.2 with g | ⟨⟨g1, g2⟩, g3⟩
  · exact g
  · rcases h with ⟨t, h3, h4⟩ | ⟨t, h3, h4⟩ | h3
    · exact (and_zero g1 (dstMask_bit h3) h4).elim
    · exact (and_zero g2 h3 (dstMask_bit h4)).elim
    · rw [h3] at g3; cases g3

theorem wanted_congr {fr fr2 : Fr} {o : Oper} (h : ∀ t, Names ops o t → fr.get t = fr2.get t) : wanted ops fr o = wanted ops fr2 o := by
  unfold wanted
  split
  · rfl
  · rename_i g b hg
    split
    · rename_i d hd
      rw [h d (Names.guard hg hd)]
    · rfl

theorem put?_get {nt : Nat} {fr fr' : Fr} {dst : Option Tmp} {v : Value} (h : put? nt fr dst v = some fr') (t : Nat) : fr'.get t = if dst = some t then some v else fr.get t := by
  unfold put? at h
  split at h
  · cases h; rw [if_neg (by simp)]
  · rename_i d
    obtain ⟨h1, h2⟩ := cnd_some h
    cases h2
    rw [T.get_put]
    by_cases e : t = d
    · rw [if_pos e, if_pos (by rw [e])]
    · rw [if_neg e, if_neg (by simpa using fun e' => e e'.symm)]

theorem put?_some {nt : Nat} {fr fr' : Fr} {dst : Option Tmp} {v : Value} (h : put? nt fr dst v = some fr') (fr2 : Fr) : ∃ fr2', put? nt fr2 dst v = some fr2' := by
  unfold put? at h ⊢
  split at h
  · exact ⟨_, rfl⟩
  · obtain ⟨h1, h2⟩ := cnd_some h
    rw [h1]
    exact ⟨_, rfl⟩
end

section
variable {P : Program} {m : Mp} {H : Hp} {w : World} {n : Nat}

/-- A block that nothing names yet is laid in the heap alone. -/
theorem Rel.blank (h : Rel P m H w) {b : Nat} (hb : m b = none) (X : Blk) : Rel P m (H.put b X) w := by
  have hne : ∀ b' pl, m b' = some pl → b' ≠ b := fun b' pl h1 e => by rw [e, hb] at h1; cases h1
  refine ⟨fun b' Y pl h1 h2 => ?_, fun b1 b2 X1 X2 p1 p2 h0 h1 h2 h3 h4 h5 h6 => ?_, h.glob, h.inb⟩
  · rw [T.get_put_ne _ _ (hne b' pl h2)] at h1
    exact h.blk b' Y pl h1 h2
  · rw [T.get_put_ne _ _ (hne b1 p1 h3)] at h1
    rw [T.get_put_ne _ _ (hne b2 p2 h4)] at h2
    exact h.sep b1 b2 X1 X2 p1 p2 h0 h1 h2 h3 h4 h5 h6

theorem Evol.blank {m0 : Mp} {H0 : Hp} {n0 : Nat} {w0 : World} (e : Evol m0 H0 n0 w0 m H n w) (hb : m n = none) (X : Blk) : Evol m0 H0 n0 w0 m (H.put n X) (n + 1) w where
  le := e.le
  nle := Nat.le_succ_of_le e.nle
  fresh := fun b h1 h2 => by
    by_cases hn : b = n
    · subst hn
      cases hq : m0 b with
      | none => rfl
      | some pl => rw [e.le b pl hq] at hb; cases hb
    · exact e.fresh b h1 (by omega)
  new := fun b pl h1 => by
    rcases e.new b pl h1 with h2 | ⟨h2, h3, h4, h5⟩
    · exact .inl h2
    · exact .inr ⟨h2, h3, by omega, h5⟩
  size := e.size
  frame := e.frame
  keep := fun b Y h1 h2 => by
    have := e.nle
    by_cases hn : b = n
    · exact .inl ⟨by omega, by omega⟩
    · rw [T.get_put_ne _ _ hn] at h1
      rcases e.keep b Y h1 h2 with ⟨h3, h4⟩ | h3
      · exact .inl ⟨h3, by omega⟩
      · exact .inr h3
  loops := fun b L0 h1 h2 => by
    have := e.nle
    rw [T.get_put_ne _ _ (by omega)]
    exact e.loops b L0 h1 (by omega)
  aside := fun b h1 h2 => by
    have := e.nle
    rw [T.get_put_ne _ _ (by omega)]
    exact e.aside b h1 (by omega)
  os := e.os
  tape := e.tape
  output := e.output

theorem Rel.same {H2 : Hp} (h : Rel P m H w) (he : ∀ b, H2.get b = H.get b) : Rel P m H2 w :=
  ⟨fun b X pl h1 h2 => h.blk b X pl ((he b).symm.trans h1) h2, fun b1 b2 X1 X2 p1 p2 h0 h1 h2 => h.sep b1 b2 X1 X2 p1 p2 h0 ((he b1).symm.trans h1) ((he b2).symm.trans h2), h.glob, h.inb⟩

/-- A block is made late, under the number that was kept for it. -/
theorem Evol.late {m0 m1 : Mp} {H0 H1 : Hp} {n0 b1 : Nat} {w0 w1 : World} (e : Evol m0 H0 n0 w0 m H n w) (e1 : Evol m H b1 w m1 H1 (b1 + 1) w1) (h0 : n0 ≤ b1) (h1 : b1 < n) (hb : m b1 = none) : Evol m0 H0 n0 w0 m1 H n w1 where
  le := e.le.trans e1.le
  nle := e.nle
  fresh := e.fresh
  new := fun b pl hq => by
    rcases e1.new b pl hq with h2 | ⟨h2, h3, h4, h5⟩
    · exact e.new b pl h2
    · refine .inr ⟨e.fresh b (by omega) (by omega), by omega, by omega, ?_⟩
      rcases h5 with h5 | h5
      · exact .inl (Nat.le_trans e.size h5)
      · exact (e.owned h5).symm
  size := Nat.le_trans e.size e1.size
  frame := fun B hB ho => by
    rw [e1.frame B (Nat.lt_of_lt_of_le hB e.size) (fun hk => by rcases e.owned hk with h1 | h1; exact ho h1; omega)]
    exact e.frame B hB ho
  keep := e.keep
  loops := e.loops
  aside := e.aside
  os := e1.os.trans e.os
  tape := e1.tape.trans e.tape
  output := e1.output.trans e.output
end
end Go.Ab

/- Regions that draw: whatever order is drawn, the run comes to the same. -/
namespace Go.Ab
variable {P : Program} [HasOrc P] [OrcOk P] {ev : Ev} {nt : Nat} {ops : Array Oper} {L : List PO} {S : Nat → St} {nE : Nat}

structure Ctx (P : Program) [HasOrc P] (ev : Ev) (nt : Nat) (ops : Array Oper) (L : List PO) (S : Nat → St) (nE : Nat) : Prop where
  plan : PlanOk (envOf P) ops L
  step : ∀ {j : Nat} {x : PO}, L[j]? = some x → StepOk (envOf P) ev nt ops (S j) x (S (j + 1))
  last : (S L.length).n = nE
  read : ∀ {j p : Nat} {x : PO}, L[j]? = some x → p ≤ L.length → (∀ y, L[p]? = some y → isHeavy (envOf P) y.o.op = true) → isRead x.o.op = true → isFresh (envOf P) x.o.op = false → isHeavy (envOf P) x.o.op = false → (S j).v.isSome = true →
    mayAt (envOf P) x p L 0 = true → light x.o.op (envOf P) (S p).H (S j).fr = (S j).v

theorem StepOk.le (hev : Snd P ev) {E : Env} {s s' : St} {x : PO} (h : StepOk E ev nt ops s x s') : s.n ≤ s'.n := by
  cases h with
  | done hw hv ho hp hf => exact oper_le hev ho
  | left hw hv hp hH hn => rw [hn]; exact Nat.le_refl _

theorem Ctx.le (hev : Snd P ev) (c : Ctx P ev nt ops L S nE) : ∀ (d j : Nat), j + d ≤ L.length → (S j).n ≤ (S (j + d)).n
  | 0, j, _ => Nat.le_refl _
  | d + 1, j, h => by
    have h1 := c.le hev d j (by omega)
    have h2 := (c.step (j := j + d) (List.getElem?_eq_getElem (by omega))).le hev
    exact Nat.le_trans h1 h2

theorem Ctx.mono (hev : Snd P ev) (c : Ctx P ev nt ops L S nE) {i j : Nat} (h : i ≤ j) (hj : j ≤ L.length) : (S i).n ≤ (S j).n := by
  have := c.le hev (j - i) i (by omega)
  rwa [show i + (j - i) = j by omega] at this

/-- Frames. -/
def FI (L : List PO) (S : Nat → St) (l : Array Bool) (fr : Fr) : Prop := ∀ (j t : Nat), j ≤ L.length → (∀ (i : Nat) (x : PO), i < j → L[i]? = some x → x.o.dst = some t → In l x.i) → (∀ (i : Nat) (x : PO), j ≤ i → L[i]? = some x → x.o.dst = some t → ¬ In l x.i) → fr.get t = (S j).fr.get t

theorem Ctx.noWrite (c : Ctx P ev nt ops L S nE) {t : Nat} : ∀ (d j : Nat), j + d ≤ L.length → (∀ (i : Nat) (x : PO), j ≤ i → i < j + d → L[i]? = some x → x.o.dst ≠ some t) → (S (j + d)).fr.get t = (S j).fr.get t
  | 0, j, _, _ => rfl
  | d + 1, j, h, hw => by
    have h1 := c.noWrite d j (by omega) (fun i x a b => hw i x a (by omega))
    have hx : L[j + d]? = some L[j + d] := List.getElem?_eq_getElem (by omega)
    have hd := hw (j + d) _ (by omega) (by omega) hx
    rw [← h1]
    show (S (j + d + 1)).fr.get t = _
    cases c.step hx with
    | done hw hv ho hp hf => rw [put?_get hp, if_neg hd]
    | left hw hv hp hH hn => rw [put?_get hp, if_neg hd]

/-- What a ready operation sees. -/
theorem Ctx.agree (c : Ctx P ev nt ops L S nE) {l : Array Bool} {fr : Fr} (hf : FI L S l fr) (hc : Closed L l) {j : Nat} {x : PO} (hx : L[j]? = some x) (hr : ∀ e ∈ x.o.after.toList, edgeOn e = true → In l e.on) (hn : ¬ In l x.i) : ∀ t, Names ops x.o t → fr.get t = (S j).fr.get t := by
  intro t ht
  have hlt := (List.getElem?_eq_some_iff.1 hx).1
  refine hf j t (by omega) (fun i y h1 h2 h3 => ?_) (fun i y h1 h2 h3 h4 => ?_)
  · exact hc.bits c.plan j x y.i hx hr (c.plan.order h1 h2 hx (.inl ⟨t, h3, ht⟩))
  · rcases Nat.lt_or_ge j i with h5 | h5
    · exact hn (hc.bits c.plan i y x.i h2 (fun e a b => hc i y h2 h4 e a b) (c.plan.order h5 hx h2 (.inr (.inl ⟨t, ht, h3⟩))))
    · have : i = j := by omega
      subst this
      rw [hx] at h2
      cases h2
      exact hn h4

theorem Ctx.fi_put (c : Ctx P ev nt ops L S nE) {l : Array Bool} {fr fr' : Fr} (hf : FI L S l fr) (hc : Closed L l) {j : Nat} {x : PO} (hx : L[j]? = some x) (hn : ¬ In l x.i) (hsz : x.i < l.size) {v : Value}
    (h1 : put? nt (S j).fr x.o.dst v = some (S (j + 1)).fr) (h2 : put? nt fr x.o.dst v = some fr') : FI L S (l.setIfInBounds x.i true) fr' := by
  have hlt := (List.getElem?_eq_some_iff.1 hx).1
  intro k t hk ha hb
  rw [put?_get h2]
  have hne : ∀ (i : Nat) (y : PO), L[i]? = some y → i ≠ j → y.i ≠ x.i := fun i y hy hi e => hi (c.plan.inj hy hx e)
  by_cases hd : x.o.dst = some t
  · rw [if_pos hd]
    have hjk : j < k := by
      rcases Nat.lt_or_ge j k with h | h
      · exact h
      · exact absurd (In.set_self hsz) (hb j x h hx hd)
    have := c.noWrite (t := t) (k - (j + 1)) (j + 1) (by omega) (fun i y g1 g2 g3 g4 => by
      have g5 : In l y.i := (ha i y (by omega) g3 g4).of_set (hne i y g3 (by omega))
      exact hn (hc.bits c.plan i y x.i g3 (fun e a b => hc i y g3 g5 e a b) (c.plan.order (by omega) hx g3 (.inl ⟨t, hd, Names.dst g4⟩))))
    rw [show j + 1 + (k - (j + 1)) = k by omega] at this
    rw [this, put?_get h1, if_pos hd]
  · rw [if_neg hd]
    refine hf k t hk (fun i y g1 g2 g3 => ?_) (fun i y g1 g2 g3 g4 => hb i y g1 g2 g3 g4.set)
    refine (ha i y g1 g2 g3).of_set (hne i y g2 fun e => ?_)
    subst e
    rw [hx] at g2
    cases g2
    exact hd g3

structure Inv (P : Program) [HasOrc P] (ops : Array Oper) (L : List PO) (S : Nat → St) (nE : Nat) (nt : Nat) (m0 : Mp) (H0 : Hp) (n0 : Nat) (w0 : World) (ds : List Deferred) (l : Array Bool) (a : Act) (w : World) (p : Nat) (m : Mp) (fr : Fr) : Prop where
  size : l.size = ops.size
  closed : Closed L l
  ple : p ≤ L.length
  before : ∀ (j : Nat) (y : PO), j < p → L[j]? = some y → isHeavy (envOf P) y.o.op = true → In l y.i
  after : ∀ (j : Nat) (y : PO), p ≤ j → L[j]? = some y → ¬ In l y.i
  rel : Rel P m (S p).H w
  frel : FrRel m nt fr a.tmps
  dfs : a.defers = ds
  fi : FI L S l fr
  evol : Evol m0 H0 n0 w0 m (S p).H (S p).n w
  low : ∀ j, j ≤ L.length → n0 ≤ (S j).n
  miss : ∀ (j : Nat) (x : PO) (X : Blk), j < p → L[j]? = some x → ¬ In l x.i → isFresh (envOf P) x.o.op = true → (S j).v.isSome = true → (S (j + 1)).H = (S j).H.put (S j).n X → m (S j).n = none ∧ (S p).H.get (S j).n = some X
  free : ∀ b, (S p).n ≤ b → b < nE → m b = none

section
variable {m0 : Mp} {H0 : Hp} {n0 : Nat} {w0 : World} {ds : List Deferred} {l : Array Bool} {a : Act} {w : World} {p : Nat} {m : Mp} {fr : Fr}

/-- Past one that is not heavy. -/
theorem Inv.past (hev : Snd P ev) (c : Ctx P ev nt ops L S nE) (h : Inv P ops L S nE nt m0 H0 n0 w0 ds l a w p m fr) {x : PO} (hx : L[p]? = some x) (hh : isHeavy (envOf P) x.o.op = false) : Inv P ops L S nE nt m0 H0 n0 w0 ds l a w (p + 1) m fr := by
  have hlt := (List.getElem?_eq_some_iff.1 hx).1
  have hmono : (S (p + 1)).n ≤ nE := by rw [← c.last]; exact c.mono hev (by omega) (Nat.le_refl _)
  have base : ∀ (hrel : Rel P m (S (p + 1)).H w) (hevol : Evol m0 H0 n0 w0 m (S (p + 1)).H (S (p + 1)).n w)
      (hmiss : ∀ (j : Nat) (x : PO) (X : Blk), j < p + 1 → L[j]? = some x → ¬ In l x.i → isFresh (envOf P) x.o.op = true → (S j).v.isSome = true → (S (j + 1)).H = (S j).H.put (S j).n X → m (S j).n = none ∧ (S (p + 1)).H.get (S j).n = some X),
      Inv P ops L S nE nt m0 H0 n0 w0 ds l a w (p + 1) m fr := fun hrel hevol hmiss =>
    { size := h.size, closed := h.closed, ple := hlt, rel := hrel, frel := h.frel, dfs := h.dfs, fi := h.fi, evol := hevol, low := h.low, miss := hmiss
      before := fun j y g1 g2 g3 => by
        rcases Nat.lt_or_ge j p with g | g
        · exact h.before j y g g2 g3
        · have : j = p := by omega
          subst this
          rw [hx] at g2
          cases g2
          rw [hh] at g3; cases g3
      after := fun j y g1 g2 => h.after j y (by omega) g2
      free := fun b g1 g2 => h.free b (Nat.le_trans ((c.step hx).le hev) g1) g2 }
  have same : (S (p + 1)).H = (S p).H → (S (p + 1)).n = (S p).n → (isFresh (envOf P) x.o.op = true → (S p).v.isSome = true → False) → Inv P ops L S nE nt m0 H0 n0 w0 ds l a w (p + 1) m fr := fun e1 e2 e3 =>
    base (by rw [e1]; exact h.rel) (by rw [e1, e2]; exact h.evol) (fun j y X g1 g2 g3 g4 g5 g6 => by
      rcases Nat.lt_or_ge j p with g | g
      · rw [e1]; exact h.miss j y X g g2 g3 g4 g5 g6
      · have : j = p := by omega
        subst this
        rw [hx] at g2
        cases g2
        exact (e3 g4 g5).elim)
  cases hs : c.step hx with
  | left hw hv hp hH hn => exact same hH hn (fun _ g => by rw [hv] at g; cases g)
  | @done v hw hv ho hp hf =>
    cases hfr : isFresh (envOf P) x.o.op with
    | false =>
      obtain ⟨e1, e2, _⟩ := calm_form hfr hh ho
      exact same e1 e2 (fun g => by rw [hfr] at g; cases g)
    | true =>
      obtain ⟨X, e1, _⟩ := fresh_form hfr ho (hf hfr)
      have e2 := hf hfr
      have hmn : m (S p).n = none := h.free _ (Nat.le_refl _) (by omega)
      refine base (by rw [e1]; exact h.rel.blank hmn X) (by rw [e1, e2]; exact h.evol.blank hmn X) (fun j y Y g1 g2 g3 g4 g5 g6 => ?_)
      rcases Nat.lt_or_ge j p with g | g
      · obtain ⟨k1, k2⟩ := h.miss j y Y g g2 g3 g4 g5 g6
        refine ⟨k1, ?_⟩
        have hj : (S j).n < (S p).n := by
          have h1 := c.mono hev (i := j + 1) (j := p) (by omega) h.ple
          have h2 : (S (j + 1)).n = (S j).n + 1 := by
            cases c.step g2 with
            | left hw hv hp hH hn => rw [hv] at g5; cases g5
            | done hw hv ho hp hf => exact hf g4
          omega
        rw [e1, T.get_put_ne _ _ (by omega)]
        exact k2
      · have : j = p := by omega
        subst this
        rw [e1] at g6
        have : ((S j).H.put (S j).n X).get (S j).n = ((S j).H.put (S j).n Y).get (S j).n := by rw [g6]
        rw [T.get_put_same, T.get_put_same] at this
        rw [e1, T.get_put_same]
        exact ⟨hmn, this⟩

/-- To the next heavy one. -/
theorem Inv.next (hev : Snd P ev) (c : Ctx P ev nt ops L S nE) : ∀ (d p : Nat), p + d = L.length → Inv P ops L S nE nt m0 H0 n0 w0 ds l a w p m fr → ∃ q, Inv P ops L S nE nt m0 H0 n0 w0 ds l a w q m fr ∧ ∀ y, L[q]? = some y → isHeavy (envOf P) y.o.op = true
  | 0, p, hd, h => ⟨p, h, fun y hy => by rw [List.getElem?_eq_none (by omega)] at hy; cases hy⟩
  | d + 1, p, hd, h => by
    have hx : L[p]? = some L[p] := List.getElem?_eq_getElem (by omega)
    cases hh : isHeavy (envOf P) L[p].o.op with
    | true => exact ⟨p, h, fun y hy => by rw [hx] at hy; cases hy; exact hh⟩
    | false => exact Inv.next hev c d (p + 1) (by omega) (h.past hev c hx hh)
end
end Go.Ab

/- Regions that draw: the steps, and the law. -/
namespace Go.Ab
variable {P : Program} [HasOrc P] [OrcOk P] {ev : Ev} {nt : Nat} {ops : Array Oper} {L : List PO} {S : Nat → St} {nE : Nat}
variable {m0 : Mp} {H0 : Hp} {n0 : Nat} {w0 : World} {ds : List Deferred} {l : Array Bool} {a : Act} {w : World} {p : Nat} {m : Mp} {fr : Fr}

/-- One more is listed. -/
theorem Inv.put (c : Ctx P ev nt ops L S nE) (h : Inv P ops L S nE nt m0 H0 n0 w0 ds l a w p m fr) {j q : Nat} {x : PO} (hx : L[j]? = some x) (hn : ¬ In l x.i) (hr : ∀ e ∈ x.o.after.toList, edgeOn e = true → In l e.on)
    (hjq : j < q) (hpq : p ≤ q) (hq : q ≤ L.length) (hqj : ∀ j', j' < q → j' ≠ j → j' < p) {v v' : Value} {a' : Act} {w' : World} {m' : Mp} (ha : a' = a.put x.o.dst v') (hv : VRel m' v v') (hle : m.le m') (h1 : put? nt (S j).fr x.o.dst v = some (S (j + 1)).fr)
    (hrel : Rel P m' (S q).H w') (hevol : Evol m0 H0 n0 w0 m' (S q).H (S q).n w')
    (hmiss : ∀ (j' : Nat) (y : PO) (X : Blk), j' ≠ j → L[j']? = some y → isFresh (envOf P) y.o.op = true → (S j').v.isSome = true → j' < p → m (S j').n = none → (S p).H.get (S j').n = some X → m' (S j').n = none ∧ (S q).H.get (S j').n = some X)
    (hfree : ∀ b, (S q).n ≤ b → b < nE → m' b = none) : ∃ fr', Inv P ops L S nE nt m0 H0 n0 w0 ds (l.setIfInBounds x.i true) a' w' q m' fr' := by
  have hat := (c.plan.po hx).at_
  have hsz : x.i < l.size := by rw [h.size]; exact (Array.getElem?_eq_some_iff.1 hat).1
  have hne : ∀ (i : Nat) (y : PO), L[i]? = some y → i ≠ j → y.i ≠ x.i := fun i y hy hi e => hi (c.plan.inj hy hx e)
  obtain ⟨fr', hp'⟩ := put?_some h1 fr
  have hput := put_rel (a := a) (h.frel.mono hle) hv hp'
  refine ⟨fr', ?_⟩
  subst ha
  exact {
    size := by simpa using h.size
    closed := fun i y hy hi e he ho => by
      by_cases hij : i = j
      · subst hij
        rw [hx] at hy
        cases hy
        exact (hr e he ho).set
      · exact (h.closed i y hy (hi.of_set (hne i y hy hij)) e he ho).set
    ple := hq
    before := fun i y g1 g2 g3 => by
      by_cases hij : i = j
      · subst hij
        rw [hx] at g2
        cases g2
        exact In.set_self hsz
      · exact (h.before i y (hqj i g1 hij) g2 g3).set
    after := fun i y g1 g2 g3 => h.after i y (by omega) g2 (g3.of_set (hne i y g2 (by omega)))
    rel := hrel
    frel := hput.1
    dfs := hput.2.trans h.dfs
    fi := c.fi_put h.fi h.closed hx hn hsz h1 hp'
    evol := hevol
    low := h.low
    miss := fun i y X g1 g2 g3 g4 g5 g6 => by
      have hij : i ≠ j := fun e => by
        subst e
        rw [hx] at g2
        cases g2
        exact g3 (In.set_self hsz)
      have hip := hqj i g1 hij
      obtain ⟨k1, k2⟩ := h.miss i y X hip g2 (fun g => g3 g.set) g4 g5 g6
      exact hmiss i y X hij g2 g4 g5 hip k1 k2
    free := hfree }

theorem fresh_step {j : Nat} {x : PO} (c : Ctx P ev nt ops L S nE) (hx : L[j]? = some x) (hf : isFresh (envOf P) x.o.op = true) (hv : (S j).v.isSome = true) : (S (j + 1)).n = (S j).n + 1 := by
  cases c.step hx with
  | left hw hv' hp hH hn => rw [hv'] at hv; cases hv
  | done hw hv' ho hp hf' => exact hf' hf

/-- **One that is ready.** -/
theorem Inv.go (hev : Snd P ev) (hN : NamesOk P) (c : Ctx P ev nt ops L S nE) (h : Inv P ops L S nE nt m0 H0 n0 w0 ds l a w p m fr) (hheavy : ∀ y, L[p]? = some y → isHeavy (envOf P) y.o.op = true) {ro : Option Nat} {Q : Exit → Act → World → Prop} {K : Act → World → Prop}
    {j : Nat} {x : PO} (hx : L[j]? = some x) (hn : ¬ In l x.i) (hr : ∀ e ∈ x.o.after.toList, edgeOn e = true → In l e.on)
    (hK : ∀ a' w' q m' fr', Inv P ops L S nE nt m0 H0 n0 w0 ds (l.setIfInBounds x.i true) a' w' q m' fr' → (∀ y, L[q]? = some y → isHeavy (envOf P) y.o.op = true) → K a' w') : wpOpIn (W ro) 0 P ops Q x.i K a w := by
  have hat := (c.plan.po hx).at_
  have hlt := (List.getElem?_eq_some_iff.1 hx).1
  have hag := c.agree h.fi h.closed hx hr hn
  have hwt : Region.wanted x.o (yielded ops a.tmps) = wanted ops (S j).fr x.o := by rw [← wanted_eq h.frel]; exact wanted_congr hag
  have hop : Agree fr (S j).fr x.o.op.operands.toList := fun t ht => hag t (Names.operand ht)
  have hjp : j ≤ p := by
    rcases Nat.lt_or_ge p j with g | g
    · have hy : L[p]? = some L[p] := List.getElem?_eq_getElem (by omega)
      exact absurd (h.closed.bits c.plan j x _ hx hr (c.plan.order g hy hx (.inr (.inr (hheavy _ hy))))) (h.after p _ (Nat.le_refl _) hy)
    · exact g
  have hle1 : ∀ {q}, q ≤ L.length → (S q).n ≤ nE := fun hq => by rw [← c.last]; exact c.mono hev hq (Nat.le_refl _)
  have lowp : ∀ (j' : Nat) (y : PO), L[j']? = some y → isFresh (envOf P) y.o.op = true → (S j').v.isSome = true → j' < p → (S j').n < (S p).n := fun j' y g1 g2 g3 g4 => by
    have h1 := c.mono hev (i := j' + 1) (j := p) (by omega) h.ple
    have h2 := fresh_step c g1 g2 g3
    omega
  -- to the next heavy one, and on
  have fin : ∀ {a' : Act} {w' : World} {q : Nat} {m' : Mp}, q ≤ L.length → (∃ fr', Inv P ops L S nE nt m0 H0 n0 w0 ds (l.setIfInBounds x.i true) a' w' q m' fr') → K a' w' := by
    rintro a' w' q m' hq ⟨fr', h'⟩
    obtain ⟨q', h1, h2⟩ := h'.next hev c (L.length - q) q (by omega)
    exact hK _ _ _ _ _ h1 h2
  unfold wpOpIn
  rw [hat]
  simp only
  rw [hwt]
  cases c.step hx with
  | left hw hv hp hH hn' =>
    rw [if_neg (by rw [hw]; simp)]
    refine ⟨fun _ _ => trivial, ?_⟩
    rcases Nat.lt_or_ge j p with g | g
    · exact fin h.ple (h.put c hx hn hr g (Nat.le_refl _) h.ple (fun _ a _ => a) rfl (undef_rel m) (Mp.le.refl m) hp h.rel h.evol (fun _ _ _ _ _ _ _ _ a b => ⟨a, b⟩) h.free)
    · have : j = p := by omega
      subst this
      exact fin hlt (h.put c hx hn hr (Nat.lt_succ_self _) (Nat.le_succ _) hlt (fun j' a b => by omega) rfl (undef_rel m) (Mp.le.refl m) hp (by rw [hH]; exact h.rel) (by rw [hH, hn']; exact h.evol)
        (fun _ _ _ _ _ _ _ _ a b => ⟨a, by rw [hH]; exact b⟩) (by rw [hn']; exact h.free))
  | @done v hw hv ho hp hf =>
    rw [if_pos hw]
    have hsv : (S j).v.isSome = true := by rw [hv]; rfl
    cases hh : isHeavy (envOf P) x.o.op with
    | true =>
      have : j = p := by
        rcases Nat.lt_or_ge j p with g | g
        · exact absurd (h.before j x g hx hh) hn
        · omega
      subst this
      have hfree1 : ∀ b, (S j).n ≤ b → b < nE → m b = none := h.free
      refine oper_sound hev hN h.rel h.frel ((oper_congr hop).trans ho) (fun b g1 g2 => hfree1 b g1 (Nat.lt_of_lt_of_le g2 (hle1 hlt))) ?_
      intro v' m' w' k1 k2 k3
      refine fin hlt (h.put c hx hn hr (Nat.lt_succ_self _) (Nat.le_succ _) hlt (fun j' a b => by omega) rfl k1 k3.le hp k2 (h.evol.trans k3) ?_ (k3.freshLeft hfree1))
      intro j' y X g1 g2 g3 g4 g5 g6 g7
      have hlow := lowp j' y g2 g3 g4 g5
      refine ⟨?_, (k3.aside _ g6 (by omega)).trans g7⟩
      cases hq : m' (S j').n with
      | none => rfl
      | some pl =>
        rcases k3.new _ pl hq with k4 | ⟨_, k4, _, _⟩
        · rw [g6] at k4; cases k4
        · omega
    | false =>
      have g : j < p := by
        rcases Nat.lt_or_ge j p with g | g
        · exact g
        · have : j = p := by omega
          subst this
          rw [hheavy x hx] at hh; cases hh
      cases hfr : isFresh (envOf P) x.o.op with
      | true =>
        have hn1 := hf hfr
        obtain ⟨X, e1, e2⟩ := fresh_form hfr ho hn1
        obtain ⟨hmn, hget⟩ := h.miss j x X g hx hn hfr hsv e1
        have hlow := lowp j x hx hfr hsv g
        refine oper_sound (n := (S j).n) hev hN h.rel h.frel ((oper_congr hop).trans (e2 (S p).H)) (fun b g1 g2 => by
          have : b = (S j).n := by omega
          rw [this]; exact hmn) ?_
        intro v' m' w' k1 k2 k3
        refine fin h.ple (h.put c hx hn hr g (Nat.le_refl _) h.ple (fun _ a _ => a) rfl k1 k3.le hp (k2.same fun b => ?_) (h.evol.late k3 (h.low j (by omega)) hlow hmn) ?_ ?_)
        · rw [T.get_put]
          split
          · rename_i e; rw [e]; exact hget
          · rfl
        · intro j' y Y g1 g2 g3 g4 g5 g6 g7
          refine ⟨?_, g7⟩
          cases hq : m' (S j').n with
          | none => rfl
          | some pl =>
            rcases k3.new _ pl hq with k4 | ⟨_, k4, k5, _⟩
            · rw [g6] at k4; cases k4
            · have s1 := fresh_step c g2 g3 g4
              have hple := h.ple
              rcases Nat.lt_or_ge j' j with g8 | g8
              · have := c.mono hev (i := j' + 1) (j := j) (by omega) (by omega)
                omega
              · have := c.mono hev (i := j + 1) (j := j') (by omega) (by omega)
                omega
        · intro b g1 g2
          cases hq : m' b with
          | none => rfl
          | some pl =>
            rcases k3.new _ pl hq with k4 | ⟨_, k4, k5, _⟩
            · rw [h.free b g1 g2] at k4; cases k4
            · omega
      | false =>
        obtain ⟨e1, e2, e3, e4⟩ := calm_form hfr hh ho
        have hl : light x.o.op (envOf P) (S p).H (S j).fr = some v := by
          cases hrd : isRead x.o.op with
          | true =>
            rw [← hv]
            refine c.read hx h.ple hheavy hrd hfr hh hsv (mayAt_of fun j' y g1 g2 => ⟨fun g3 => ?_, fun g3 => ?_⟩)
            · cases hb : y.p.testBit x.i with
              | false => rfl
              | true =>
                have hy := h.before j' y (by omega) g1 g2
                exact absurd (h.closed.bits c.plan j' y _ g1 (fun e a b => h.closed j' y g1 hy e a b) hb) hn
            · cases hb : x.p.testBit y.i with
              | false => rfl
              | true => exact absurd (h.closed.bits c.plan j x _ hx hr hb) (h.after j' y (by omega) g1)
          | false => rw [← e3]; exact blind hh hrd _
        refine oper_sound (n := (S p).n) hev hN h.rel h.frel ((oper_congr hop).trans (e4 (S p).H (S p).n v hl)) (fun b g1 g2 => by omega) ?_
        intro v' m' w' k1 k2 k3
        refine fin h.ple (h.put c hx hn hr g (Nat.le_refl _) h.ple (fun _ a _ => a) rfl k1 k3.le hp k2 (h.evol.trans k3) ?_ (k3.freshLeft h.free))
        intro j' y Y g1 g2 g3 g4 g5 g6 g7
        refine ⟨?_, g7⟩
        cases hq : m' (S j').n with
        | none => rfl
        | some pl =>
          rcases k3.new _ pl hq with k4 | ⟨_, k4, k5, _⟩
          · rw [g6] at k4; cases k4
          · omega
end Go.Ab

/- Regions that draw: the law; the evaluator's law in full. -/
namespace Go.Ab
variable {P : Program} [HasOrc P] [OrcOk P] {ev : Ev} {nt : Nat} {ops : Array Oper} {L : List PO} {S : Nat → St} {nE : Nat}
variable {m0 : Mp} {H0 : Hp} {n0 : Nat} {w0 : World} {ds : List Deferred} {l : Array Bool} {a : Act} {w : World} {p : Nat} {m : Mp} {fr : Fr}

theorem count_lt {q r : Nat → Bool} : ∀ {xs : List Nat}, (∀ x ∈ xs, q x = true → r x = true) → (∃ x ∈ xs, r x = true ∧ q x = false) → xs.countP q < xs.countP r
  | [], _, h => by obtain ⟨x, hx, _⟩ := h; cases hx
  | y :: xs, hqr, h => by
    have hmono : xs.countP q ≤ xs.countP r := List.countP_mono_left fun x hx => hqr x (List.mem_cons_of_mem _ hx)
    rw [List.countP_cons, List.countP_cons]
    obtain ⟨x, hx, h1, h2⟩ := h
    rcases List.mem_cons.1 hx with rfl | hx
    · rw [h1, h2]; simp; omega
    · have := count_lt (fun z hz => hqr z (List.mem_cons_of_mem _ hz)) ⟨x, hx, h1, h2⟩
      cases hq : q y with
      | true =>
        have h3 := hqr y (List.mem_cons_self ..) hq
        rw [h3, if_pos rfl]; omega
      | false =>
        rw [if_neg (by simp)]
        omega

def left (ops : Array Oper) (l : Array Bool) : Nat := (List.range ops.size).countP fun i => !(l.getD i false)

theorem In_not {i : Nat} (h : l.getD i true = false) : ¬ In l i ∧ i < l.size := by
  rw [Array.getD_eq_getD_getElem?] at h
  by_cases hi : i < l.size
  · rw [Array.getElem?_eq_getElem hi] at h
    refine ⟨?_, hi⟩
    unfold In
    rw [Array.getD_eq_getD_getElem?, Array.getElem?_eq_getElem hi]
    simp at h ⊢
    exact h
  · rw [Array.getElem?_eq_none (by omega)] at h
    cases h

theorem not_In {i : Nat} (h : ¬ In l i) (hi : i < l.size) : l.getD i true = false := by
  unfold In at h
  rw [Array.getD_eq_getD_getElem?, Array.getElem?_eq_getElem hi] at h ⊢
  simpa using h

theorem left_lt {i : Nat} (hn : ¬ In l i) (hi : i < ops.size) (hs : l.size = ops.size) : left ops (l.setIfInBounds i true) < left ops l := by
  refine count_lt (fun x _ hx => ?_) ⟨i, List.mem_range.2 hi, ?_, ?_⟩
  · have : ¬ In (l.setIfInBounds i true) x := by unfold In; simpa using hx
    have : ¬ In l x := fun g => this g.set
    unfold In at this
    simpa using this
  · unfold In at hn; simpa using hn
  · have : In (l.setIfInBounds i true) i := In.set_self (by omega)
    unfold In at this
    rw [this]; rfl

theorem all_listed (c : Ctx P ev nt ops L S nE) (hs : l.size = ops.size) (hr : Region.ready .any ops l = []) : ∀ (j : Nat) (x : PO), L[j]? = some x → In l x.i := by
  intro j
  induction j using Nat.strongRecOn with
  | _ j ih =>
    intro x hx
    have hpo := c.plan.po hx
    refine Classical.byContradiction fun hn => ?_
    have hi : x.i < ops.size := (Array.getElem?_eq_some_iff.1 hpo.at_).1
    have : x.i ∈ Region.ready .any ops l := mem_ready.2 ⟨not_In hn (by omega), x.o, hpo.at_, fun e he hb => by
      obtain ⟨y, ⟨j', h1, h2⟩, h3⟩ := hpo.back e (Array.mem_toList_iff.2 he) hb
      have := ih j' h1 y h2
      rw [h3] at this
      exact this⟩
    rw [hr] at this
    cases this

theorem any_sound (hev : Snd P ev) (hN : NamesOk P) (c : Ctx P ev nt ops L S nE) {ro : Option Nat} {Q : Exit → Act → World → Prop}
    (hQ : ∀ a w m fr, Rel P m (S L.length).H w → Evol m0 H0 n0 w0 m (S L.length).H (S L.length).n w → FrRel m nt fr a.tmps → (∀ t, fr.get t = (S L.length).fr.get t) → a.defers = ds → Q .normal a w) :
    ∀ (fuel : Nat) (l : Array Bool) (a : Act) (w : World) (p : Nat) (m : Mp) (fr : Fr), Inv P ops L S nE nt m0 H0 n0 w0 ds l a w p m fr → (∀ y, L[p]? = some y → isHeavy (envOf P) y.o.op = true) → left ops l ≤ fuel → wpAnyIn (W ro) 0 P .any ops Q fuel l a w := by
  have done : ∀ (l : Array Bool) (a : Act) (w : World) (p : Nat) (m : Mp) (fr : Fr), Inv P ops L S nE nt m0 H0 n0 w0 ds l a w p m fr → Region.ready .any ops l = [] → Q .normal a w := by
    intro l a w p m fr h hr
    have hall := all_listed c h.size hr
    have hp : p = L.length := by
      have := h.ple
      rcases Nat.lt_or_ge p L.length with g | g
      · exact absurd (hall p _ (List.getElem?_eq_getElem g)) (h.after p _ (Nat.le_refl _) (List.getElem?_eq_getElem g))
      · omega
    subst hp
    exact hQ a w m fr h.rel h.evol h.frel (fun t => h.fi _ t (Nat.le_refl _) (fun i x _ hx _ => hall i x hx) (fun i x hi hx _ => by rw [List.getElem?_eq_none (by omega)] at hx; cases hx)) h.dfs
  intro fuel
  induction fuel with
  | zero =>
    intro l a w p m fr h hh hl
    have hr : Region.ready .any ops l = [] := by
      refine List.eq_nil_iff_forall_not_mem.2 fun i hi => ?_
      obtain ⟨h1, o, h2, _⟩ := mem_ready.1 hi
      have := left_lt (In_not h1).1 (Array.getElem?_eq_some_iff.1 h2).1 h.size
      omega
    exact ⟨hr, done l a w p m fr h hr⟩
  | succ fuel ih =>
    intro l a w p m fr h hh hl
    refine ⟨done l a w p m fr h, fun i hi => ?_⟩
    obtain ⟨h1, o, h2, h3⟩ := mem_ready.1 hi
    obtain ⟨j, x, hx, rfl⟩ := c.plan.all i (Array.getElem?_eq_some_iff.1 h2).1
    have hat := (c.plan.po hx).at_
    rw [h2] at hat
    cases hat
    have hlt := left_lt (In_not h1).1 (Array.getElem?_eq_some_iff.1 h2).1 h.size
    exact h.go hev hN c hh hx (In_not h1).1 (fun e he ho => h3 e (Array.mem_toList_iff.1 he) ho) fun a' w' q m' fr' g1 g2 => ih _ a' w' q m' fr' g1 g2 (by omega)

/-- **A region that draws its order.** -/
theorem drawn_snd (hN : NamesOk P) (hm : P.follows .mixedOrders = true) : DrawSnd P := by
  intro ev hev ro nt id ops fr H n x fr' H' n' hr
  unfold drawnF at hr
  split at hr
  · rename_i L hL
    split at hr
    · rename_i tr frE HE nE ht
      obtain ⟨hra, hr2⟩ := cnd_some hr
      cases hr2
      clear hr
      obtain ⟨t1, t2, t3, t4, t5⟩ := traceF_ok L ht
      have hlast : stOf tr ⟨fr', H', n', none⟩ L.length = ⟨fr', H', n', none⟩ := by
        unfold stOf
        rw [List.getElem?_eq_none (by omega)]
        rfl
      have c : Ctx P ev nt ops L (stOf tr ⟨fr', H', n', none⟩) n' := {
        plan := plan_ok hL
        step := t5
        last := by rw [hlast]
        read := fun {j q y} g1 g2 g3 g4 g5 g6 g7 g8 => by
          have hj : j < tr.length := by rw [t1]; exact (List.getElem?_eq_some_iff.1 g1).1
          have hs : tr[j]? = some tr[j] := List.getElem?_eq_getElem hj
          have hS : stOf tr ⟨fr', H', n', none⟩ j = tr[j] := by unfold stOf; rw [hs]; rfl
          rw [hS] at g7 ⊢
          have := readsAll_at hra g1 hs g4 g5 g6 g7
          have := readAt_at (frE := fr') (nE := n') t1 this q g2 g3 (by rwa [Nat.zero_add])
          obtain ⟨v, hv⟩ := Option.isSome_iff_exists.1 g7
          rw [hv] at this ⊢
          unfold oveq at this
          split at this
          · rename_i u v2 e1 e2
            cases e2
            rw [e1, veq_eq this]
          · cases this }
      have hle : n ≤ n' := by
        have := c.mono hev (i := 0) (j := L.length) (Nat.zero_le _) (Nat.le_refl _)
        rw [t4, hlast] at this
        exact this
      refine ⟨hle, fun m w a h hf hfr hro => wpIn_region_any hm ?_⟩
      have h0 : Inv P ops L (stOf tr ⟨fr', H', n', none⟩) n' nt m H n w a.defers (Array.replicate ops.size false) a w.drew 0 m fr := {
        size := by simp
        closed := fun i y _ hi => by
          unfold In at hi
          rw [Array.getD_eq_getD_getElem?, Array.getElem?_replicate] at hi
          split at hi <;> cases hi
        ple := Nat.zero_le _
        before := fun j y g => by omega
        after := fun j y _ _ hi => by
          unfold In at hi
          rw [Array.getD_eq_getD_getElem?, Array.getElem?_replicate] at hi
          split at hi <;> cases hi
        rel := by rw [t3]; exact h.drew
        frel := hf
        dfs := rfl
        fi := fun j t hj g1 g2 => by
          have := c.noWrite (t := t) j 0 (by omega) (fun i y _ g3 g4 g5 => by
            have hi := g1 i y (by omega) g4 g5
            unfold In at hi
            rw [Array.getD_eq_getD_getElem?, Array.getElem?_replicate] at hi
            split at hi <;> cases hi)
          rw [Nat.zero_add] at this
          rw [this, t2]
        evol := by rw [t3, t4]; exact Evol.drew m H n w
        low := fun j hj => by
          have := c.mono hev (i := 0) (j := j) (Nat.zero_le _) hj
          rw [t4] at this
          exact this
        miss := fun j y X g => by omega
        free := fun b g1 g2 => by
          rw [t4] at g1
          exact hfr b g1 g2 }
      obtain ⟨q, h1, h2⟩ := h0.next hev c L.length 0 (by omega)
      refine any_sound hev hN c ?_ ops.size _ a w.drew q m fr h1 h2 ?_
      · intro a' w' m' frx k1 k2 k3 k4 k5
        rw [hlast] at k1 k2 k4
        exact ⟨rfl, m', [], k1, k2, ⟨k3.size, fun i => by rw [← k4 i]; exact k3.at_ i⟩, k5, Marks.nil _ _ _⟩
      · unfold left
        exact Nat.le_trans List.countP_le_length (by simp)
    · cases hr
  · cases hr

/-- **A run of the evaluator is a call in the model.** -/
theorem run_calls (hN : NamesOk P) (hm : P.follows .mixedOrders = true) (f : Nat) {H : Hp} {n : Nat} {g : FuncId} {args args' : List Value} {v : Value} {H' : Hp} {n' : Nat} (hr : run (envOf P) f g args H n = some (v, H', n')) (h : Rel P m H w) (ha : VRels m args args') (hf : ∀ b, n ≤ b → b < n' → m b = none) :
    Calls P g args'.toArray w (Back P m H n w v H' n') := run_sound hN (drawn_snd hN hm) f hr h ha hf
end Go.Ab

/- Smaller heaps. -/
namespace Go.Ab
variable {P : Program} {m : Mp} {H H2 : Hp} {w : World}

/-- Of a heap, a part: what is forgotten is not asked for. -/
theorem Rel.sub (h : Rel P m H w) (hs : ∀ b X, H2.get b = some X → H.get b = some X) : Rel P m H2 w :=
  ⟨fun b X pl h1 h2 => h.blk b X pl (hs b X h1) h2, fun b1 b2 X1 X2 p1 p2 h0 h1 h2 => h.sep b1 b2 X1 X2 p1 p2 h0 (hs b1 X1 h1) (hs b2 X2 h2), h.glob, h.inb⟩

/-- A part of a heap, with other numbers: m2 names some of the blocks that m names, under numbers of its own. -/
theorem Rel.rename {m2 : Mp} (h : Rel P m H w) (f : Nat → Nat) (hf : ∀ a b, (∃ pl, m2 a = some pl) → (∃ pl, m2 b = some pl) → f a = f b → a = b) (hm : ∀ b pl, m2 b = some pl → m (f b) = some pl)
    (hs : ∀ b X, (∃ pl, m2 b = some pl) → H2.get b = some X → H.get (f b) = some X) (hX : ∀ b X pl, m2 b = some pl → H2.get b = some X → BRel P m X pl w → BRel P m2 X pl w)
    (hg : ∀ g, g < P.globals.size → ∃ pl, m2 g = some pl ∧ pl.B = g ∧ pl.base = 0) : Rel P m2 H2 w :=
  ⟨fun b X pl h1 h2 => hX b X pl h2 h1 (h.blk (f b) X pl (hs b X ⟨pl, h2⟩ h1) (hm b pl h2)),
   fun b1 b2 X1 X2 p1 p2 h0 h1 h2 h3 h4 h5 h6 => h.sep (f b1) (f b2) X1 X2 p1 p2 (fun e => h0 (hf b1 b2 ⟨p1, h3⟩ ⟨p2, h4⟩ e)) (hs b1 X1 ⟨p1, h3⟩ h1) (hs b2 X2 ⟨p2, h4⟩ h2) (hm b1 p1 h3) (hm b2 p2 h4) h5 h6,
   hg, fun b pl h1 => h.inb (f b) pl (hm b pl h1)⟩
end Go.Ab
