/- Contracts of functions: bytes, info, lists, scan.Scan. -/
import Derived.Test.YtjmfknlbnnpbiaaGreatDoorOp3

set_option linter.all false

/- The program's functions: bytes; small things of Go's library. -/
namespace Go.Ab
open Go.Proofs
@[simp] theorem eqStr (a b : ByteArray) (x y : Operand) : lBin TE .eql 9 x y (some (.string a)) (some (.string b)) = some (.bool (a.toList == b.toList)) := by kernel_rfl
@[simp] theorem eqBool (a b : Bool) (x y : Operand) : lBin TE .eql 4 x y (some (.bool a)) (some (.bool b)) = some (.bool (a == b)) := by kernel_rfl
@[simp] theorem notB (b : Bool) : lUn TE .not (some (.bool b)) = some (.bool !b) := by kernel_rfl
@[simp] theorem minI (H : Hp) (a b : Int) : lBuiltin TE H .min #[3, 3] (some [.int .i64 a, .int .i64 b]) = some (.int .i64 (if b < a then b else a)) := by kernel_rfl
@[simp] theorem maxI (H : Hp) (a b : Int) : lBuiltin TE H .max #[3, 3] (some [.int .i64 a, .int .i64 b]) = some (.int .i64 (if a < b then b else a)) := by kernel_rfl
@[simp] theorem negI (b : Int) : lUn TE .neg (some (.int .i64 b)) = some (.int .i64 (IntKind.wrap .i64 (0 - b))) := by kernel_rfl

/-! Bytes. -/
theorem toList_loop (bs : ByteArray) : ∀ (k i : Nat) (r : List UInt8), k = bs.size - i → i ≤ bs.size → ByteArray.toList.loop bs i r = r.reverse ++ bs.data.toList.drop i := by
  intro k
  induction k with
  | zero =>
    intro i r hk hi
    unfold ByteArray.toList.loop
    have h1 : ¬ i < bs.size := by omega
    rw [if_neg h1]
    have h2 : bs.data.toList.length ≤ i := by simp; exact Nat.le_of_not_lt h1
    rw [List.drop_eq_nil_of_le h2, List.append_nil]
  | succ k ih =>
    intro i r hk hi
    unfold ByteArray.toList.loop
    have h1 : i < bs.size := by omega
    rw [if_pos h1, ih (i + 1) _ (by omega) (by omega)]
    have h2 : i < bs.data.toList.length := by simpa using h1
    rw [List.drop_eq_getElem_cons h2]
    have h3 : bs.get! i = bs.data.toList[i] := by
      show bs.data[i]! = _
      rw [getElem!_pos bs.data i (by simpa using h2)]
      simp
    simp [h3]
theorem toList_data (bs : ByteArray) : bs.toList = bs.data.toList := by
  unfold ByteArray.toList
  rw [toList_loop bs bs.size 0 [] (by omega) (by omega)]
  simp
@[simp] theorem toList_mk (l : List UInt8) : (ByteArray.mk l.toArray).toList = l := by rw [toList_data]
@[simp] theorem toList_empty2 : ByteArray.empty.toList = [] := by rw [toList_data]; rfl

def u8s (bs : List UInt8) : List Value := bs.map fun b => .int .u8 b.toNat
@[simp] theorem u8s_len (bs : List UInt8) : (u8s bs).length = bs.length := by simp [u8s]
theorem u8s_get {bs : List UInt8} {i : Nat} (h : i < bs.length) : (u8s bs)[i]? = some (.int .u8 (bs[i]).toNat) := by simp [u8s, h]
theorem u8s_append (a b : List UInt8) : u8s (a ++ b) = u8s a ++ u8s b := by simp [u8s]
theorem u8s_take (a : List UInt8) (k : Nat) : (u8s a).take k = u8s (a.take k) := by simp [u8s, List.map_take]
theorem u8s_drop (a : List UInt8) (k : Nat) : (u8s a).drop k = u8s (a.drop k) := by simp [u8s, List.map_drop]
theorem u8s_cell1 (a : List UInt8) : (u8s a).all cell1 = true := by simp [u8s]
theorem bytesOf_u8s : ∀ (bs : List UInt8), bytesOf (u8s bs) = some bs
  | [] => rfl
  | b :: bs => by
    show (match bytesOf (u8s bs) with | some l => some (UInt8.ofNat ((b.toNat : Int)).toNat :: l) | none => none) = _
    rw [bytesOf_u8s bs]
    simp

/-- A slice of bytes. -/
abbrev By (H : Hp) (s : Value) (bs : List UInt8) : Prop := Sl H 5 1 s bs.length (u8s bs)
variable {H : Hp} {s : Value} {bs : List UInt8} {n : Nat}
theorem By.ix (h : By H s bs) {i : Nat} (hi : i < bs.length) : lIndexA TE 22 (some s) (some (.int .i64 (i : Int))) = some (.pointer (some (adr s i))) := by
  have := h.index ty22 ty5 rfl (k := .i64) (i := (i : Int)) (by omega) (by omega)
  simpa using this
theorem By.ixI (h : By H s bs) {i : Int} (h0 : 0 ≤ i) (hi : i < bs.length) : lIndexA TE 22 (some s) (some (.int .i64 i)) = some (.pointer (some (adr s i.toNat))) := by
  have := h.index ty22 ty5 rfl (k := .i64) (i := i) h0 (by omega)
  simpa using this
theorem By.ld (h : By H s bs) {i : Nat} (hi : i < bs.length) : ldS H (adr s i) = some (.int .u8 (bs[i]).toNat) := by
  rw [h.ldS (by omega), u8s_get hi]
theorem By.ln (h : By H s bs) : lLen TE (some 22) s = some (.int .i64 bs.length) := h.len ty22
theorem By.part (h : By H s bs) {lo hi : Option Value} {l u : Nat} (hlo : lo = some (.int .i64 l) ∨ (lo = none ∧ l = 0)) (hhi : hi = some (.int .i64 u) ∨ (hi = none ∧ u = bs.length)) (hl : l ≤ u) (hu : u ≤ bs.length) :
    ∃ s', lSlice TE H 22 (some s) (some lo) (some hi) = some s' ∧ By H s' ((bs.drop l).take (u - l)) := by
  obtain ⟨s', h1, h2, _⟩ := h.slice ty22 ty5 rfl hlo hhi hl hu
  refine ⟨s', h1, ?_⟩
  have e1 : ((bs.drop l).take (u - l)).length = u - l := by simp; omega
  unfold By
  rw [e1]
  simpa [u8s_drop, u8s_take] using h2
theorem By.str (h : By H s bs) : lConv TE H 22 9 (some s) = some (.string ⟨bs.toArray⟩) := by
  obtain ⟨base, cap, h1, h2, h3, h4⟩ := h.sh
  subst h1
  show convS TE H 22 9 base bs.length = _
  unfold convS
  simp only [ty22, ty9, isU8, ty5, cnd_true]
  cases base with
  | none =>
    have : bs = [] := List.eq_nil_of_length_eq_zero h4.1
    subst this
    rfl
  | some a =>
    obtain ⟨h5, c, te, k, h6, h7, h8, h9⟩ := h4
    have e : readC H a bs.length = some (u8s bs) := by
      unfold readC
      cases hb : bs.length with
      | zero =>
        have : bs = [] := List.eq_nil_of_length_eq_zero hb
        subst this; rfl
      | succ m =>
        rw [h6]
        simp only [Nat.mul_one] at h8 h9
        rw [hb] at h8 h9
        simp only [Nat.ble_eq_true_of_le h8, cnd_true, h9]
    simp only [bytesStr, e, bytesOf_u8s]

theorem By.copy (h : By H s bs) (a : Addr) (m c : Nat) : hBuiltin TE H n .copy #[22, 22] (some [.slice (some a) m c, s]) = (match writeC H a (u8s (bs.take m)) with
    | some H' => some (.int .i64 (Nat.min bs.length m : Nat), H', n)
    | none => none) := by
  obtain ⟨base, cap, h1, h2, h3, h4⟩ := h.sh
  subst h1
  show hCopy TE H n (some 22) (.slice (some a) m c) (.slice base bs.length cap) = _
  have e0 : elemT TE 22 = some (5, ⟨1, false, [.int .u8 0], .int .u8, 1⟩) := by simp [elemT]
  unfold hCopy
  simp only [e0]
  cases base with
  | none =>
    have : bs = [] := List.eq_nil_of_length_eq_zero h4.1
    subst this
    simp [copyCells, u8s, writeC, goInt]
  | some a' =>
    obtain ⟨h5, c', te, k, h6, h7, h8, h9⟩ := h4
    have e : readC H a' (Nat.min bs.length m * 1) = some (u8s (bs.take m)) := by
      have e1 : Nat.min bs.length m ≤ bs.length := Nat.min_le_left ..
      rw [readC_of h6 (by omega), Nat.mul_one, ← u8s_take, ← h9, List.take_take, Nat.mul_one, Nat.min_comm m]
    simp only [copyCells, e]
    rfl

/-! bytes.Equal, HasPrefix, CutPrefix. -/
theorem equal_spec {t : Value} {cs : List UInt8} (h : By H s bs) (h' : By H t cs) : WCall TE 41 [s, t] H n (fun v H' n' => v = .bool (bs == cs) ∧ H' = H ∧ n' = n) := by
  refine WCall_intro rfl fn41 rfl rfl ?_
  simp [Tryz.f41, h.str, h'.str]
theorem equal_eq {t : Value} {cs : List UInt8} (h : By H s bs) (h' : By H t cs) (K) : WCall TE 41 [s, t] H n K ↔ K (.bool (bs == cs)) H n := WCall.pure (equal_spec h h') K

theorem hasPrefix_spec {t : Value} {cs : List UInt8} (h : By H s bs) (h' : By H t cs) : WCall TE 49 [s, t] H n (fun v H' n' => v = .bool (decide (cs.length ≤ bs.length) && bs.take cs.length == cs) ∧ H' = H ∧ n' = n) := by
  refine WCall_intro rfl fn49 rfl rfl ?_
  by_cases hl : cs.length ≤ bs.length
  · obtain ⟨s', e1, e2⟩ := h.part (lo := none) (hi := some (.int .i64 cs.length)) (l := 0) (u := cs.length) (.inr ⟨rfl, rfl⟩) (.inl rfl) (by omega) hl
    simp [Tryz.f49, h.ln, h'.ln, hl, lSlice3, e1, equal_eq e2 h']
  · simp [Tryz.f49, h.ln, h'.ln, hl]

theorem hasPrefix_eq {t : Value} {cs : List UInt8} (h : By H s bs) (h' : By H t cs) (K) : WCall TE 49 [s, t] H n K ↔ K (.bool (decide (cs.length ≤ bs.length) && bs.take cs.length == cs)) H n := WCall.pure (hasPrefix_spec h h') K
theorem cutPrefix_spec {t : Value} {cs : List UInt8} (h : By H s bs) (h' : By H t cs) : WCall TE 40 [s, t] H n (fun v H' n' => H' = H ∧ n' = n ∧
    ((cs.length ≤ bs.length ∧ bs.take cs.length = cs ∧ ∃ s', v = .tuple #[s', .bool true] ∧ By H s' (bs.drop cs.length)) ∨ (¬ (cs.length ≤ bs.length ∧ bs.take cs.length = cs) ∧ v = .tuple #[s, .bool false]))) := by
  refine WCall_intro rfl fn40 rfl rfl ?_
  simp [Tryz.f40, hasPrefix_eq h h']
  by_cases hl : cs.length ≤ bs.length
  · by_cases hp : bs.take cs.length = cs
    · obtain ⟨s', e1, e2⟩ := h.part (lo := some (.int .i64 cs.length)) (hi := none) (l := cs.length) (u := bs.length) (.inl rfl) (.inr ⟨rfl, rfl⟩) hl (by omega)
      have e3 : (bs.drop cs.length).take (bs.length - cs.length) = bs.drop cs.length := by rw [List.take_of_length_le (by simp)]
      rw [e3] at e2
      simp [hl, hp, h'.ln, lSlice3, e1]
      exact e2
    · have hp2 : (bs.take cs.length == cs) = false := by simpa using hp
      simp [hl, hp, hp2]
  · simp [hl]
end Go.Ab

/- The program's functions: package info. -/
namespace Go.Ab
open Go.Proofs
variable {H : Hp} {s : Value} {bs : List UInt8} {n : Nat}

def body (f : Func) : Code := f.body.getD .skip
def seqA : Code → Code
  | .seq a _ => a
  | c => c
def seqB : Code → Code
  | .seq _ b => b
  | c => c

@[simp] theorem within_eq (x a b : Int) (K) : WCall TE 88 [.int .i64 x, .int .i64 a, .int .i64 b] H n K ↔ K (.bool (decide (a ≤ x ∧ x ≤ b))) H n := by
  refine WCall.pure (WCall_intro rfl fn88 rfl rfl ?_) K
  by_cases h : a ≤ x <;> simp [Tryz.f88, h]

/-- An info's cells. -/
def inf (r c d mb xb mf xf t : Int) (ss : List Value) : List Value := .int .i64 r :: .int .i64 c :: .int .i64 d :: .int .i64 mb :: .int .i64 xb :: .int .i64 mf :: .int .i64 xf :: .int .i64 t :: ss
def paramsOk (r c d : Int) : Prop := (1 ≤ r ∧ r ≤ 1048575) ∧ (1 ≤ c ∧ c ≤ 8) ∧ (4 ≤ d ∧ d ≤ 32)
def blocksOk (mb xb : Int) : Prop := (16 ≤ mb ∧ mb ≤ 65535) ∧ (mb ≤ xb ∧ xb ≤ 65535)
def framesOk (mf xf : Int) : Prop := (0 ≤ mf ∧ mf ≤ 16777215) ∧ (0 ≤ xf ∧ xf ≤ 16777215) ∧ (mf = 0 ∨ xf = 0 ∨ mf ≤ xf)
def totalOk (t : Int) : Prop := 0 ≤ t ∧ t ≤ 68719476735
instance (r c d : Int) : Decidable (paramsOk r c d) := by unfold paramsOk; infer_instance
instance (mb xb : Int) : Decidable (blocksOk mb xb) := by unfold blocksOk; infer_instance
instance (mf xf : Int) : Decidable (framesOk mf xf) := by unfold framesOk; infer_instance
instance (t : Int) : Decidable (totalOk t) := by unfold totalOk; infer_instance
def infoErr (r c d mb xb mf xf t : Int) : Int := if paramsOk r c d ∧ blocksOk mb xb ∧ framesOk mf xf ∧ totalOk t then 0 else 10

variable {r c d mb xb mf xf t : Int} {ss : List Value} {fr : Fr} {p : Nat}
theorem check_r1 (hp : H.get p = some (.cells (inf r c d mb xb mf xf t ss) 40 .own)) (h1 : fr.get 1 = some (.pointer (some ⟨p, 0, none⟩))) :
    Wp TE 74 (seqA (seqB (body Tryz.f48))) fr H n (fun x fr' H' n' => x = .normal ∧ H' = H ∧ n' = n ∧ fr'.get 1 = some (.pointer (some ⟨p, 0, none⟩)) ∧ fr'.get 3 = some (.bool (decide (paramsOk r c d)))) := by
  by_cases e1 : 1 ≤ r ∧ r ≤ 1048575
  · by_cases e2 : 1 ≤ c ∧ c ≤ 8
    · simp [Tryz.f48, body, seqA, seqB, h1, ldS, hp, inf, e1, e2, paramsOk]
    · simp [Tryz.f48, body, seqA, seqB, h1, ldS, hp, inf, e1, e2, paramsOk]
  · simp [Tryz.f48, body, seqA, seqB, h1, ldS, hp, inf, e1, paramsOk]
theorem check_r2 (hp : H.get p = some (.cells (inf r c d mb xb mf xf t ss) 40 .own)) (h1 : fr.get 1 = some (.pointer (some ⟨p, 0, none⟩))) {b3 : Bool} (h3 : fr.get 3 = some (.bool b3)) :
    Wp TE 74 (seqA (seqB (seqB (body Tryz.f48)))) fr H n (fun x fr' H' n' => x = .normal ∧ H' = H ∧ n' = n ∧ fr'.get 1 = some (.pointer (some ⟨p, 0, none⟩)) ∧ fr'.get 3 = some (.bool b3) ∧ fr'.get 4 = some (.bool (decide (blocksOk mb xb)))) := by
  by_cases e1 : 16 ≤ mb ∧ mb ≤ 65535
  · simp [Tryz.f48, body, seqA, seqB, h1, h3, ldS, hp, inf, e1, blocksOk]
  · simp [Tryz.f48, body, seqA, seqB, h1, h3, ldS, hp, inf, e1, blocksOk]
theorem check_r34 (hp : H.get p = some (.cells (inf r c d mb xb mf xf t ss) 40 .own)) (h1 : fr.get 1 = some (.pointer (some ⟨p, 0, none⟩))) {b3 b4 : Bool} (h3 : fr.get 3 = some (.bool b3)) (h4 : fr.get 4 = some (.bool b4)) :
    Wp TE 74 (.seq (seqA (seqB (seqB (seqB (body Tryz.f48))))) (seqA (seqB (seqB (seqB (seqB (body Tryz.f48))))))) fr H n (fun x fr' H' n' => x = .normal ∧ H' = H ∧ n' = n ∧ fr'.get 1 = some (.pointer (some ⟨p, 0, none⟩)) ∧ fr'.get 3 = some (.bool b3) ∧ fr'.get 4 = some (.bool b4) ∧ fr'.get 5 = some (.bool (decide (framesOk mf xf)))) := by
  by_cases e1 : 0 ≤ mf ∧ mf ≤ 16777215
  · by_cases e2 : 0 ≤ xf ∧ xf ≤ 16777215
    · by_cases e3 : mf = 0
      · simp [Tryz.f48, body, seqA, seqB, h1, h3, h4, ldS, hp, inf, e1, e2, e3, framesOk]
      · by_cases e4 : xf = 0
        · simp [Tryz.f48, body, seqA, seqB, h1, h3, h4, ldS, hp, inf, e1, e2, e3, e4, framesOk]
        · simp [Tryz.f48, body, seqA, seqB, h1, h3, h4, ldS, hp, inf, e1, e2, e3, e4, framesOk]
    · simp [Tryz.f48, body, seqA, seqB, h1, h3, h4, ldS, hp, inf, e1, e2, framesOk]
  · simp [Tryz.f48, body, seqA, seqB, h1, h3, h4, ldS, hp, inf, e1, framesOk]
theorem check_end (hp : H.get p = some (.cells (inf r c d mb xb mf xf t ss) 40 .own)) (h1 : fr.get 1 = some (.pointer (some ⟨p, 0, none⟩))) {b3 b4 b5 : Bool} (h3 : fr.get 3 = some (.bool b3)) (h4 : fr.get 4 = some (.bool b4)) (h5 : fr.get 5 = some (.bool b5)) :
    Wp TE 74 (seqB (seqB (seqB (seqB (seqB (body Tryz.f48)))))) fr H n (fun x fr' H' n' => x = .ret ∧ H' = H ∧ n' = n ∧ fr'.get 2 = some (.int .i64 (if b3 = true ∧ b4 = true ∧ b5 = true ∧ totalOk t then 0 else 10))) := by
  cases b3
  · simp [Tryz.f48, body, seqA, seqB, h1, h3, h4, h5, ldS, hp, inf]
  cases b4
  · simp [Tryz.f48, body, seqA, seqB, h1, h3, h4, h5, ldS, hp, inf]
  cases b5
  · simp [Tryz.f48, body, seqA, seqB, h1, h3, h4, h5, ldS, hp, inf]
  by_cases e : 0 ≤ t ∧ t ≤ 68719476735
  · simp [Tryz.f48, body, seqA, seqB, h1, h3, h4, h5, ldS, hp, inf, e, totalOk]
  · simp [Tryz.f48, body, seqA, seqB, h1, h3, h4, h5, ldS, hp, inf, e, totalOk]

theorem infoCheck_spec (hs : ss.length = 16) (hc : ss.all cell1 = true) : WCall TE 48 [.agg (inf r c d mb xb mf xf t ss).toArray] H n (fun v H' n' => v = .int .i64 (infoErr r c d mb xb mf xf t) ∧ Keep H n H' n') := by
  refine WCall_intro rfl fn48 rfl rfl ?_
  have e0 : Tryz.f48.body.getD .skip = body Tryz.f48 := rfl
  show Wp TE 74 (.seq (seqA (body Tryz.f48)) (.seq (seqA (seqB (body Tryz.f48))) (.seq (seqA (seqB (seqB (body Tryz.f48)))) (.seq (seqA (seqB (seqB (seqB (body Tryz.f48))))) (.seq (seqA (seqB (seqB (seqB (seqB (body Tryz.f48)))))) (seqB (seqB (seqB (seqB (seqB (body Tryz.f48)))))))))))  _ H n (RetQ TE [.tmp 2] _)
  refine Wp_seq ?_
  refine Wp.mono (Q := fun x fr' H' n' => x = .normal ∧ H' = H.put n (.cells (inf r c d mb xb mf xf t ss) 40 .own) ∧ n' = n + 1 ∧ fr'.get 1 = some (.pointer (some ⟨n, 0, none⟩))) ?_ ?_
  · simp [Tryz.f48, body, seqA, hBox, newB]
  rintro x fr' H' n' ⟨rfl, rfl, rfl, h1⟩
  refine Wp_seq (Wp.mono (check_r1 (T.get_put_same _ _ _) h1) ?_)
  rintro x fr' H' n' ⟨rfl, rfl, rfl, h1, h3⟩
  refine Wp_seq (Wp.mono (check_r2 (T.get_put_same _ _ _) h1 h3) ?_)
  rintro x fr' H' n' ⟨rfl, rfl, rfl, h1, h3, h4⟩
  have key := check_r34 (n := n + 1) (T.get_put_same H n _) h1 h3 h4 (r := r) (c := c) (d := d) (mb := mb) (xb := xb) (mf := mf) (xf := xf) (t := t) (ss := ss)
  rw [wp_seq] at key
  refine Wp_seq (Wp.mono key ?_)
  intro x fr' H' n' hq
  cases x with
  | exit i => exact absurd hq.1 (by simp)
  | ret => exact absurd hq.1 (by simp)
  | normal =>
    refine Wp_seq (Wp.mono hq ?_)
    rintro x fr' H' n' ⟨rfl, rfl, rfl, h1, h3, h4, h5⟩
    refine Wp.mono (check_end (T.get_put_same _ _ _) h1 h3 h4 h5) ?_
    rintro x fr' H' n' ⟨rfl, rfl, rfl, h2⟩
    simp [h2, infoErr, Keep.new]
end Go.Ab

/- The program's functions: package info: reading. -/
namespace Go.Ab
open Go.Proofs
set_option linter.unusedSimpArgs false
variable {H : Hp} {s : Value} {bs : List UInt8} {n : Nat}

attribute [simp] Hp.sub_refl
theorem Fresh.new {X : Blk} (h : Fresh H n) : Fresh (H.put n X) (n + 1) := (Grow.new H n X h).2
theorem Fresh.old {X Y : Blk} {b : Nat} (h : Fresh H n) (hb : H.get b = some X) : Fresh (H.put b Y) n := (Grow.old (n := n) hb h).2
theorem Fresh.lt {X : Blk} {b : Nat} (h : Fresh H n) (hb : H.get b = some X) : b < n := by
  by_cases e : b < n
  · exact e
  · rw [h b (by omega)] at hb; cases hb

/-! Numbers. -/
noncomputable def numS (x : Int) (b : UInt8) : Int := bitI .or .i64 (wr .i64 (x * 256)) b.toNat
noncomputable def num (bs : List UInt8) : Int := bs.foldl numS 0
theorem num_take {i : Nat} (hi : i < bs.length) : num (bs.take (i + 1)) = numS (num (bs.take i)) bs[i] := by
  unfold num
  rw [List.take_succ_eq_append_getElem hi, List.foldl_append]
  rfl

theorem number_eq (h : By H s bs) (hl : bs.length < 1000000000) (K) : WCall TE 47 [s] H n K ↔ K (.int .i64 (num bs)) H n := by
  refine WCall.pure (WCall_intro rfl fn47 rfl rfl ?_) K
  simp [Tryz.f47, h.ln]
  refine Wp_loop (fun k fr H' n' => ∃ (i : Nat), k = bs.length - i ∧ i ≤ bs.length ∧ fr.get 6 = some s ∧ fr.get 7 = some (.int .i64 bs.length) ∧ fr.get 8 = some (.int .i64 i) ∧ fr.get 3 = some (.int .i64 (num (bs.take i))) ∧ H' = H ∧ n' = n) ?_ (k := bs.length) ?_
  · rintro k fr H' n' ⟨i, rfl, hi, g6, g7, g8, g3, rfl, rfl⟩
    by_cases hlt : i < bs.length
    · have e : (i : Int) < bs.length := by omega
      have e2 : wr .i64 ((i : Int) + 1) = (i + 1 : Nat) := by rw [wr_i64 (by omega) (by omega)]; omega
      simp [g6, g7, g8, g3, e, h.ix hlt, h.ld hlt, e2]
      refine ⟨bs.length - (i + 1), by omega, i + 1, rfl, by omega, by omega, ?_⟩
      rw [num_take hlt]
      rfl
    · have e : ¬ (i : Int) < bs.length := by omega
      have e2 : bs.take i = bs := List.take_of_length_le (by omega)
      simp [g6, g7, g8, g3, e, e2]
  · exact ⟨0, by simp [num]⟩

/-! What an info's bytes tell. -/
noncomputable def infRate (bs : List UInt8) : Int := bitI .and .i64 (num ((bs.drop 10).take 8) / 17592186044416) 1048575
noncomputable def infCh (bs : List UInt8) : Int := wr .i64 (bitI .and .i64 (num ((bs.drop 10).take 8) / 2199023255552) 7 + 1)
noncomputable def infDepth (bs : List UInt8) : Int := wr .i64 (bitI .and .i64 (num ((bs.drop 10).take 8) / 68719476736) 31 + 1)
noncomputable def infTotal (bs : List UInt8) : Int := bitI .and .i64 (num ((bs.drop 10).take 8)) 68719476735
noncomputable def infCells (bs : List UInt8) : List Value := inf (infRate bs) (infCh bs) (infDepth bs) (num (bs.take 2)) (num ((bs.drop 2).take 2)) (num ((bs.drop 4).take 3)) (num ((bs.drop 7).take 3)) (infTotal bs) (u8s (bs.drop 18))
noncomputable def infErr (bs : List UInt8) : Int := infoErr (infRate bs) (infCh bs) (infDepth bs) (num (bs.take 2)) (num ((bs.drop 2).take 2)) (num ((bs.drop 4).take 3)) (num ((bs.drop 7).take 3)) (infTotal bs)
def infZero : List Value := inf 0 0 0 0 0 0 0 0 (List.replicate 16 (.int .u8 0))

theorem buildInf0 : buildV TE 40 [] = some (.agg infZero.toArray) := by kernel_rfl
theorem buildInf (a b c d : Int) : buildV TE 40 [(1, .int .i64 a), (2, .int .i64 b), (3, .int .i64 c), (4, .int .i64 d)] = some (.agg (inf 0 0 0 a b c d 0 (List.replicate 16 (.int .u8 0))).toArray) := by kernel_rfl

theorem Sl.kept {H' : Hp} {n' e esz m : Nat} {s : Value} {cs : List Value} (h : Sl H e esz s m cs) (hf : Fresh H n) (hk : Keep H n H' n') : Sl H' e esz s m cs := by
  refine h.keep fun a l c hs => hk.2 _ ?_
  obtain ⟨base, cap, h1, h2, h3, h4⟩ := h.sh
  rw [hs] at h1
  cases h1
  obtain ⟨h5, c', te, k, h6, _⟩ := h4
  exact hf.lt h6

theorem Sl.veq {e esz m : Nat} {s : Value} {cs : List Value} (h : Sl H e esz s m cs) : veq s s = true := by
  obtain ⟨base, cap, h1, _⟩ := h.sh
  subst h1
  show (decide (base = base) && decide (m = m) && decide (cap = cap)) = true
  simp

theorem infoRead_spec (h : By H s bs) (hl : bs.length = 34) (hf : Fresh H n) : WCall TE 23 [s] H n (fun v H' n' => v = .tuple #[.agg (if infErr bs = 0 then infCells bs else infZero).toArray, .int .i64 (infErr bs)] ∧ Keep H n H' n') := by
  refine WCall_intro rfl fn23 rfl rfl ?_
  simp [Tryz.f23, h.ln, hl, hAlloc, newB]
  generalize hG : H.put n _ = G
  have k1 : Keep H n G (n + 1) := hG ▸ .new _
  have hf1 : Fresh G (n + 1) := hG ▸ hf.new
  have h1 : By G s bs := h.kept hf k1
  have g1 : G.get n = some (.cells infZero 40 .own) := by rw [← hG]; simp [infZero, inf, List.replicate]
  clear hG
  obtain ⟨s1, e1, p1⟩ := h1.part (lo := none) (hi := some (.int .i64 2)) (l := 0) (u := 2) (.inr ⟨rfl, rfl⟩) (.inl rfl) (by omega) (by omega)
  obtain ⟨s2, e2, p2⟩ := h1.part (lo := some (.int .i64 2)) (hi := some (.int .i64 4)) (l := 2) (u := 4) (.inl rfl) (.inl rfl) (by omega) (by omega)
  obtain ⟨s3, e3, p3⟩ := h1.part (lo := some (.int .i64 4)) (hi := some (.int .i64 7)) (l := 4) (u := 7) (.inl rfl) (.inl rfl) (by omega) (by omega)
  obtain ⟨s4, e4, p4⟩ := h1.part (lo := some (.int .i64 7)) (hi := some (.int .i64 10)) (l := 7) (u := 10) (.inl rfl) (.inl rfl) (by omega) (by omega)
  refine Wp_drawn [0, 1, 3, 4, 6, 7, 9, 10, 13, 2, 5, 8, 11, 12, 14] [(3, 4, 10), (5, 7, 10), (5, 7, 11), (7, 10, 10), (7, 10, 11), (7, 10, 12)] (by kernel_rfl) hf1 ?_
  have kp : ∀ {X : Blk} {t : Value} {ts : List UInt8}, By G t ts → By (G.put (n + 1) X) t ts := fun ht => ht.kept hf1 (.new _)
  have q2 := fun X => lSlice_mono (Hp.sub_put hf1 X) e2
  have q3 := fun X => lSlice_mono (Hp.sub_put hf1 X) e3
  have q4 := fun X => lSlice_mono (Hp.sub_put hf1 X) e4
  have l1 : ((bs.drop 0).take (2 - 0)).length < 1000000000 := by simp; omega
  have l2 : ((bs.drop 2).take (4 - 2)).length < 1000000000 := by simp; omega
  have l3 : ((bs.drop 4).take (7 - 4)).length < 1000000000 := by simp; omega
  have l4 : ((bs.drop 7).take (10 - 7)).length < 1000000000 := by simp; omega
  simp [lSlice3, e1, e2, e3, e4, q2, q3, q4, p1.veq, p2.veq, p3.veq, p4.veq, h1.veq, isStr, hAlloc, newB, number_eq (kp p1) l1, number_eq (kp p2) l2, number_eq (kp p3) l3, number_eq (kp p4) l4, buildInf, inf, writeC]
  generalize hG : G.put (n + 1) _ = G2
  have k2 : Keep G (n + 1) G2 (n + 1 + 1) := hG ▸ Keep.new _
  have hf2 : Fresh G2 (n + 1 + 1) := hG ▸ hf1.new
  have h2 : By G2 s bs := h1.kept hf1 k2
  have g2 : G2.get n = some (.cells infZero 40 .own) := by rw [k2.get (by omega)]; exact g1
  have g3 : G2.get (n + 1) = some (.cells (inf 0 0 0 (num (bs.take 2)) (num ((bs.drop 2).take 2)) (num ((bs.drop 4).take 3)) (num ((bs.drop 7).take 3)) 0 (List.replicate 16 (.int .u8 0))) 40 .own) := by rw [← hG]; simp [inf, List.replicate]
  clear hG kp
  obtain ⟨s5, e5, p5⟩ := h2.part (lo := some (.int .i64 10)) (hi := some (.int .i64 18)) (l := 10) (u := 18) (.inl rfl) (.inl rfl) (by omega) (by omega)
  have l5 : ((bs.drop 10).take (18 - 10)).length < 1000000000 := by simp; omega
  simp [lSlice3, e5, number_eq p5 l5, writeC, g3, inf, List.replicate]
  generalize hG : (G2.put (n + 1) _) = G3
  have k3 : Keep G (n + 1) G3 (n + 1 + 1) := hG ▸ k2.put_of (Nat.le_refl _)
  have hf3 : Fresh G3 (n + 1 + 1) := hG ▸ hf2.old g3
  have h3 : By G3 s bs := h1.kept hf1 k3
  have g4 : G3.get n = some (.cells infZero 40 .own) := by rw [k3.get (by omega)]; exact g1
  have g5 : G3.get (n + 1) = some (.cells (inf (infRate bs) (infCh bs) (infDepth bs) (num (bs.take 2)) (num ((bs.drop 2).take 2)) (num ((bs.drop 4).take 3)) (num ((bs.drop 7).take 3)) (infTotal bs) (List.replicate 16 (.int .u8 0))) 40 .own) := by
    rw [← hG]; simp [inf, List.replicate, infRate, infCh, infDepth, infTotal]
  clear hG
  obtain ⟨s6, e6, p6⟩ := h3.part (lo := some (.int .i64 18)) (hi := none) (l := 18) (u := bs.length) (.inl rfl) (.inr ⟨rfl, rfl⟩) (by omega) (by omega)
  refine Wp_drawn [0, 1, 2, 3, 4] [] (by kernel_rfl) hf3 ?_
  have e7 : lSlice TE G3 38 (some (.pointer (some ⟨n + 1, 8, none⟩))) (some none) (some none) = some (.slice (some ⟨n + 1, 8, none⟩) 16 16) := by
    simp [lSlice, sliceV, bnds, sliceA, g5, addr_plus]
  have e8 : ((bs.drop 18).take (bs.length - 18)).take 16 = bs.drop 18 := by
    rw [List.take_take, List.take_of_length_le (by simp; omega)]
  have e9 : (u8s (bs.drop 18)).length = 16 := by simp; omega
  have e10 : writeC G3 ⟨n + 1, 8, none⟩ (u8s (bs.drop 18)) = some (G3.put (n + 1) (.cells (infCells bs) 40 .own)) := by
    rw [writeC_of g5 (by decide) (u8s_cell1 _) (fun e => by rw [e] at e9; cases e9) (by simp [inf]; omega)]
    simp only [e9]
    simp [inf, infCells, List.replicate]
  simp [lSlice3, e6, e7, h3.veq, p6.veq, p6.copy, e8, e10]
  generalize hG : G3.put (n + 1) _ = G4
  have k4 : Keep G (n + 1) G4 (n + 1 + 1) := hG ▸ k3.put_of (Nat.le_refl _)
  have g6 : G4.get n = some (.cells infZero 40 .own) := by rw [k4.get (by omega)]; exact g1
  have g7 : G4.get (n + 1) = some (.cells (infCells bs) 40 .own) := by rw [← hG]; simp
  clear hG
  have hlen : (infCells bs).length = 24 := by simp [infCells, inf]; omega
  have e11 : ldA G4 ⟨n + 1, 0, none⟩ 24 = some (.agg (infCells bs).toArray) := by
    have := ldA_get (H := G4) (a := ⟨n + 1, 0, none⟩) g7 (m := 24) (by simp [hlen])
    rw [this, List.drop_zero, List.take_of_length_le (by omega)]
  simp [e11]
  have hch : WCall TE 48 [.agg (infCells bs).toArray] G4 (n + 1 + 1) (fun v H' n' => v = .int .i64 (infErr bs) ∧ Keep G4 (n + 1 + 1) H' n') := infoCheck_spec (by simpa using e9) (u8s_cell1 _)
  refine hch.mono ?_
  rintro v G5 n5 ⟨rfl, k5⟩
  have g8 : G5.get n = some (.cells infZero 40 .own) := by rw [k5.get (by omega)]; exact g6
  have g9 : G5.get (n + 1) = some (.cells (infCells bs) 40 .own) := by rw [k5.get (by omega)]; exact g7
  have e12 : ldA G5 ⟨n + 1, 0, none⟩ 24 = some (.agg (infCells bs).toArray) := by
    have := ldA_get (H := G5) (a := ⟨n + 1, 0, none⟩) g9 (m := 24) (by simp [hlen])
    rw [this, List.drop_zero, List.take_of_length_le (by omega)]
  have kk : Keep H n G5 n5 := by
    refine ⟨by have := k5.1; omega, fun b hb => ?_⟩
    rw [k5.get (by omega), k4.get (by omega), k1.get hb]
  by_cases he : infErr bs = 0
  · have hall : (infCells bs).all cell1 = true := by simp [infCells, inf, u8s_cell1]
    have e13 : writeC G5 ⟨n, 0, none⟩ (infCells bs) = some (G5.put n (.cells (infCells bs) 40 .own)) := by
      rw [writeC_of g8 (by decide) hall (fun e => by rw [e] at hlen; cases hlen) (by rw [hlen]; simp [infZero, inf])]
      simp [infZero, inf, hlen]
    have e14 : ldA (G5.put n (.cells (infCells bs) 40 .own)) ⟨n, 0, none⟩ 24 = some (.agg (infCells bs).toArray) := by
      have := ldA_get (H := G5.put n (.cells (infCells bs) 40 .own)) (a := ⟨n, 0, none⟩) (c := infCells bs) (e := 40) (k := .own) (T.get_put_same _ _ _) (m := 24) (by simp [hlen])
      rw [this, List.drop_zero, List.take_of_length_le (by omega)]
    simp [he, e12, hlen, e13, e14, kk.put_of]
  · have e13 : writeC G5 ⟨n, 0, none⟩ infZero = some (G5.put n (.cells infZero 40 .own)) := by
      rw [writeC_of g8 (by decide) rfl (by simp [infZero, inf]) (by simp [infZero, inf])]
      simp [infZero, inf]
    have e14 : ldA (G5.put n (.cells infZero 40 .own)) ⟨n, 0, none⟩ 24 = some (.agg infZero.toArray) := by
      have := ldA_get (H := G5.put n (.cells infZero 40 .own)) (a := ⟨n, 0, none⟩) (c := infZero) (e := 40) (k := .own) (T.get_put_same _ _ _) (m := 24) (by simp [infZero, inf])
      rw [this, List.drop_zero, List.take_of_length_le (by simp [infZero, inf])]
    have e15 : infZero.length = 24 := by simp [infZero, inf]
    simp [he, buildInf0, e13, e14, e15, kk.put_of]
end Go.Ab

/- The program's functions: scan.Info. -/
namespace Go.Ab
open Go.Proofs
set_option linter.unusedSimpArgs false
variable {H : Hp} {s : Value} {bs : List UInt8} {n : Nat}

def marker : List UInt8 := [102, 76, 97, 67]
theorem bs_marker (H : Hp) (n : Nat) : hBuildSlice TE H n 22 4 (some [(0, .int .u8 102), (1, .int .u8 76), (2, .int .u8 97), (3, .int .u8 67)]) = some (.slice (some ⟨n, 0, none⟩) 4 4, H.put n (.cells (u8s marker) 5 .own), n + 1) := by kernel_rfl
theorem bs_three (H : Hp) (n : Nat) : hBuildSlice TE H n 22 3 (some [(0, .int .u8 0), (1, .int .u8 0), (2, .int .u8 34)]) = some (.slice (some ⟨n, 0, none⟩) 3 3, H.put n (.cells (u8s [0, 0, 34]) 5 .own), n + 1) := by kernel_rfl
theorem by_own {b : Nat} {l : List UInt8} (h : H.get b = some (.cells (u8s l) 5 .own)) {m : Nat} (hm : m = l.length) : By H (.slice (some ⟨b, 0, none⟩) m m) l := by
  subst hm
  exact ⟨some ⟨b, 0, none⟩, l.length, rfl, Nat.le_refl _, by simp, rfl, u8s l, 5, .own, h, (fun e => by cases e), by simp, by rw [List.drop_zero]; exact List.take_of_length_le (by simp)⟩

/-- Do bytes begin as an info has to? -/
def hasInfo (bs : List UInt8) : Prop := bs.take 4 = marker ∧ 42 ≤ bs.length ∧ (bs.getD 4 0).toNat % 128 = 0 ∧ (bs.drop 5).take 3 = [0, 0, 34]
instance (bs : List UInt8) : Decidable (hasInfo bs) := by unfold hasInfo; infer_instance
noncomputable def infoIs (bs : List UInt8) : Prop := hasInfo bs ∧ infErr ((bs.drop 8).take 34) = 0
noncomputable instance (bs : List UInt8) : Decidable (infoIs bs) := by unfold infoIs; infer_instance
noncomputable def infoOf (bs : List UInt8) : List Value := if infoIs bs then infCells ((bs.drop 8).take 34) else infZero

theorem store_inf {b : Nat} {c : List Value} (h : H.get b = some (.cells c 40 .own)) (hc : c.length = 24) {l : List Value} (hl : l.length = 24) (ha : l.all cell1 = true) : writeC H ⟨b, 0, none⟩ l = some (H.put b (.cells l 40 .own)) := by
  rw [writeC_of h (by decide) ha (fun e => by rw [e] at hl; cases hl) (by simp [hl, hc])]
  have : c.drop 24 = [] := List.drop_eq_nil_of_le (by omega)
  simp [hl, this]
theorem load_inf {b : Nat} {c : List Value} (h : H.get b = some (.cells c 40 .own)) (hc : c.length = 24) : ldA H ⟨b, 0, none⟩ 24 = some (.agg c.toArray) := by
  have := ldA_get (H := H) (a := ⟨b, 0, none⟩) h (m := 24) (by simp [hc])
  rw [this, List.drop_zero, List.take_of_length_le (by omega)]
theorem infZero_len : infZero.length = 24 := by simp [infZero, inf]
theorem infZero_cell : infZero.all cell1 = true := rfl
theorem infCells_len {l : List UInt8} (h : l.length = 34) : (infCells l).length = 24 := by simp [infCells, inf]; omega
theorem infCells_cell (l : List UInt8) : (infCells l).all cell1 = true := by simp [infCells, inf, u8s_cell1]

theorem info_spec (h : By H s bs) (hl : bs.length < 1000000000) (hf : Fresh H n) : WCall TE 16 [s] H n (fun v H' n' => v = .tuple #[.agg (infoOf bs).toArray, .bool (decide (infoIs bs))] ∧ Keep H n H' n') := by
  refine WCall_intro rfl fn16 rfl rfl ?_
  simp [Tryz.f16, hAlloc, newB, bs_marker]
  generalize hG : H.put n _ = G
  have k1 : Keep H n G (n + 1) := hG ▸ .new _
  have f1 : Fresh G (n + 1) := hG ▸ hf.new
  have g1 : G.get n = some (.cells infZero 40 .own) := by rw [← hG]; simp [infZero, inf, List.replicate]
  clear hG
  simp [hConv, elemT, isStr, isSlice, isU8, u8s, marker]
  generalize hG : G.put (n + 1) _ = G2
  have k2 : Keep G (n + 1) G2 (n + 1 + 1) := hG ▸ .new _
  have f2 : Fresh G2 (n + 1 + 1) := hG ▸ f1.new
  have g2 : G2.get n = some (.cells infZero 40 .own) := by rw [k2.get (by omega)]; exact g1
  have gm : G2.get (n + 1) = some (.cells (u8s marker) 5 .own) := by rw [← hG]; simp [u8s, marker]
  clear hG
  have kk : Keep H n G2 (n + 1 + 1) := ⟨by omega, fun b hb => by rw [k2.get (by omega), k1.get hb]⟩
  have h2 : By G2 s bs := h.kept hf kk
  have hm : By G2 (.slice (some ⟨n + 1, 0, none⟩) 4 4) marker := by_own gm rfl
  refine (cutPrefix_spec h2 hm).mono ?_
  rintro v G3 n3 ⟨rfl, rfl, hr⟩
  -- the way out without an info
  have bad : ¬ infoIs bs → ∀ {G4 : Hp} {n4 : Nat}, Keep H n G4 n4 → G4.get n = some (.cells infZero 40 .own) → ∃ G5, writeC G4 ⟨n, 0, none⟩ infZero = some G5 ∧ ldA G5 ⟨n, 0, none⟩ 24 = some (.agg (infoOf bs).toArray) ∧ Keep H n G5 n4 := by
    intro hb G4 n4 k4 g4
    refine ⟨_, store_inf g4 infZero_len infZero_len infZero_cell, ?_, k4.put_of (Nat.le_refl _)⟩
    rw [load_inf (T.get_put_same _ _ _) infZero_len, infoOf, if_neg hb]
  rcases hr with ⟨h4, hpre, s', rfl, hs'⟩ | ⟨hno, rfl⟩
  · simp only [show marker.length = 4 from rfl] at h4 hpre hs'
    by_cases hlen : 42 ≤ bs.length
    · have hd : (bs.drop 4).length = bs.length - 4 := by simp
      have i1 : ¬ ((bs.length : Int) - 4 < 38) := by omega
      have c1 : (((bs.drop 4).length : Nat) : Int) = (bs.length : Int) - 4 := by omega
      have hix := hs'.ix (i := 0) (by omega)
      have hld := hs'.ld (i := 0) (by omega)
      have hx : (bs.drop 4)[0]'(by omega) = bs.getD 4 0 := by
        simp [List.getD_eq_getElem?_getD, List.getElem?_eq_getElem (show 4 < bs.length by omega)]
      rw [hx] at hld
      have hix : lIndexA TE 22 (some s') (some (.int .i64 0)) = some (.pointer (some (adr s' 0))) := hix
      by_cases hm8 : (bs.getD 4 0).toNat % 128 = 0
      · have m1 : ((bs.getD 4 0).toNat : Int).tmod 128 = 0 := by
          rw [Int.tmod_eq_emod_of_nonneg (by omega)]; omega
        obtain ⟨s2, e2, p2⟩ := hs'.part (lo := some (.int .i64 1)) (hi := some (.int .i64 4)) (l := 1) (u := 4) (.inl rfl) (.inl rfl) (by omega) (by omega)
        have d5 : ((bs.drop 4).drop 1).take (4 - 1) = (bs.drop 5).take 3 := by rw [List.drop_drop]
        rw [d5] at p2
        have k3 : Keep G3 (n + 1 + 1) (G3.put (n + 1 + 1) (.cells (u8s [0, 0, 34]) 5 .own)) (n + 1 + 1 + 1) := .new _
        have eqq := fun K => equal_eq (n := n + 1 + 1 + 1) (p2.kept f2 k3) (by_own (m := 3) (T.get_put_same G3 (n + 1 + 1) (.cells (u8s [0, 0, 34]) 5 .own)) rfl) K
        have f3 : Fresh (G3.put (n + 1 + 1) (.cells (u8s [0, 0, 34]) 5 .own)) (n + 1 + 1 + 1) := f2.new
        have hs4 : By (G3.put (n + 1 + 1) (.cells (u8s [0, 0, 34]) 5 .own)) s' (bs.drop 4) := hs'.kept f2 k3
        have g4 : (G3.put (n + 1 + 1) (.cells (u8s [0, 0, 34]) 5 .own)).get n = some (.cells infZero 40 .own) := by rw [k3.get (by omega)]; exact g2
        have kk4 : Keep H n (G3.put (n + 1 + 1) (.cells (u8s [0, 0, 34]) 5 .own)) (n + 1 + 1 + 1) := ⟨by omega, fun b hb => by rw [k3.get (by omega), kk.get hb]⟩
        generalize hG : G3.put (n + 1 + 1) (.cells (u8s [0, 0, 34]) 5 .own) = G4 at eqq f3 hs4 g4 kk4
        by_cases h3 : (bs.drop 5).take 3 = [0, 0, 34]
        · have h3b : ((bs.drop 5).take 3 == [0, 0, 34]) = true := by simpa using h3
          obtain ⟨s5, e5, p5⟩ := hs4.part (lo := some (.int .i64 4)) (hi := some (.int .i64 38)) (l := 4) (u := 38) (.inl rfl) (.inl rfl) (by omega) (by omega)
          have d8 : ((bs.drop 4).drop 4).take (38 - 4) = (bs.drop 8).take 34 := by rw [List.drop_drop]
          rw [d8] at p5
          have hl34 : ((bs.drop 8).take 34).length = 34 := by simp; omega
          simp [hs'.ln, c1, i1, hix, hld, m1, lSlice3, e2, bs_three, hG, eqq, h3b, e5, -List.length_drop, -List.getD_eq_getElem?_getD]
          refine (infoRead_spec p5 hl34 f3).mono ?_
          rintro v G5 n5 ⟨rfl, k5⟩
          generalize hc : (if infErr ((bs.drop 8).take 34) = 0 then infCells ((bs.drop 8).take 34) else infZero) = cs
          have hi : hasInfo bs := ⟨hpre, hlen, hm8, h3⟩
          have hof : infoOf bs = cs := by
            rw [← hc]
            unfold infoOf infoIs
            simp [hi]
          have his : infoIs bs ↔ infErr ((bs.drop 8).take 34) = 0 := by unfold infoIs; simp [hi]
          have hlen2 : cs.length = 24 := by
            rw [← hc]
            split
            · exact infCells_len hl34
            · exact infZero_len
          have hcell : cs.all cell1 = true := by
            rw [← hc]
            split
            · exact infCells_cell _
            · exact infZero_cell
          have g5 : G5.get n = some (.cells infZero 40 .own) := by rw [k5.get (by omega)]; exact g4
          have k6 : Keep H n G5 n5 := ⟨by have := k5.1; omega, fun b hb => by rw [k5.get (by omega), kk4.get hb]⟩
          have hn5 : n < n5 := by have := k5.1; omega
          simp [hAlloc, newB, hlen2]
          rw [store_inf (T.get_put_same G5 n5 _) (by rfl) hlen2 hcell]
          have g6 : (G5.put n5 (.cells cs 40 .own)).get n = some (.cells infZero 40 .own) := by rw [T.get_put_ne _ _ (by omega)]; exact g5
          simp [load_inf (T.get_put_same G5 n5 (.cells cs 40 .own)) hlen2, hlen2, store_inf g6 infZero_len hlen2 hcell, load_inf (T.get_put_same (G5.put n5 (.cells cs 40 .own)) n (.cells cs 40 .own)) hlen2, hof, his]
          exact ⟨by omega, fun b hb => by rw [T.get_put_ne _ _ (by omega), T.get_put_ne _ _ (by omega), k6.get hb]⟩
        · have h3b : ((bs.drop 5).take 3 == [0, 0, 34]) = false := by simpa using h3
          have hb : ¬ infoIs bs := fun h => h3 h.1.2.2.2
          obtain ⟨G5, b1, b2, b3⟩ := bad hb kk4 g4
          simp [hs'.ln, c1, i1, hix, hld, m1, lSlice3, e2, bs_three, hG, eqq, h3b, buildInf0, infZero_len, b1, b2, b3, hb, -List.length_drop, -List.getD_eq_getElem?_getD]
      · have m1 : ¬ ((bs.getD 4 0).toNat : Int).tmod 128 = 0 := by
          rw [Int.tmod_eq_emod_of_nonneg (by omega)]; omega
        have hb : ¬ infoIs bs := fun h => hm8 h.1.2.2.1
        obtain ⟨G5, b1, b2, b3⟩ := bad hb kk g2
        simp [hs'.ln, c1, i1, hix, hld, m1, buildInf0, infZero_len, b1, b2, b3, hb, -List.length_drop, -List.getD_eq_getElem?_getD]
    · have hb : ¬ infoIs bs := fun h => hlen h.1.2.1
      obtain ⟨G5, b1, b2, b3⟩ := bad hb kk g2
      have hd : (bs.drop 4).length = bs.length - 4 := by simp
      have i1 : ((bs.length : Int) - 4 < 38) := by omega
      have c1 : (((bs.drop 4).length : Nat) : Int) = (bs.length : Int) - 4 := by omega
      simp [hs'.ln, c1, i1, buildInf0, infZero_len, b1, b2, b3, hb, -List.length_drop]
  · have hb : ¬ infoIs bs := fun h => hno ⟨by have := h.1.2.1; show 4 ≤ _; omega, h.1.1⟩
    obtain ⟨G5, b1, b2, b3⟩ := bad hb kk g2
    simp [buildInf0, infZero_len, b1, b2, b3, hb]
end Go.Ab

/- The program's functions: sorting lists of one; bytes that have no candidates. -/
namespace Go.Ab
open Go.Proofs
set_option linter.unusedSimpArgs false
variable {H : Hp} {s : Value} {bs : List UInt8} {n : Nat}

/-! Sorting a list of no more than one. -/
theorem len0_run : run TE 100 85 [.int .u64 0] H n = some (.int .i64 0, H, n) := by kernel_rfl
theorem len1_run : run TE 100 85 [.int .u64 1] H n = some (.int .i64 1, H, n) := by kernel_rfl
theorem len0_eq (K) : WCall TE 85 [.int .u64 0] H n K ↔ K (.int .i64 0) H n := WCall.pure ⟨100, _, _, _, len0_run, rfl, rfl, rfl⟩ K
theorem len1_eq (K) : WCall TE 85 [.int .u64 1] H n K ↔ K (.int .i64 1) H n := WCall.pure ⟨100, _, _, _, len1_run, rfl, rfl, rfl⟩ K

theorem insSort1_eq (s c : Value) (m : Nat) (hm : m ≤ 1) (K) : WCall TE 134 [s, .int .i64 0, .int .i64 m, c] H n K ↔ K (.tuple #[]) H n := by
  refine WCall.pure (WCall_intro rfl fn134 rfl rfl ?_) K
  have e1 : wr .i64 (0 + 1) = 1 := by decide
  have e2 : ¬ ((1 : Int) < m) := by omega
  simp [Tryz.f134, e1]
  refine Wp_loop (fun k fr H' n' => fr.get 8 = some (.int .i64 1) ∧ fr.get 2 = some (.int .i64 m) ∧ H' = H ∧ n' = n) ?_ (k := 0) ?_
  · rintro k fr H' n' ⟨g1, g2, rfl, rfl⟩
    simp [g1, g2, e2]
  · simp [wr_i64]

theorem pdq1_eq (s c l : Value) (m : Nat) (hm : m ≤ 1) (K) : WCall TE 87 [s, .int .i64 0, .int .i64 m, l, c] H n K ↔ K (.tuple #[]) H n := by
  refine WCall.pure (WCall_intro rfl fn87 rfl rfl ?_) K
  have e1 : wr .i64 ((m : Int)) = m := wr_i64 (by omega) (by omega)
  have e2 : (m : Int) ≤ 12 := by omega
  simp [Tryz.f87]
  refine Wp_loop (fun k fr H' n' => fr.get 0 = some s ∧ fr.get 1 = some (.int .i64 0) ∧ fr.get 2 = some (.int .i64 m) ∧ fr.get 4 = some c ∧ H' = H ∧ n' = n) ?_ (k := 0) ?_
  · rintro k fr H' n' ⟨g0, g1, g2, g4, rfl, rfl⟩
    simp [g0, g1, g2, g4, e1, e2, insSort1_eq s c m hm]
  · simp

theorem sort1_eq (s c : Value) {cs : List Value} {m : Nat} (h : Sl H 29 3 s m cs) (hm : m ≤ 1) (K) : WCall TE 43 [s, c] H n K ↔ K (.tuple #[]) H n := by
  refine WCall.pure (WCall_intro rfl fn43 rfl rfl ?_) K
  have e0 := h.len ty23
  rcases (show m = 0 ∨ m = 1 by omega) with rfl | rfl
  · have e1 : wr .u64 (0 : Int) = 0 := by decide
    have := pdq1_eq (H := H) (n := n) s c (.int .i64 0) 0 (by omega)
    simp at this
    simp [Tryz.f43, e0, e1, len0_eq, this]
  · have e1 : wr .u64 (1 : Int) = 1 := by decide
    have := pdq1_eq (H := H) (n := n) s c (.int .i64 1) 1 (by omega)
    simp at this
    simp [Tryz.f43, e0, e1, len1_eq, this]

theorem compact1_eq (s : Value) {cs : List Value} {m : Nat} (h : Sl H 29 3 s m cs) (hm : m ≤ 1) (K) : WCall TE 45 [s] H n K ↔ K s H n := by
  refine WCall.pure (WCall_intro rfl fn45 rfl rfl ?_) K
  have e0 := h.len ty23
  have e2 : (m : Int) < 2 := by omega
  simp [Tryz.f45, e0, e2]

/-! Bytes none of which is 255. -/
theorem scanNone_eq (h : By H s bs) (hl : bs.length < 1000000000) (hno : ∀ x ∈ bs, x ≠ 255) (l : Value) (K) : WCall TE 13 [s, l] H n K ↔ K (.slice none 0 0) H n := by
  refine WCall.pure (WCall_intro rfl fn13 rfl rfl ?_) K
  simp [Tryz.f13, h.ln]
  refine Wp_loop (fun k fr H' n' => ∃ (i : Nat), k = bs.length - i ∧ i ≤ bs.length ∧ fr.get 8 = some s ∧ fr.get 9 = some (.int .i64 bs.length) ∧ fr.get 10 = some (.int .i64 i) ∧ fr.get 5 = some (.slice none 0 0) ∧ H' = H ∧ n' = n) ?_ (k := bs.length) ?_
  · rintro k fr H' n' ⟨i, rfl, hi, g8, g9, g10, g5, rfl, rfl⟩
    by_cases hlt : i < bs.length
    · have e : (i : Int) < bs.length := by omega
      have e2 : wr .i64 ((i : Int) + 1) = (i + 1 : Nat) := by rw [wr_i64 (by omega) (by omega)]; omega
      have e3 : ¬ ((bs[i].toNat : Int) = 255) := by
        intro he
        refine hno bs[i] (List.getElem_mem hlt) (UInt8.toNat_inj.1 ?_)
        show bs[i].toNat = 255
        omega
      simp [g8, g9, g10, g5, e, h.ix hlt, h.ld hlt, e2, e3]
      exact ⟨bs.length - (i + 1), by omega, i + 1, rfl, by omega, by omega⟩
    · have e : ¬ (i : Int) < bs.length := by omega
      simp [g8, g9, g10, g5, e]
  · exact ⟨0, by simp⟩
end Go.Ab

/- The program's functions: scan.Told and scan.All of bytes none of which is 255. -/
namespace Go.Ab
open Go.Proofs
set_option linter.unusedSimpArgs false
variable {H : Hp} {s : Value} {bs : List UInt8} {n : Nat}

theorem bs_params (a b c : Int) (H : Hp) (n : Nat) : hBuildSlice TE H n 23 1 (some [(0, .agg #[.int .i64 a, .int .i64 b, .int .i64 c])]) = some (.slice (some ⟨n, 0, none⟩) 1 1, H.put n (.cells [.int .i64 a, .int .i64 b, .int .i64 c] 29 .own), n + 1) := by kernel_rfl

theorem infoOf_len (bs : List UInt8) : (infoOf bs).length = 24 := by
  unfold infoOf
  split
  · rename_i h
    exact infCells_len (by have := h.1.2.1; simp; omega)
  · exact infZero_len
theorem infoOf_cell (bs : List UInt8) : (infoOf bs).all cell1 = true := by
  unfold infoOf
  split
  · exact infCells_cell _
  · exact infZero_cell
theorem infoOf_head (bs : List UInt8) : ∃ a b c : Int, ∃ l, infoOf bs = .int .i64 a :: .int .i64 b :: .int .i64 c :: l := by
  unfold infoOf
  split <;> exact ⟨_, _, _, _, rfl⟩

theorem toldNone_spec (h : By H s bs) (hl : bs.length < 1000000000) (hno : ∀ x ∈ bs, x ≠ 255) (hf : Fresh H n) : WCall TE 19 [s] H n (fun v H' n' => Keep H n H' n') := by
  refine WCall_intro rfl fn19 rfl rfl ?_
  simp [Tryz.f19]
  refine (WCall.fresh hf (info_spec h hl hf)).mono ?_
  rintro v G n1 ⟨-, hf1, rfl, k1⟩
  have hG : By G s bs := h.kept hf k1
  simp [hAlloc, newB, infoOf_len]
  rw [store_inf (T.get_put_same G n1 _) (by rfl) (infoOf_len bs) (infoOf_cell bs)]
  obtain ⟨a, b, c, l, hd⟩ := infoOf_head bs
  rw [T.put_put]
  generalize hG2 : G.put n1 _ = G2
  have k2 : Keep G n1 G2 (n1 + 1) := hG2 ▸ Keep.new _
  have g2 : G2.get n1 = some (.cells (infoOf bs) 40 .own) := by rw [← hG2]; simp
  have hf2 : Fresh G2 (n1 + 1) := hG2 ▸ hf1.new
  have hs2 : By G2 s bs := hG.kept hf1 k2
  have kk : Keep H n G2 (n1 + 1) := k1.trans k2
  clear hG2
  have eA : ldA G2 ⟨n1, 0, none⟩ 3 = some (.agg #[.int .i64 a, .int .i64 b, .int .i64 c]) := by
    rw [ldA_get (a := ⟨n1, 0, none⟩) g2 (m := 3) (by simp [infoOf_len]), hd]; rfl
  -- what stands behind: the loop over nothing, sorting, Compact
  by_cases his : infoIs bs
  · have k3 : Keep G2 (n1 + 1) (G2.put (n1 + 1) (.cells [.int .i64 a, .int .i64 b, .int .i64 c] 29 .own)) (n1 + 1 + 1) := .new _
    have f3 : Fresh (G2.put (n1 + 1) (.cells [.int .i64 a, .int .i64 b, .int .i64 c] 29 .own)) (n1 + 1 + 1) := hf2.new
    have hx : Sl (G2.put (n1 + 1) (.cells [.int .i64 a, .int .i64 b, .int .i64 c] 29 .own)) 29 3 (.slice (some ⟨n1 + 1, 0, none⟩) 1 1) 1 [.int .i64 a, .int .i64 b, .int .i64 c] :=
      ⟨_, _, rfl, Nat.le_refl _, rfl, rfl, _, 29, .own, T.get_put_same _ _ _, (fun e => by cases e), by simp, by simp⟩
    obtain ⟨s', G4, n4, ea, ha, hn4, hfr, _⟩ := append_sl (E := TE) ty23 ty29 rfl rfl (Acc.nil _ (n1 + 1 + 1) 29 3) hx (by rfl) (by decide) (by decide)
    have k4 : Keep (G2.put (n1 + 1) (.cells [.int .i64 a, .int .i64 b, .int .i64 c] 29 .own)) (n1 + 1 + 1) G4 n4 := ⟨hn4, fun b hb => hfr b hb (fun _ _ e => by cases e)⟩
    have hs4 : By G4 s bs := (hs2.kept hf2 k3).kept f3 k4
    have kk4 : Keep H n G4 n4 := (kk.trans k3).trans k4
    simp [his, eA, bs_params, ea, scanNone_eq hs4 hl hno]
    rw [wp_loop]
    simp [sort1_eq s' _ ha.sl (by omega), compact1_eq s' ha.sl (by omega), kk4]
  · simp [his, scanNone_eq hs2 hl hno]
    rw [wp_loop]
    have hx : Sl G2 29 3 (.slice none 0 0) 0 [] := .nil _ _ _
    simp [sort1_eq _ _ hx (by omega), compact1_eq _ hx (by omega), kk]

theorem allNone_spec (h : By H s bs) (hl : bs.length < 1000000000) (hno : ∀ x ∈ bs, x ≠ 255) (hf : Fresh H n) : WCall TE 15 [s] H n (fun v H' n' => v = .slice none 0 0 ∧ Keep H n H' n') := by
  refine WCall_intro rfl fn15 rfl rfl ?_
  simp [Tryz.f15]
  refine (toldNone_spec h hl hno hf).mono ?_
  intro v G n1 k1
  simp [scanNone_eq (h.kept hf k1) hl hno, k1]
end Go.Ab
