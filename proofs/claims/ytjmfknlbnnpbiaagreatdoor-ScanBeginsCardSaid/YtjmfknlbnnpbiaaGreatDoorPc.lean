/- Contracts of functions: header, scan.At; the law ScanNone over the evaluator. -/
import Derived.Test.YtjmfknlbnnpbiaaGreatDoorPb

set_option linter.all false

/- The program's functions: package header: the first four bytes. -/
namespace Go.Ab
open Go.Proofs
set_option linter.unusedSimpArgs false
variable {H H0 : Hp} {s sv : Value} {bs : List UInt8} {n n0 q p a : Nat} {e : Int}

/-- The package-level variables hold what they hold. -/
def GOk (H : Hp) : Prop := ∀ i, i < 7 → H.get i = some (.cells (gcells i) (gtype i) .ro)
theorem GOk.of {H' : Hp} (h : GOk H) (hb : ∀ b, b < 7 → H'.get b = H.get b) : GOk H' := fun i hi => by rw [hb i hi]; exact h i hi
theorem GOk.kept {H' : Hp} {n' : Nat} (h : GOk H) (hn : 7 ≤ n) (hk : Keep H n H' n') : GOk H' := h.of fun b hb => hk.get (by omega)

/-- What the reader takes, with the error so far. -/
def tk (bs : List UInt8) (a : Nat) (e : Int) (k : Nat) : Nat × Nat × Int :=
  if e ≠ 0 then (0, a, e) else if a + k ≤ 8 * bs.length then (bitsV bs a k, a + k, 0) else (0, a, 11)
/-- The error so far, if something is so. -/
def er (e : Int) (is : Bool) (x : Int) : Int := if e ≠ 0 then e else if is = true then x else 0
theorem tk_lt (bs : List UInt8) (a : Nat) (e : Int) (k : Nat) : (tk bs a e k).1 < 2 ^ k := by
  unfold tk
  split
  · exact Nat.two_pow_pos _
  · split
    · exact bitsV_lt _ _ _
    · exact Nat.two_pow_pos _

def hcZero : List Value := [.bool false, .int .i64 0, .int .i64 0, .int .i64 0, .int .i64 0, .int .i64 0, .int .i64 0, .int .i64 0, .int .i64 0]

theorem take79_any (h : HR H q p sv bs a e) (hf : Fresh H n) {k : Nat} (hk : k ≤ 48) :
    WCall TE 79 [.pointer (some ⟨q, 0, none⟩), .int .i64 k] H n (fun v H' n' => v = .int .i64 (tk bs a e k).1 ∧ HR H' q p sv bs (tk bs a e k).2.1 (tk bs a e k).2.2 ∧ n' = n ∧ ∀ b, b ≠ p → b ≠ q → H'.get b = H.get b) := by
  by_cases he : e = 0
  · subst he
    by_cases hend : a + k ≤ 8 * bs.length
    · have e1 : tk bs a 0 k = (bitsV bs a k, a + k, 0) := by simp [tk, hend]
      rw [e1]
      exact take79_spec h hf hk hend
    · have e1 : tk bs a 0 k = (0, a, 11) := by simp [tk, hend]
      rw [e1]
      refine WCall_intro rfl fn79 rfl rfl ?_
      have hle := h.rd.le
      have hb := take_bad (n := n) h.rd hf (k := (k : Int)) (.inr (.inr (by omega)))
      have e2 : ¬ ((k : Int) < 0 ∨ 48 < (k : Int)) := by omega
      have e3 : ¬ (48 < k) := by omega
      simp [Tryz.f79, ldS_at h.cell, hb, e2, e3, writeC, h.cell]
      refine ⟨h.mark, fun b h1 h2 h3 => absurd h3 h2⟩
  · have e1 : tk bs a e k = (0, a, e) := by simp [tk, he]
    rw [e1, take79_bad h he]
    exact ⟨rfl, h, rfl, fun _ _ _ => rfl⟩

/-- While the header is read: its cells, in a block of their own. -/
structure HS (H0 : Hp) (n0 q p : Nat) (sv : Value) (bs : List UInt8) (a : Nat) (e : Int) (hc : List Value) (H : Hp) (n : Nat) : Prop where
  hr : HR H q p sv bs a e
  fr : Fresh H n
  c2 : H.get n0 = some (.cells hcZero 47 .own)
  c3 : H.get (n0 + 1) = some (.cells hc 47 .own)
  keep : ∀ b, b < n0 → b ≠ p → b ≠ q → H.get b = H0.get b
  lt : n0 + 2 ≤ n
  gl : GOk H
  q0 : q < n0
  p0 : p < n0
  q7 : 7 ≤ q
  p7 : 7 ≤ p
  s0 : ∀ x l c, sv = .slice (some x) l c → x.block < n0

variable {hc : List Value}
theorem HS.take (h : HS H0 n0 q p sv bs a e hc H n) {k : Nat} (hk : k ≤ 48) :
    WCall TE 79 [.pointer (some ⟨q, 0, none⟩), .int .i64 k] H n (fun v H' n' => v = .int .i64 (tk bs a e k).1 ∧ HS H0 n0 q p sv bs (tk bs a e k).2.1 (tk bs a e k).2.2 hc H' n') := by
  refine (WCall.fresh h.fr (take79_any h.hr h.fr hk)).mono ?_
  rintro v G m ⟨-, hf, rfl, hr, rfl, hb⟩
  have := h.q0
  have := h.p0
  have := h.q7
  have := h.p7
  exact ⟨rfl, hr, hf, by rw [hb _ (by omega) (by omega)]; exact h.c2, by rw [hb _ (by omega) (by omega)]; exact h.c3, fun b h1 h2 h3 => by rw [hb b h2 h3]; exact h.keep b h1 h2 h3, h.lt,
    h.gl.of fun b hb7 => hb b (by omega) (by omega), h.q0, h.p0, h.q7, h.p7, h.s0⟩
theorem HS.wrong (h : HS H0 n0 q p sv bs a e hc H n) (is : Bool) (x : Int) :
    WCall TE 80 [.pointer (some ⟨q, 0, none⟩), .bool is, .int .i64 x] H n (fun v H' n' => HS H0 n0 q p sv bs a (er e is x) hc H' n') := by
  refine (WCall.fresh h.fr (wrong80_spec h.hr h.fr is x)).mono ?_
  rintro v G m ⟨-, hf, hr, hn, hb⟩
  have := h.q0
  have := h.p0
  have := h.q7
  have := h.p7
  have := h.lt
  exact ⟨hr, hf, by rw [hb _ (by omega) (by omega)]; exact h.c2, by rw [hb _ (by omega) (by omega)]; exact h.c3, fun b h1 h2 h3 => by rw [hb b (by omega) h3]; exact h.keep b h1 h2 h3, by omega,
    h.gl.of fun b hb7 => hb b (by omega) (by omega), h.q0, h.p0, h.q7, h.p7, h.s0⟩
theorem HS.store (h : HS H0 n0 q p sv bs a e hc H n) (hc' : List Value) : HS H0 n0 q p sv bs a e hc' (H.put (n0 + 1) (.cells hc' 47 .own)) n := by
  have h1 := h.q0
  have h2 := h.p0
  have h3 := h.q7
  have h4 := h.p7
  have h5 := h.lt
  refine ⟨⟨by rw [T.get_put_ne _ _ (by omega)]; exact h.hr.cell, ⟨⟨by rw [T.get_put_ne _ _ (by omega)]; exact h.hr.rd.sh.1, h.hr.rd.sh.2.1.keep fun x l c e1 => ?_, h.hr.rd.sh.2.2⟩, h.hr.rd.le, h.hr.rd.small⟩, h.hr.ne, h.hr.sep⟩, h.fr.old h.c3, by rw [T.get_put_ne _ _ (by omega)]; exact h.c2, T.get_put_same _ _ _, fun b g1 g2 g3 => by rw [T.get_put_ne _ _ (by omega)]; exact h.keep b g1 g2 g3, h5, h.gl.of fun b hb => T.get_put_ne _ _ (by omega), h1, h2, h3, h4, h.s0⟩
  have := h.s0 x l c e1
  exact T.get_put_ne _ _ (by omega)

/-- The header that the first four bytes tell. -/
structure H4 where
  vr : Bool
  bc : Nat
  rc : Nat
  md : Nat
  dc : Nat
def tbl (i j : Nat) : Int := match (gcells i)[j]? with
  | some (.int _ x) => x
  | _ => 0
def H4.cells (h : H4) : List Value := [.bool h.vr, .int .i64 h.bc, .int .i64 h.rc, .int .i64 h.md, .int .i64 h.dc, .int .i64 0, .int .i64 0, .int .i64 0, .int .i64 0]
/-- head: the header, where one stands, the error. -/
def headF (bs : List UInt8) (a : Nat) (e : Int) : H4 × Nat × Int :=
  let t1 := tk bs a e 8
  let e1 := er t1.2.2 (!decide ((t1.1 : Int) = 255)) 14
  let t2 := tk bs t1.2.1 e1 8
  let e2 := er t2.2.2 (!decide ((t2.1 : Int) / 2 = 124)) 14
  let t3 := tk bs t2.2.1 e2 8
  let bc := t3.1 / 16
  let rc := t3.1 % 16
  let e3 := er t3.2.2 (decide (tbl 0 bc = -1) || decide (tbl 1 rc = -1)) 13
  let t4 := tk bs t3.2.1 e3 8
  let md := t4.1 / 16
  let dc := t4.1 / 2 % 8
  let e4 := er t4.2.2 (decide (10 < (md : Int)) || decide (tbl 2 dc = -1)) 13
  let e5 := er e4 (decide (((t4.1 % 2 : Nat) : Int) = 1)) 12
  (⟨decide (((t2.1 % 2 : Nat) : Int) = 1), bc, rc, md, dc⟩, t4.2.1, e5)

def isI (v : Option Value) : Bool := match v with
  | some (.int .i64 _) => true
  | _ => false
theorem tbl_of {i j : Nat} (h : isI (gcells i)[j]? = true) : (gcells i)[j]? = some (.int .i64 (tbl i j)) := by
  unfold tbl
  unfold isI at h
  split at h
  · rename_i x hx
    rw [hx]
  · cases h
theorem tbl_all {i k : Nat} (h : (List.range k).all (fun j => isI (gcells i)[j]?) = true) {j : Nat} (hj : j < k) : (gcells i)[j]? = some (.int .i64 (tbl i j)) := by
  rw [List.all_eq_true] at h
  exact tbl_of (h j (List.mem_range.2 hj))
theorem tbl0 {j : Nat} (hj : j < 16) : (gcells 0)[j]? = some (.int .i64 (tbl 0 j)) := tbl_all (k := 16) rfl hj
theorem tbl1 {j : Nat} (hj : j < 16) : (gcells 1)[j]? = some (.int .i64 (tbl 1 j)) := tbl_all (k := 16) rfl hj
theorem tbl2 {j : Nat} (hj : j < 8) : (gcells 2)[j]? = some (.int .i64 (tbl 2 j)) := tbl_all (k := 8) rfl hj

def seqN : Nat → Code → Code
  | 0, c => c
  | k + 1, c => seqN k (seqB c)
theorem mask1 (x : Nat) (hx : x < 256) : bitI .and .i64 (x : Int) 1 = (x % 2 : Nat) := and_mask x 1 (by omega) (by omega)
theorem mask15 (x : Nat) (hx : x < 256) : bitI .and .i64 (x : Int) 15 = (x % 16 : Nat) := and_mask x 4 (by omega) (by omega)
theorem mask7 (x : Nat) (hx : x < 256) : bitI .and .i64 (x : Int) 7 = (x % 8 : Nat) := and_mask x 3 (by omega) (by omega)

/-- What head comes to. -/
def HeadQ (H0 : Hp) (n0 q p : Nat) (sv : Value) (bs : List UInt8) (a : Nat) (e : Int) (hc : List Value) (v : Value) (H : Hp) (n : Nat) : Prop :=
  v = .agg hc.toArray ∧ HR H q p sv bs a e ∧ n0 ≤ n ∧ Fresh H n ∧ GOk H ∧ ∀ b, b < n0 → b ≠ p → b ≠ q → H.get b = H0.get b

theorem head_end {vr : Bool} {bc rc md dc x4 : Nat} {fr : Fr} (hx : x4 < 256)
    (h : HS H0 n0 q p sv bs a e [.bool vr, .int .i64 bc, .int .i64 rc, .int .i64 md, .int .i64 dc, .int .i64 0, .int .i64 0, .int .i64 0, .int .i64 0] H n)
    (g0 : fr.get 0 = some (.pointer (some ⟨q, 0, none⟩))) (g2 : fr.get 2 = some (.pointer (some ⟨n0, 0, none⟩))) (g3 : fr.get 3 = some (.pointer (some ⟨n0 + 1, 0, none⟩))) (g4 : fr.get 4 = some (.int .i64 x4)) :
    Wp TE 70 (seqN 12 (body Tryz.f74)) fr H n (RetQ TE [.cell 2 47] (HeadQ H0 n0 q p sv bs a (er e (decide (((x4 % 2 : Nat) : Int) = 1)) 12) [.bool vr, .int .i64 bc, .int .i64 rc, .int .i64 md, .int .i64 dc, .int .i64 0, .int .i64 0, .int .i64 0, .int .i64 0])) := by
  obtain ⟨y, hy⟩ : ∃ w : Nat, w = x4 % 2 := ⟨_, rfl⟩
  have c0 : bitI .and .i64 (x4 : Int) 1 = y := by rw [mask1 x4 hx, hy]
  rw [← hy]
  simp [Tryz.f74, body, seqN, seqB, g0, g2, g3, g4, c0]
  refine (h.wrong _ _).mono ?_
  intro v G m h6
  have hne : n0 ≠ n0 + 1 := by omega
  have e1 : ldA G ⟨n0 + 1, 0, none⟩ 9 = some (.agg #[.bool vr, .int .i64 bc, .int .i64 rc, .int .i64 md, .int .i64 dc, .int .i64 0, .int .i64 0, .int .i64 0, .int .i64 0]) := by
    rw [ldA_get (a := ⟨n0 + 1, 0, none⟩) h6.c3 (m := 9) (by simp)]; rfl
  have e2 : ∀ X : List Value, X.length = 9 → ldA (G.put n0 (.cells X 47 .own)) ⟨n0, 0, none⟩ 9 = some (.agg X.toArray) := fun X hX => by
    rw [ldA_get (a := ⟨n0, 0, none⟩) (T.get_put_same G n0 _) (m := 9) (by simp [hX]), List.drop_zero, List.take_of_length_le (by omega)]
  simp [e1, g2, g3, writeC, h6.c2, hcZero, e2, HeadQ]
  have hq := h6.q0
  have hp := h6.p0
  have hl := h6.lt
  refine ⟨⟨by rw [T.get_put_ne _ _ (by omega)]; exact h6.hr.cell, ⟨⟨by rw [T.get_put_ne _ _ (by omega)]; exact h6.hr.rd.sh.1, h6.hr.rd.sh.2.1.keep fun x l c e1 => T.get_put_ne _ _ (by have := h6.s0 x l c e1; omega), h6.hr.rd.sh.2.2⟩, h6.hr.rd.le, h6.hr.rd.small⟩, h6.hr.ne, h6.hr.sep⟩, by omega, h6.fr.old h6.c2, h6.gl.of fun b hb => T.get_put_ne _ _ (by have := h6.q7; omega), fun b h1 h2 h3 => ?_⟩
  rw [if_neg (by omega)]
  exact h6.keep b h1 h2 h3

theorem head_mid {vr : Bool} {bc rc : Nat} {fr : Fr}
    (h : HS H0 n0 q p sv bs a e [.bool vr, .int .i64 bc, .int .i64 rc, .int .i64 0, .int .i64 0, .int .i64 0, .int .i64 0, .int .i64 0, .int .i64 0] H n)
    (g0 : fr.get 0 = some (.pointer (some ⟨q, 0, none⟩))) (g2 : fr.get 2 = some (.pointer (some ⟨n0, 0, none⟩))) (g3 : fr.get 3 = some (.pointer (some ⟨n0 + 1, 0, none⟩))) :
    Wp TE 70 (seqN 9 (body Tryz.f74)) fr H n (RetQ TE [.cell 2 47] (HeadQ H0 n0 q p sv bs (tk bs a e 8).2.1 (er (er (tk bs a e 8).2.2 (decide (10 < (((tk bs a e 8).1 / 16 : Nat) : Int)) || decide (tbl 2 ((tk bs a e 8).1 / 2 % 8) = -1)) 13) (decide ((((tk bs a e 8).1 % 2 : Nat) : Int) = 1)) 12)
      [.bool vr, .int .i64 bc, .int .i64 rc, .int .i64 ((tk bs a e 8).1 / 16 : Nat), .int .i64 ((tk bs a e 8).1 / 2 % 8 : Nat), .int .i64 0, .int .i64 0, .int .i64 0, .int .i64 0])) := by
  have hend := fun (vr : Bool) (bc rc md dc x4 a : Nat) (e : Int) (H : Hp) (n : Nat) (fr : Fr) hx h g0 g2 g3 g4 => head_end (H0 := H0) (n0 := n0) (q := q) (p := p) (sv := sv) (bs := bs) (vr := vr) (bc := bc) (rc := rc) (md := md) (dc := dc) (x4 := x4) (a := a) (e := e) (H := H) (n := n) (fr := fr) hx h g0 g2 g3 g4
  have l4 := tk_lt bs a e 8
  have ht := h.take (k := 8) (by omega)
  rcases ht4 : tk bs a e 8 with ⟨x4, a4, e4⟩
  rw [ht4] at l4 ht
  simp only at l4 ht
  obtain ⟨md, hmd⟩ : ∃ w : Nat, w = x4 / 16 := ⟨_, rfl⟩
  obtain ⟨dc, hdc⟩ : ∃ w : Nat, w = x4 / 2 % 8 := ⟨_, rfl⟩
  obtain ⟨z, hz⟩ : ∃ w : Nat, w = x4 / 2 := ⟨_, rfl⟩
  simp only
  rw [← hmd, ← hdc]
  have c1 : (x4 : Int) / 16 = md := by omega
  have c2 : (x4 : Int) / 2 = z := by omega
  have c3 : bitI .and .i64 (z : Int) 7 = dc := by rw [mask7 z (by omega), hz, hdc]
  have d8 : dc < 8 := by omega
  have d8' : (dc : Int) < 8 := by omega
  have q2 := tbl2 d8
  have e0 : seqN 9 (body Tryz.f74) = .seq (seqA (seqN 9 (body Tryz.f74))) (.seq (seqA (seqN 10 (body Tryz.f74))) (.seq (seqA (seqN 11 (body Tryz.f74))) (seqN 12 (body Tryz.f74)))) := rfl
  rw [e0]
  generalize hrest : seqN 12 (body Tryz.f74) = rest at hend
  simp [Tryz.f74, body, seqN, seqA, seqB, g0, g2, g3]
  refine ht.mono ?_
  rintro v G m ⟨rfl, h5⟩
  have s5 := h5.store [.bool vr, .int .i64 bc, .int .i64 rc, .int .i64 md, .int .i64 dc, .int .i64 0, .int .i64 0, .int .i64 0, .int .i64 0]
  simp [c1, c2, c3, g0, g3, writeC, h5.c3]
  generalize hG : G.put (n0 + 1) _ = G6 at s5
  clear hG
  have gg : G6.get 2 = some (.cells (gcells 2) 144 .ro) := s5.gl 2 (by omega)
  generalize hE4 : er e4 (decide (10 < (md : Int)) || decide (tbl 2 dc = -1)) 13 = E4
  by_cases hm : 10 < (md : Int)
  · have hm' : 10 < md := by omega
    have hE : E4 = er e4 true 13 := by rw [← hE4]; simp [hm]
    simp [ldS_at s5.c3, hm, hm', g0, g3]
    refine (s5.wrong true 13).mono ?_
    intro v G7 m7 h7
    rw [← hE] at h7
    simp
    refine hend vr bc rc md dc x4 a4 E4 G7 m7 _ l4 h7 ?_ ?_ ?_ ?_ <;> simp [g0, g2, g3]
  · have hm' : ¬ 10 < md := by omega
    have hE : E4 = er e4 (decide (tbl 2 dc = -1)) 13 := by rw [← hE4]; simp [hm]
    simp [ldS_at s5.c3, hm, hm', g0, g3, lIndexA_some, d8', ldS_at gg, q2]
    refine (s5.wrong _ 13).mono ?_
    intro v G7 m7 h7
    rw [← hE] at h7
    simp
    refine hend vr bc rc md dc x4 a4 E4 G7 m7 _ l4 h7 ?_ ?_ ?_ ?_ <;> simp [g0, g2, g3]

theorem head_spec (h : HR H q p sv bs a e) (hf : Fresh H n) (hg : GOk H) (hq : q < n) (hp : p < n) (hq7 : 7 ≤ q) (hp7 : 7 ≤ p) (hs : ∀ x l c, sv = .slice (some x) l c → x.block < n) :
    WCall TE 74 [.pointer (some ⟨q, 0, none⟩)] H n (HeadQ H n q p sv bs (headF bs a e).2.1 (headF bs a e).2.2 (headF bs a e).1.cells) := by
  refine WCall_intro rfl fn74 rfl rfl ?_
  have f1 : Fresh (H.put n (.cells hcZero 47 .own)) (n + 1) := hf.new
  have f2 : Fresh ((H.put n (.cells hcZero 47 .own)).put (n + 1) (.cells hcZero 47 .own)) (n + 1 + 1) := f1.new
  have k2 : Keep H n ((H.put n (.cells hcZero 47 .own)).put (n + 1) (.cells hcZero 47 .own)) (n + 1 + 1) := (Keep.new _).new_of
  have h0 : HS H n q p sv bs a e hcZero ((H.put n (.cells hcZero 47 .own)).put (n + 1) (.cells hcZero 47 .own)) (n + 1 + 1) :=
    ⟨h.kept hf k2, f2, by rw [T.get_put_ne _ _ (by omega)]; simp, T.get_put_same _ _ _, fun b hb _ _ => k2.get hb, by omega, hg.kept (by omega) k2, hq, hp, hq7, hp7, hs⟩
  have hmid := fun (vr : Bool) (bc rc a : Nat) (e : Int) (G : Hp) (m : Nat) (fr : Fr) h g0 g2 g3 => head_mid (H0 := H) (n0 := n) (q := q) (p := p) (sv := sv) (bs := bs) (vr := vr) (bc := bc) (rc := rc) (a := a) (e := e) (H := G) (n := m) (fr := fr) h g0 g2 g3
  simp only [headF, H4.cells]
  have l1 := tk_lt bs a e 8
  have ht1' := h0.take (k := 8) (by omega)
  rcases ht1 : tk bs a e 8 with ⟨x1, a1, e1⟩
  rw [ht1] at l1 ht1'
  simp only at l1 ht1'
  generalize hE1 : er e1 (!decide ((x1 : Int) = 255)) 14 = E1
  have l2 := tk_lt bs a1 E1 8
  have ht2' := fun (G : Hp) (m : Nat) (h : HS H n q p sv bs a1 E1 hcZero G m) => h.take (k := 8) (by omega)
  rcases ht2 : tk bs a1 E1 8 with ⟨x2, a2, e2⟩
  rw [ht2] at l2 ht2'
  simp only at l2 ht2'
  generalize hE2 : er e2 (!decide ((x2 : Int) / 2 = 124)) 14 = E2
  obtain ⟨y2, hy2⟩ : ∃ w : Nat, w = x2 % 2 := ⟨_, rfl⟩
  have c0 : bitI .and .i64 (x2 : Int) 1 = y2 := by rw [mask1 x2 l2, hy2]
  rw [← hy2]
  have l3 := tk_lt bs a2 E2 8
  have ht3' := fun (hc : List Value) (G : Hp) (m : Nat) (h : HS H n q p sv bs a2 E2 hc G m) => h.take (k := 8) (by omega)
  rcases ht3 : tk bs a2 E2 8 with ⟨x3, a3, e3⟩
  rw [ht3] at l3 ht3'
  simp only at l3 ht3'
  obtain ⟨bc, hbc⟩ : ∃ w : Nat, w = x3 / 16 := ⟨_, rfl⟩
  obtain ⟨rc, hrc⟩ : ∃ w : Nat, w = x3 % 16 := ⟨_, rfl⟩
  simp only
  rw [← hbc, ← hrc]
  have c1 : (x3 : Int) / 16 = bc := by omega
  have c2 : bitI .and .i64 (x3 : Int) 15 = rc := by rw [mask15 x3 l3, hrc]
  have b16 : bc < 16 := by omega
  have r16 : rc < 16 := by omega
  have b16' : (bc : Int) < 16 := by omega
  have r16' : (rc : Int) < 16 := by omega
  have q0 := tbl0 b16
  have q1 := tbl1 r16
  generalize hE3 : er e3 (decide (tbl 0 bc = -1) || decide (tbl 1 rc = -1)) 13 = E3
  have e0 : body Tryz.f74 = .seq (seqA (body Tryz.f74)) (.seq (seqA (seqN 1 (body Tryz.f74))) (.seq (seqA (seqN 2 (body Tryz.f74))) (.seq (seqA (seqN 3 (body Tryz.f74))) (.seq (seqA (seqN 4 (body Tryz.f74))) (.seq (seqA (seqN 5 (body Tryz.f74))) (.seq (seqA (seqN 6 (body Tryz.f74))) (.seq (seqA (seqN 7 (body Tryz.f74))) (.seq (seqA (seqN 8 (body Tryz.f74))) (seqN 9 (body Tryz.f74)))))))))) := rfl
  show Wp TE 70 (body Tryz.f74) _ H n (RetQ TE [.cell 2 47] _)
  rw [e0]
  generalize hrest : seqN 9 (body Tryz.f74) = rest at hmid
  simp [Tryz.f74, body, seqN, seqA, seqB, hAlloc, newB]
  refine ht1'.mono ?_
  rintro v G1 n1 ⟨rfl, h1⟩
  simp
  refine (h1.wrong _ _).mono ?_
  intro v G2 n2 h2
  simp
  rw [hE1] at h2
  refine (ht2' _ _ h2).mono ?_
  rintro v G3 n3 ⟨rfl, h3⟩
  simp
  refine (h3.wrong _ _).mono ?_
  intro v G4 n4 h4
  rw [hE2] at h4
  have s4 := h4.store [.bool (decide ((y2 : Int) = 1)), .int .i64 0, .int .i64 0, .int .i64 0, .int .i64 0, .int .i64 0, .int .i64 0, .int .i64 0, .int .i64 0]
  simp [c0, writeC, h4.c3, hcZero]
  refine (ht3' _ _ _ s4).mono ?_
  rintro v G5 n5 ⟨rfl, h5⟩
  have s5 := h5.store [.bool (decide ((y2 : Int) = 1)), .int .i64 bc, .int .i64 rc, .int .i64 0, .int .i64 0, .int .i64 0, .int .i64 0, .int .i64 0, .int .i64 0]
  simp [c1, c2, writeC, h5.c3]
  generalize hG : G5.put (n + 1) _ = G6 at s5
  clear hG
  have gg0 : G6.get 0 = some (.cells (gcells 0) 143 .ro) := s5.gl 0 (by omega)
  have gg1 : G6.get 1 = some (.cells (gcells 1) 143 .ro) := s5.gl 1 (by omega)
  by_cases hb : tbl 0 bc = -1
  · have hE : E3 = er e3 true 13 := by rw [← hE3]; simp [hb]
    simp [ldS_at s5.c3, lIndexA_some, b16', ldS_at gg0, q0, hb]
    refine (s5.wrong true 13).mono ?_
    intro v G7 m7 h7
    rw [← hE] at h7
    simp
    refine hmid _ bc rc a3 E3 G7 m7 _ h7 ?_ ?_ ?_ <;> simp
  · have hE : E3 = er e3 (decide (tbl 1 rc = -1)) 13 := by rw [← hE3]; simp [hb]
    simp [ldS_at s5.c3, lIndexA_some, b16', r16', ldS_at gg0, ldS_at gg1, q0, q1, hb]
    refine (s5.wrong _ 13).mono ?_
    intro v G7 m7 h7
    rw [← hE] at h7
    simp
    refine hmid _ bc rc a3 E3 G7 m7 _ h7 ?_ ?_ ?_ <;> simp
end Go.Ab

/- The program's functions: header.Read where the first four bytes are wrong; a place whose byte is not 255. -/
namespace Go.Ab
open Go.Proofs
set_option linter.unusedSimpArgs false
variable {H H0 : Hp} {s sv : Value} {bs : List UInt8} {n n0 q p a : Nat} {e : Int}

theorem build137 (p : Nat) : buildV TE 137 [(0, .pointer (some ⟨p, 0, none⟩))] = some (.agg #[.pointer (some ⟨p, 0, none⟩), .int .i64 0]) := by kernel_rfl
theorem build47 : buildV TE 47 [] = some (.agg hcZero.toArray) := by kernel_rfl
theorem H4.cells_len (h : H4) : h.cells.length = 9 := rfl
theorem H4.cells_cell (h : H4) : h.cells.all cell1 = true := rfl

/-- The bytes in which a header lies. -/
def hb (bs : List UInt8) : List UInt8 := bs.take 16

theorem headerRead_bad (h : By H s bs) (hl : bs.length < 1000000000) (hf : Fresh H n) (hg : GOk H) (hn : 7 ≤ n) (he : (headF (hb bs) 0 0).2.2 ≠ 0) :
    WCall TE 30 [s] H n (fun v H' n' => v = .tuple #[.agg hcZero.toArray, .int .i64 0, .int .i64 (headF (hb bs) 0 0).2.2] ∧ Keep H n H' n') := by
  refine WCall_intro rfl fn30 rfl rfl ?_
  simp [Tryz.f30, hAlloc, newB, h.ln]
  generalize hG : H.put n _ = G
  have k1 : Keep H n G (n + 1) := hG ▸ .new _
  have f1 : Fresh G (n + 1) := hG ▸ hf.new
  have c1 : G.get n = some (.cells hcZero 47 .own) := by rw [← hG]; simp [hcZero]
  have h1 : By G s bs := h.kept hf k1
  clear hG
  obtain ⟨m, hm⟩ : ∃ m : Nat, m = min bs.length 16 := ⟨_, rfl⟩
  have em : (if (16 : Int) < (bs.length : Int) then (16 : Int) else (bs.length : Int)) = (m : Int) := by split <;> omega
  obtain ⟨s1, e1, p1⟩ := h1.part (lo := none) (hi := some (.int .i64 m)) (l := 0) (u := m) (.inr ⟨rfl, rfl⟩) (.inl rfl) (by omega) (by omega)
  have hp : (bs.drop 0).take (m - 0) = hb bs := by
    rw [List.drop_zero, Nat.sub_zero, hm, hb]
    by_cases h16 : bs.length ≤ 16
    · rw [List.take_of_length_le (by omega), List.take_of_length_le (by omega)]
    · rw [Nat.min_eq_right (by omega)]
  rw [hp] at p1
  simp [em, lSlice3, e1]
  have hbl : (hb bs).length < 1000000000 := by simp [hb]; omega
  refine (WCall.fresh f1 (newReader_spec p1 f1 hbl)).mono ?_
  rintro v G2 n2 ⟨-, f2, p, sv, rfl, hp1, hp2, hrd, hown, k2⟩
  simp [build137, hBox, newB]
  have k3 : Keep G2 n2 (G2.put n2 (.cells [.pointer (some ⟨p, 0, none⟩), .int .i64 0] 137 .own)) (n2 + 1) := .new _
  have hr : HR (G2.put n2 (.cells [.pointer (some ⟨p, 0, none⟩), .int .i64 0] 137 .own)) n2 p sv (hb bs) 0 0 := by
    refine ⟨T.get_put_same _ _ _, hrd.kept f2 k3, by omega, fun x l c ex => ?_⟩
    obtain ⟨base, cap, g1, g2, g3, g4⟩ := hrd.sh.2.1.sh
    rw [ex] at g1
    cases g1
    obtain ⟨_, _, _, _, g6, _⟩ := g4
    exact Nat.ne_of_lt (f2.lt g6)
  have hsb : ∀ x l c, sv = .slice (some x) l c → x.block < n2 + 1 := fun x l c ex => by
    obtain ⟨base, cap, g1, g2, g3, g4⟩ := hrd.sh.2.1.sh
    rw [ex] at g1
    cases g1
    obtain ⟨_, _, _, _, g6, _⟩ := g4
    have := f2.lt g6
    omega
  have hg2 : GOk G2 := (hg.kept hn k1).kept (by omega) k2
  refine (head_spec hr f2.new (hg2.kept (by omega) k3) (by omega) (by omega) (by omega) (by omega) hsb).mono ?_
  rintro v G3 n3 ⟨rfl, hr3, hn3, f3, g3, kp3⟩
  have c3 : G3.get n = some (.cells hcZero 47 .own) := by
    rw [kp3 n (by omega) (by omega) (by omega), k3.get (by omega), k2.get (by omega)]; exact c1
  generalize headF (hb bs) 0 0 = r at *
  obtain ⟨h4, a4, e4⟩ := r
  simp only at he hr3 ⊢
  have cc : (H4.cells h4).length = 9 := rfl
  simp [H4.cells, writeC, hAlloc, newB]
  generalize hG4 : G3.put n3 _ = G4
  have k4 : Keep G3 n3 G4 (n3 + 1) := by rw [← hG4]; exact .new _
  have f4 : Fresh G4 (n3 + 1) := by rw [← hG4]; exact f3.new
  have hq3 : G4.get n2 = some (.cells [.pointer (some ⟨p, 0, none⟩), .int .i64 e4] 137 .own) := by rw [k4.get (by omega)]; exact hr3.cell
  have c4 : G4.get n = some (.cells hcZero 47 .own) := by rw [k4.get (by omega)]; exact c3
  clear hG4
  simp [ldS_at hq3, he]
  refine Wp_drawn [0, 1, 2, 3, 4, 5, 6, 7] [(4, 4, 8)] (by kernel_rfl) f4 ?_
  have hne : ¬ n2 = n := by omega
  have hq4 : ∀ Y, (G4.put n Y).get n2 = some (.cells [.pointer (some ⟨p, 0, none⟩), .int .i64 e4] 137 .own) := fun Y => by
    rw [T.get_put_ne _ _ hne]; exact hq3
  have e9 : ∀ Y : List Value, Y.length = 9 → ldA (G4.put n (.cells Y 47 .own)) ⟨n, 0, none⟩ 9 = some (.agg Y.toArray) := fun Y hY => by
    rw [ldA_get (a := ⟨n, 0, none⟩) (T.get_put_same _ n _) (m := 9) (by simp [hY]), List.drop_zero, List.take_of_length_le (by omega)]
  have w9 : writeC G4 ⟨n, 0, none⟩ hcZero = some (G4.put n (.cells hcZero 47 .own)) := by
    rw [writeC_of c4 (by decide) rfl (by simp [hcZero]) (by simp [hcZero])]
    simp [hcZero]
  have l9 : hcZero.length = 9 := rfl
  simp [ldS_at hq3, build47, w9, l9, ldS_at (hq4 _), e9]
  exact ⟨by omega, fun b hb => by rw [T.get_put_ne _ _ (by omega), k4.get (by omega), kp3 b (by omega) (by omega) (by omega), k3.get (by omega), k2.get (by omega), k1.get hb]⟩

theorem bitsV_byte (bs : List UInt8) : bitsV bs 0 8 = (bs.getD 0 0).toNat := by
  have := bitsV_chunk bs 0 0 8 (by omega)
  simp only [Nat.zero_add] at this
  rw [this]
  have h := (bs.getD 0 0).toNat_lt
  simp only [bitsV, Nat.zero_mul, Nat.zero_add, Nat.zero_mod, Nat.sub_self, Nat.sub_zero, Nat.pow_zero, Nat.div_one, Nat.zero_div]
  omega
theorem headF_no {bs : List UInt8} (hl : 0 < bs.length) (h0 : bs.getD 0 0 ≠ 255) : (headF (hb bs) 0 0).2.2 = 14 := by
  have e1 : (hb bs).getD 0 0 = bs.getD 0 0 := by
    unfold hb
    cases bs with
    | nil => simp at hl
    | cons x xs => rfl
  have e2 : 0 < (hb bs).length := by simp [hb]; omega
  have e3 : tk (hb bs) 0 0 8 = ((bs.getD 0 0).toNat, 8, 0) := by
    unfold tk
    rw [if_neg (by simp), if_pos (by omega), bitsV_byte, e1]
  have e4 : ¬ (((bs.getD 0 0).toNat : Int) = 255) := by
    intro h
    exact h0 (UInt8.toNat_inj.1 (show (bs.getD 0 0).toNat = 255 by omega))
  have e5 : er 0 (!decide (((bs.getD 0 0).toNat : Int) = 255)) 14 = 14 := by
    unfold er
    simp only [e4]
    rfl
  have e6 : ∀ a k, tk (hb bs) a 14 k = (0, a, 14) := fun a k => by unfold tk; rw [if_pos (by decide)]
  have e7 : ∀ is x, er 14 is x = 14 := fun is x => by unfold er; rw [if_pos (by decide)]
  unfold headF
  simp only [e3, e5, e6, e7]

/-- A place without a candidate: outside, or where a byte stands that is not 255. -/
theorem atNone_spec (h : By H s bs) (hl : bs.length < 1000000000) (hf : Fresh H n) (hg : GOk H) (hn : 7 ≤ n) (l : Value) (i : Int) (hno : i < 0 ∨ (bs.length : Int) ≤ i ∨ bs.getD i.toNat 0 ≠ 255) :
    WCall TE 10 [s, .int .i64 i, l] H n (fun v H' n' => v = .slice none 0 0 ∧ Keep H n H' n') := by
  refine WCall_intro rfl fn10 rfl rfl ?_
  by_cases h1 : i < 0
  · simp [Tryz.f10, h1, Keep.refl]
  · by_cases h2 : (bs.length : Int) ≤ i
    · simp [Tryz.f10, h1, h2, h.ln, Keep.refl]
    · have h3 : bs.getD i.toNat 0 ≠ 255 := by
        rcases hno with h | h | h
        · exact absurd h h1
        · exact absurd h h2
        · exact h
      obtain ⟨j, rfl⟩ := Int.eq_ofNat_of_zero_le (show 0 ≤ i by omega)
      simp only [Int.toNat_natCast] at h3
      have hj : j < bs.length := by omega
      obtain ⟨s1, e1, p1⟩ := h.part (lo := some (.int .i64 j)) (hi := none) (l := j) (u := bs.length) (.inl rfl) (.inr ⟨rfl, rfl⟩) (by omega) (by omega)
      have e2 : (bs.drop j).take (bs.length - j) = bs.drop j := List.take_of_length_le (by simp)
      rw [e2] at p1
      have e3 : (bs.drop j).getD 0 0 = bs.getD j 0 := by simp [List.getD_eq_getElem?_getD]
      have he := headF_no (bs := bs.drop j) (by simp; omega) (by rw [e3]; exact h3)
      have h1' : ¬ ((j : Int) < 0) := by omega
      have h2' : ¬ (bs.length ≤ j) := by omega
      simp [Tryz.f10, h1, h2, h1', h2', h.ln, lSlice3, e1]
      refine (headerRead_bad p1 (by simp; omega) hf hg hn (by rw [he]; decide)).mono ?_
      rintro v G n1 ⟨rfl, k1⟩
      simp [he, hAlloc, newB, writeC, hcZero]
      exact k1.new_of
end Go.Ab

/- The law ScanNone, over the evaluator. -/
namespace Go.Ab
open Go.Proofs
set_option linter.unusedSimpArgs false
variable {H H0 : Hp} {s : Value} {bs : List UInt8} {n n0 : Nat}

theorem gchk1_ok (hg : GOk H) {i : Nat} (hi : i < 7) (hv : ∀ v ∈ gcells i, veq0 v v = true) : gchk1 H i = true := by
  unfold gchk1
  rw [hg i hi]
  simp [veqs_self hv, isRo]
theorem allI_veq {l : List Value} (h : l.all (fun v => match v with | .int _ _ => true | _ => false) = true) : ∀ v ∈ l, veq0 v v = true := by
  intro v hv
  rw [List.all_eq_true] at h
  have := h v hv
  cases v <;> first | exact veq0_int _ _ | cases this
theorem gchk_ok (hg : GOk H) : gchk H = true := by
  unfold gchk
  rw [gchk1_ok hg (by omega) (allI_veq rfl), gchk1_ok hg (by omega) (allI_veq rfl), gchk1_ok hg (by omega) (allI_veq rfl), gchk1_ok hg (by omega) (allI_veq rfl), gchk1_ok hg (by omega) (allI_veq rfl), gchk1_ok hg (by omega) (allI_veq rfl), gchk1_ok hg (by omega) (allI_veq rfl)]
  rfl
theorem awake_call (hg : GOk H) (K) (h : K (.bool true) H n) : WCall TE 9 [] H n K := by
  refine WCall_orc (fn := Tryz.f9) (v := .bool true) ?_ fn9 rfl h
  show awakeF 9 [] H = _
  unfold awakeF
  rw [gchk_ok hg]
  rfl

theorem bs_one (x : Int) (H : Hp) (n : Nat) : hBuildSlice TE H n 22 1 (some [(0, .int .u8 x)]) = some (.slice (some ⟨n, 0, none⟩) 1 1, H.put n (.cells [.int .u8 x] 5 .own), n + 1) := by kernel_rfl
theorem sl_one {b : Nat} {x : Value} (h : H.get b = some (.cells [x] 5 .own)) : Sl H 5 1 (.slice (some ⟨b, 0, none⟩) 1 1) 1 [x] :=
  ⟨_, _, rfl, Nat.le_refl _, rfl, rfl, _, 5, .own, h, (fun e => by cases e), by simp, by simp⟩

/-- Bytes, 254 for 255. -/
def less (x : UInt8) : UInt8 := if x = 255 then 254 else x
theorem less_no {bs : List UInt8} : ∀ x ∈ bs.map less, x ≠ 255 := by
  intro x hx
  rw [List.mem_map] at hx
  obtain ⟨y, _, rfl⟩ := hx
  unfold less
  split
  · decide
  · assumption

/-- One byte more, behind a list that grows. -/
theorem push_byte {cv : Value} {m : Nat} {l : List UInt8} (hf : Fresh H n) (ha : Acc H n 5 1 cv m (u8s l)) (ho : own cv n0) (h0 : n0 ≤ n) (hm : m < 1000000000) (x : UInt8) :
    ∃ G k c', hBuildSlice TE H n 22 1 (some [(0, .int .u8 x.toNat)]) = some (.slice (some ⟨n, 0, none⟩) 1 1, G, n + 1) ∧ ∃ G', hBuiltin TE G (n + 1) .append #[22, 22] (some [cv, .slice (some ⟨n, 0, none⟩) 1 1]) = some (c', G', k) ∧
      Acc G' k 5 1 c' (m + 1) (u8s (l ++ [x])) ∧ own c' n0 ∧ Keep H n0 G' k ∧ Fresh G' k := by
  have hf1 : Fresh (H.put n (.cells [.int .u8 x.toNat] 5 .own)) (n + 1) := hf.new
  have k1 : Keep H n (H.put n (.cells [.int .u8 x.toNat] 5 .own)) (n + 1) := .new _
  have ha1 : Acc (H.put n (.cells [.int .u8 x.toNat] 5 .own)) (n + 1) 5 1 cv m (u8s l) := ha.keep (fun b l c hb _ => k1.get hb) (by omega)
  obtain ⟨c', G', k, h1, h2, h3, h4, h5⟩ := append_sl (E := TE) ty22 ty5 rfl rfl ha1 (sl_one (T.get_put_same H n (.cells [.int .u8 x.toNat] 5 .own))) rfl (by unfold lim; omega) (by unfold lim; simp; omega)
  refine ⟨_, k, c', bs_one _ _ _, G', h1, by rw [u8s_append]; exact h2, h5 n0 (by omega) ho, ?_, ?_⟩
  · have k2 := Keep.of_append ho (by omega) h3 h4
    exact ⟨k2.1, fun b hb => by rw [k2.get hb, k1.get (by omega)]⟩
  · exact (hBuiltin_grow h1 hf1).2

theorem scanNone_law (h : By H s bs) (hf : Fresh H n) (hg : GOk H) (hn : 7 ≤ n) (l : Value) {m : Nat} {cs : List Value} (hl : Sl H 29 3 l m cs) (i : Int) (hi1 : -9223372036854775808 ≤ i) (hi2 : i ≤ 9223372036854775807) :
    WCall TE 5 [s, .int .i64 i, l] H n (fun v H' n' => v = .bool true ∧ Keep H n H' n') := by
  refine WCall_intro rfl fn5 rfl rfl ?_
  have el := hl.len ty23
  by_cases h1 : 400 < (bs.length : Int)
  · simp [Tryz.f5, h.ln, h1]
    exact awake_call hg _ (by simp [Keep.refl])
  by_cases h2 : 5 < (m : Int)
  · simp [Tryz.f5, h.ln, h1, el, h2]
    exact awake_call hg _ (by simp [Keep.refl])
  have hsm : bs.length < 1000000000 := by omega
  simp [Tryz.f5, h.ln, h1, el, h2]
  refine Wp_loop (fun k fr H' n' => ∃ (j : Nat) (cv : Value), k = bs.length - j ∧ j ≤ bs.length ∧ fr.get 0 = some s ∧ fr.get 1 = some (.int .i64 i) ∧ fr.get 2 = some l ∧ fr.get 8 = some (.int .i64 j) ∧ fr.get 7 = some cv ∧
      Acc H' n' 5 1 cv j (u8s ((bs.take j).map less)) ∧ own cv n ∧ Keep H n H' n' ∧ Fresh H' n') ?_ (k := bs.length) ?_
  · rintro k fr H' n' ⟨j, cv, rfl, hj, g0, g1, g2, g8, g7, ha, ho, kk, hf'⟩
    have hB : By H' s bs := h.kept hf kk
    by_cases hlt : j < bs.length
    · have e : (j : Int) < bs.length := by omega
      have e2 : wr .i64 ((j : Int) + 1) = (j + 1 : Nat) := by rw [wr_i64 (by omega) (by omega)]; omega
      have hmap : (bs.take (j + 1)).map less = (bs.take j).map less ++ [less bs[j]] := by
        rw [List.take_succ_eq_append_getElem hlt, List.map_append]; rfl
      obtain ⟨G, k, c', p1, G', p2, p3, p4, p5, p6⟩ := push_byte hf' ha ho kk.1 (by omega) (less bs[j])
      rw [← hmap] at p3
      by_cases hx : ((bs[j]).toNat : Int) = 255
      · have hx2 : bs[j] = 255 := UInt8.toNat_inj.1 (show bs[j].toNat = 255 by omega)
        have hx3 : (((less bs[j]).toNat : Nat) : Int) = 254 := by rw [hx2]; rfl
        rw [hx3] at p1
        simp [g0, g1, g2, g8, g7, hB.ln, e, hB.ix hlt, hB.ld hlt, hx, p1, p2, e2]
        exact ⟨bs.length - (j + 1), by omega, j + 1, rfl, by omega, by omega, by rw [← List.map_take]; exact p3, p4, ⟨by have := p5.1; have := kk.1; omega, fun b hb => by rw [p5.get hb, kk.get hb]⟩, p6⟩
      · have hx2 : less bs[j] = bs[j] := by
          unfold less
          rw [if_neg]
          intro h3
          exact hx (by rw [h3]; rfl)
        rw [hx2] at p1
        simp [g0, g1, g2, g8, g7, hB.ln, e, hB.ix hlt, hB.ld hlt, hx, p1, p2, e2]
        exact ⟨bs.length - (j + 1), by omega, j + 1, rfl, by omega, by omega, by rw [← List.map_take]; exact p3, p4, ⟨by have := p5.1; have := kk.1; omega, fun b hb => by rw [p5.get hb, kk.get hb]⟩, p6⟩
    · have e : ¬ (j : Int) < bs.length := by omega
      have hjl : j = bs.length := by omega
      subst hjl
      rw [List.take_length] at ha
      have hC : By H' cv (bs.map less) := by
        have := ha.sl
        unfold By
        rw [List.length_map]
        exact this
      have hcl : (bs.map less).length < 1000000000 := by simp; omega
      have hg' : GOk H' := hg.kept hn kk
      simp [g0, g1, g2, g8, g7, hB.ln, e, scanNone_eq hC hcl less_no]
      refine (WCall.fresh hf' (allNone_spec hC hcl less_no hf')).mono ?_
      rintro v G n1 ⟨-, hf1, rfl, k1⟩
      have kk1 : Keep H n G n1 := ⟨by have := kk.1; have := k1.1; omega, fun b hb => by rw [k1.get (by have := kk.1; omega), kk.get hb]⟩
      have hB1 : By G s bs := h.kept hf kk1
      have hg1 : GOk G := hg.kept hn kk1
      have fin : ∀ {G2 : Hp} {n2 : Nat} (K : Value → Hp → Nat → Prop), Keep H n G2 n2 → K (.bool true) G2 n2 → WCall TE 9 [] G2 n2 K := fun K k2 hk => awake_call (hg.kept hn k2) K hk
      have hat := fun hno => WCall.fresh hf1 (atNone_spec hB1 hsm hf1 hg1 (by have := kk1.1; omega) l i hno)
      by_cases hi : i < 0
      · simp [g0, g1, g2, hi]
        refine (hat (.inl hi)).mono ?_
        rintro v G2 n2 ⟨-, -, rfl, k2⟩
        have kk2 := kk1.trans k2
        simp
        exact fin _ kk2 (by simp [kk2])
      · by_cases hi2 : (bs.length : Int) ≤ i
        · simp [g0, g1, g2, hi, hi2, hB1.ln]
          refine (hat (.inr (.inl hi2))).mono ?_
          rintro v G2 n2 ⟨-, -, rfl, k2⟩
          have kk2 := kk1.trans k2
          simp
          exact fin _ kk2 (by simp [kk2])
        · obtain ⟨w, rfl⟩ := Int.eq_ofNat_of_zero_le (show 0 ≤ i by omega)
          have hw : w < bs.length := by omega
          have hw' : ¬ bs.length ≤ w := by omega
          by_cases hx : ((bs[w]).toNat : Int) = 255
          · simp [g0, g1, g2, hi, hi2, hw', hB1.ln, hB1.ix hw, hB1.ld hw, hx]
            exact fin _ kk1 (by simp [kk1])
          · simp [g0, g1, g2, hi, hi2, hw', hB1.ln, hB1.ix hw, hB1.ld hw, hx]
            refine (hat (.inr (.inr ?_))).mono ?_
            · simp [List.getD_eq_getElem?_getD, List.getElem?_eq_getElem hw]
              intro h3
              exact hx (by rw [h3]; rfl)
            rintro v G2 n2 ⟨-, -, rfl, k2⟩
            have kk2 := kk1.trans k2
            simp
            exact fin _ kk2 (by simp [kk2])
  · exact ⟨0, .slice none 0 0, by simp, by omega, by simp, by simp, by simp, by simp, by simp, .nil _ _ _ _, own_nil _ _ _, .refl _ _, hf⟩
end Go.Ab
