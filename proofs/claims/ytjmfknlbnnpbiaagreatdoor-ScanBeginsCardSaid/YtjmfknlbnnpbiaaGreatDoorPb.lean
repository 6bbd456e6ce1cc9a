/- Contracts of functions: bits, bytes of a place. -/
import Derived.Test.YtjmfknlbnnpbiaaGreatDoorPa

set_option linter.all false

/- The program's functions: package bits: a reader. -/
namespace Go.Ab
open Go.Proofs
set_option linter.unusedSimpArgs false
variable {H : Hp} {s sv : Value} {bs : List UInt8} {n : Nat}

/-! Bits, as numbers. -/
def bit (bs : List UInt8) (i : Nat) : Nat := (bs.getD (i / 8) 0).toNat / 2 ^ (7 - i % 8) % 2
def bitsV (bs : List UInt8) (at_ : Nat) : Nat → Nat
  | 0 => 0
  | n + 1 => 2 * bitsV bs at_ n + bit bs (at_ + n)
theorem bitsV_lt (bs : List UInt8) (at_ : Nat) : ∀ n, bitsV bs at_ n < 2 ^ n
  | 0 => by simp [bitsV]
  | n + 1 => by
    have := bitsV_lt bs at_ n
    have h2 : bit bs (at_ + n) < 2 := Nat.mod_lt _ (by decide)
    rw [bitsV, Nat.pow_succ]
    omega
theorem bitsV_chunk (bs : List UInt8) (at_ m : Nat) : ∀ k, (at_ + m) % 8 + k ≤ 8 → bitsV bs at_ (m + k) = bitsV bs at_ m * 2 ^ k + (bs.getD ((at_ + m) / 8) 0).toNat / 2 ^ (8 - (at_ + m) % 8 - k) % 2 ^ k
  | 0, _ => by simp [Nat.mod_one]
  | k + 1, h => by
    have ih := bitsV_chunk bs at_ m k (by omega)
    rw [← Nat.add_assoc, bitsV, ih]
    have e1 : (at_ + (m + k)) / 8 = (at_ + m) / 8 := by omega
    have e2 : (at_ + (m + k)) % 8 = (at_ + m) % 8 + k := by omega
    unfold bit
    rw [e1, e2]
    generalize (bs.getD ((at_ + m) / 8) 0).toNat = x
    have e3 : 7 - ((at_ + m) % 8 + k) = 8 - (at_ + m) % 8 - (k + 1) := by omega
    rw [e3]
    have e4 : 8 - (at_ + m) % 8 - k = (8 - (at_ + m) % 8 - (k + 1)) + 1 := by omega
    rw [e4, Nat.pow_succ, ← Nat.div_div_eq_div_mul]
    generalize x / 2 ^ (8 - (at_ + m) % 8 - (k + 1)) = y
    rw [Nat.pow_succ 2 k, Nat.mul_comm (2 ^ k) 2, Nat.mod_mul]
    rw [Nat.mul_add, ← Nat.mul_assoc, ← Nat.mul_assoc, Nat.mul_comm 2 (bitsV bs at_ m), Nat.mul_assoc (bitsV bs at_ m)]
    omega

/-- A reader at p: of these bytes, at that bit. -/
structure Rd (H : Hp) (p : Nat) (sv : Value) (bs : List UInt8) (a : Nat) : Prop where
  sh : H.get p = some (.cells [.int .i64 a, sv] 159 .own) ∧ By H sv bs ∧ (∀ x l c, sv = .slice (some x) l c → x.block ≠ p)
  le : a ≤ 8 * bs.length
  small : bs.length < 1000000000

theorem clone_nil_eq (K) : WCall TE 46 [.slice none 0 0] H n K ↔ K (.slice none 0 0) H n := by
  refine WCall.pure (WCall_intro rfl fn46 rfl rfl ?_) K
  simp [Tryz.f46]
theorem bs_empty (H : Hp) (n : Nat) : hBuildSlice TE H n 22 0 (some []) = some (.slice (some ⟨n, 0, none⟩) 0 0, H.put n (.cells [] 5 .own), n + 1) := by kernel_rfl
theorem readC_zero (H : Hp) (a : Addr) : readC H a 0 = some [] := rfl
theorem clone_spec (h : By H s bs) (hf : Fresh H n) (hl : bs.length < 1000000000) : WCall TE 46 [s] H n (fun v H' n' => By H' v bs ∧ Keep H n H' n' ∧ own v n) := by
  have h0 := h
  obtain ⟨base, cap, h1, h2, h3, h4⟩ := h.sh
  subst h1
  cases base with
  | none =>
    obtain ⟨e1, e2⟩ := h4
    subst e2
    have hn : bs = [] := List.eq_nil_of_length_eq_zero e1
    subst hn
    exact (clone_nil_eq _).2 ⟨h0, .refl _ _, own_nil _ _ _⟩
  | some a =>
    refine WCall_intro rfl fn46 rfl rfl ?_
    simp [Tryz.f46, bs_empty]
    obtain ⟨h5, c, te, k, h6, h7, h8, h9⟩ := h4
    have hlt := hf.lt h6
    have e1 : readC (H.put n (.cells [] 5 .own)) a (bs.length * 1) = some (u8s bs) := by
      rw [readC_of (by rw [T.get_put_ne _ _ (Nat.ne_of_lt hlt)]; exact h6) h8, h9]
    simp only [Nat.mul_one] at e1
    have e2 : bs.length ≤ lim := by unfold lim; omega
    have e3 : bs.length * 1 ≤ lim := by omega
    by_cases hb : bs.length = 0
    · have hn : bs = [] := List.eq_nil_of_length_eq_zero hb
      subst hn
      simp only [List.length_nil] at *
      simp [hBuiltin, appendV, appCells, e1, appTo, lim, u8s]
      refine ⟨⟨some ⟨n, 0, none⟩, 0, rfl, Nat.le_refl _, rfl, rfl, [], 5, .own, T.get_put_same _ _ _, (fun e => by cases e), by simp, by simp [u8s]⟩, .new _, fun x l c h => by cases h; exact Nat.le_refl _⟩
    · have hb2 : (bs.length.beq 0) = false := by
        cases e : bs.length.beq 0 with
        | false => rfl
        | true => exact absurd (Nat.eq_of_beq_eq_true e) hb
      simp [hBuiltin, appendV, appCells, e1, appTo, appAt, appGrow, e2, hb, readC_zero, newB, u8s_cell1, hb2]
      refine ⟨⟨some ⟨n + 1, 0, none⟩, bs.length, rfl, Nat.le_refl _, by simp, rfl, u8s bs, 5, .grown, T.get_put_same _ _ _, fun _ => rfl, by simp, List.take_of_length_le (by simp)⟩, ⟨by omega, fun b hb => by rw [T.get_put_ne _ _ (by omega), T.get_put_ne _ _ (by omega)]⟩, fun x l c h => by cases h; exact Nat.le_succ _⟩

theorem buildRd (sv : Value) (hs : ∃ a l c, sv = .slice a l c) : buildV TE 159 [(1, sv)] = some (.agg #[.int .i64 0, sv]) := by
  obtain ⟨a, l, c, rfl⟩ := hs
  kernel_rfl
theorem Sl.form {e esz m : Nat} {cs : List Value} (h : Sl H e esz s m cs) : ∃ a l c, s = .slice a l c := by
  obtain ⟨base, cap, h1, _⟩ := h.sh
  exact ⟨_, _, _, h1⟩
theorem Sl.cell1 {e esz m : Nat} {cs : List Value} (h : Sl H e esz s m cs) : cell1 s = true := by
  obtain ⟨a, l, c, rfl⟩ := h.form
  rfl

theorem newReader_spec (h : By H s bs) (hf : Fresh H n) (hl : bs.length < 1000000000) : WCall TE 51 [s] H n (fun v H' n' => ∃ p sv, v = .pointer (some ⟨p, 0, none⟩) ∧ n ≤ p ∧ p < n' ∧ Rd H' p sv bs 0 ∧ own sv n ∧ Keep H n H' n') := by
  refine WCall_intro rfl fn51 rfl rfl ?_
  simp [Tryz.f51]
  refine (WCall.fresh hf (clone_spec h hf hl)).mono ?_
  rintro v G n1 ⟨h0, hf1, hv, k1, ho⟩
  obtain ⟨x, l, c, hform⟩ := hv.form
  simp [buildRd v hv.form, hBox, newB]
  refine ⟨h0, v, ⟨⟨by simp, hv.kept hf1 (.new _), fun y l' c' e => ?_⟩, by simp, hl⟩, ho, k1.new_of⟩
  obtain ⟨base, cap, g1, g2, g3, g4⟩ := hv.sh
  rw [e] at g1
  cases g1
  obtain ⟨_, _, _, _, g6, _⟩ := g4
  exact Nat.ne_of_lt (hf1.lt g6)

/-- Nothing else than this one block turns. -/
def Only (p : Nat) (H : Hp) (n : Nat) (H' : Hp) (n' : Nat) : Prop := n ≤ n' ∧ ∀ b, b < n → b ≠ p → H'.get b = H.get b
theorem Only.refl (p : Nat) (H : Hp) (n : Nat) : Only p H n H n := ⟨Nat.le_refl _, fun _ _ _ => rfl⟩
theorem Only.trans {p : Nat} {H1 H2 H3 : Hp} {n1 n2 n3 : Nat} (h : Only p H1 n1 H2 n2) (h' : Only p H2 n2 H3 n3) : Only p H1 n1 H3 n3 :=
  ⟨Nat.le_trans h.1 h'.1, fun b hb hp => (h'.2 b (Nat.lt_of_lt_of_le hb h.1) hp).trans (h.2 b hb hp)⟩
theorem Only.put (p : Nat) (X : Blk) : Only p H n (H.put p X) n := ⟨Nat.le_refl _, fun _ _ hp => T.get_put_ne _ _ hp⟩
theorem Keep.only {p : Nat} {H' : Hp} {n' : Nat} (h : Keep H n H' n') : Only p H n H' n' := ⟨h.1, fun b hb _ => h.2 b hb⟩

theorem Rd.put {p a a' : Nat} (h : Rd H p sv bs a) (ha : a' ≤ 8 * bs.length) : Rd (H.put p (.cells [.int .i64 a', sv] 159 .own)) p sv bs a' := by
  obtain ⟨h1, h2, h3⟩ := h.sh
  exact ⟨⟨by simp, h2.keep fun x l c e => T.get_put_ne _ _ (h3 x l c e), h3⟩, ha, h.small⟩
theorem Rd.kept {H' : Hp} {n' p a : Nat} (h : Rd H p sv bs a) (hf : Fresh H n) (hk : Keep H n H' n') : Rd H' p sv bs a := by
  obtain ⟨h1, h2, h3⟩ := h.sh
  exact ⟨⟨by rw [hk.get (hf.lt h1)]; exact h1, h2.kept hf hk, h3⟩, h.le, h.small⟩

theorem left_eq {p a : Nat} (h : Rd H p sv bs a) (hf : Fresh H n) (K) : WCall TE 93 [.pointer (some ⟨p, 0, none⟩)] H n K ↔ K (.int .i64 (8 * bs.length - a : Nat)) H n := by
  obtain ⟨h1, h2, h3⟩ := h.sh
  refine WCall.pure (WCall_intro rfl fn93 rfl rfl ?_) K
  simp [Tryz.f93]
  refine Wp_drawn [0, 1, 2, 3, 4, 5, 6, 7, 8, 9, 10, 11, 12] [] (by kernel_rfl) hf ?_
  have e1 : wr .i64 ((bs.length : Int) * 8) = 8 * bs.length := by rw [wr_i64 (by have := h.small; omega) (by have := h.small; omega)]; omega
  have e2 : wr .i64 (8 * (bs.length : Int) - a) = (8 * bs.length - a : Nat) := by have := h.small; have := h.le; rw [wr_i64 (by omega) (by omega)]; omega
  simp [ldS, h1, h2.ln, e1, e2, h2.veq]

theorem Fresh.putn {X Y : Blk} {b : Nat} (h : Fresh H n) (hb : H.get b = some X) : Fresh (H.put b Y) n := h.old hb
theorem and_mask (a : Nat) (k : Nat) (ha : (a : Int) ≤ 9223372036854775807) (hk : k ≤ 62) : bitI .and .i64 (a : Int) ((2 : Int) ^ k - 1) = (a % 2 ^ k : Nat) := by
  have h1 : (1 : Nat) ≤ 2 ^ k := Nat.one_le_two_pow
  have h2 : (2 : Nat) ^ k ≤ 2 ^ 62 := Nat.pow_le_pow_right (by decide) hk
  have e : ((2 : Int) ^ k - 1) = ((2 ^ k - 1 : Nat) : Int) := by
    have : ((2 ^ k : Nat) : Int) = (2 : Int) ^ k := by simp
    omega
  rw [e, bitI_and (by omega) (by rw [maxN_i64]; omega) (by omega) (by rw [maxN_i64]; omega)]
  simp only [Int.toNat_natCast]
  rw [Nat.and_two_pow_sub_one_eq_mod]
theorem or_add (v c k : Nat) (hc : c < 2 ^ k) (hb : v * 2 ^ k + c ≤ 9223372036854775807) : bitI .or .i64 ((v * 2 ^ k : Nat) : Int) (c : Int) = (v * 2 ^ k + c : Nat) := by
  have := Nat.le_add_right (v * 2 ^ k) c
  have := Nat.le_add_left c (v * 2 ^ k)
  rw [bitI_or (by omega) (by rw [maxN_i64]; omega) (by omega) (by rw [maxN_i64]; omega)]
  simp only [Int.toNat_natCast]
  rw [← Nat.shiftLeft_eq, ← Nat.shiftLeft_add_eq_or_of_lt hc]

theorem take_spec {p a : Nat} (h : Rd H p sv bs a) (hf : Fresh H n) {k : Nat} (hk : k ≤ 48) (hend : a + k ≤ 8 * bs.length) :
    WCall TE 57 [.pointer (some ⟨p, 0, none⟩), .int .i64 k] H n (fun v H' n' => v = .tuple #[.int .i64 (bitsV bs a k), .int .i64 0] ∧ Rd H' p sv bs (a + k) ∧ (∀ b, b ≠ p → H'.get b = H.get b) ∧ n' = n) := by
  have h0 := h
  obtain ⟨h1, h2, h3⟩ := h.sh
  have hsm := h.small
  refine WCall_intro rfl fn57 rfl rfl ?_
  have e1 : ¬ ((k : Int) < 0) := by omega
  have e2 : ¬ ((48 : Int) < k) := by omega
  have e3 : ¬ (((8 * bs.length - a : Nat) : Int) < k) := by omega
  simp [Tryz.f57, e1, e2, e3, left_eq h hf]
  refine Wp_loop (fun j fr H' n' => ∃ (m : Nat), j = k - m ∧ m ≤ k ∧ fr.get 0 = some (.pointer (some ⟨p, 0, none⟩)) ∧ fr.get 1 = some (.int .i64 (k - m : Nat)) ∧ fr.get 6 = some (.int .i64 (bitsV bs a m)) ∧ H'.get p = some (.cells [.int .i64 (a + m : Nat), sv] 159 .own) ∧ (∀ b, b ≠ p → H'.get b = H.get b) ∧ n' = n) ?_ (k := k) ?_
  · rintro j fr H' n' ⟨m, rfl, hm, g0, g1, g6, gp, gb, rfl⟩
    by_cases hlt : m < k
    · have hB : By H' sv bs := h2.keep fun x l c e => gb _ (h3 x l c e)
      have hV := bitsV_lt bs a m
      have hV2 := bitsV_lt bs a k
      have hp48 : (2 : Nat) ^ k ≤ 2 ^ 48 := Nat.pow_le_pow_right (by decide) hk
      have hfH : Fresh H' n' := fun b hb => by
        rw [gb b (fun e => by subst e; rw [hf b hb] at h1; cases h1)]; exact hf b hb
      obtain ⟨q, hq⟩ : ∃ q : Nat, q = a + m := ⟨_, rfl⟩
      obtain ⟨r0, hr0⟩ : ∃ r : Nat, r = k - m := ⟨_, rfl⟩
      obtain ⟨o, ho⟩ : ∃ o : Nat, o = q % 8 := ⟨_, rfl⟩
      obtain ⟨d, hd⟩ : ∃ d : Nat, d = q / 8 := ⟨_, rfl⟩
      obtain ⟨w8, hw8⟩ : ∃ w : Nat, w = 8 - o := ⟨_, rfl⟩
      obtain ⟨kk, hkk⟩ : ∃ w : Nat, w = min r0 w8 := ⟨_, rfl⟩
      obtain ⟨rest, hrest⟩ : ∃ w : Nat, w = w8 - kk := ⟨_, rfl⟩
      obtain ⟨q2, hq2⟩ : ∃ w : Nat, w = q + kk := ⟨_, rfl⟩
      obtain ⟨r2, hr2⟩ : ∃ w : Nat, w = r0 - kk := ⟨_, rfl⟩
      obtain ⟨V, hVV⟩ : ∃ w : Nat, w = bitsV bs a m := ⟨_, rfl⟩
      obtain ⟨V2, hVV2⟩ : ∃ w : Nat, w = V * 2 ^ kk := ⟨_, rfl⟩
      rw [← hq] at gp
      rw [← hr0] at g1
      rw [← hVV] at g6
      have hdlt : d < bs.length := by omega
      obtain ⟨x, hx⟩ : ∃ w : Nat, w = (bs[d]).toNat := ⟨_, rfl⟩
      have hxlt : x < 256 := by rw [hx]; exact bs[d].toNat_lt
      obtain ⟨X, hX⟩ : ∃ w : Nat, w = x / 2 ^ rest := ⟨_, rfl⟩
      have hXlt : X < 256 := by rw [hX]; exact Nat.lt_of_le_of_lt (Nat.div_le_self _ _) hxlt
      obtain ⟨C, hC⟩ : ∃ w : Nat, w = X % 2 ^ kk := ⟨_, rfl⟩
      obtain ⟨W, hW⟩ : ∃ w : Nat, w = V2 + C := ⟨_, rfl⟩
      have hpk : (2 : Nat) ^ kk ≤ 2 ^ 8 := Nat.pow_le_pow_right (by decide) (by omega)
      have hCk : C < 2 ^ kk := by rw [hC]; exact Nat.mod_lt _ (Nat.two_pow_pos _)
      have hWval : W = bitsV bs a (m + kk) := by
        rw [bitsV_chunk bs a m kk (by omega), hW, hVV2, hVV, hC, hX, hx]
        congr 3
        · rw [← hq, ← hd]
          simp [List.getD_eq_getElem?_getD, List.getElem?_eq_getElem hdlt]
        · rw [← hq, ← ho, hrest, hw8]
      have hWlt : W < 2 ^ 48 := by
        rw [hWval]
        exact Nat.lt_of_lt_of_le (bitsV_lt bs a (m + kk)) (Nat.pow_le_pow_right (by decide) (by omega))
      have t1 : (q : Int).tmod 8 = o := by rw [Int.tmod_eq_emod_of_nonneg (by omega)]; omega
      have t2 : (q : Int).tdiv 8 = d := by rw [Int.tdiv_eq_ediv_of_nonneg (by omega)]; omega
      have t3 : wr .i64 (d : Int) = d := wr_i64 (by omega) (by omega)
      have f1 : wr .i64 (8 - (o : Int)) = w8 := by rw [wr_i64 (by omega) (by omega)]; omega
      have f2 : (if w8 < r0 then (w8 : Int) else (r0 : Int)) = kk := by split <;> omega
      have f3 : wr .i64 ((w8 : Int) - kk) = rest := by rw [wr_i64 (by omega) (by omega)]; omega
      have c1 : (kk : Int) ≤ 63 := by omega
      have c2 : (kk : Int) ≤ 64 := by omega
      have c3 : kk ≤ 63 := by omega
      have c4 : kk ≤ 64 := by omega
      have c5 : (rest : Int) ≤ 64 := by omega
      have c6 : rest ≤ 64 := by omega
      have f4 : wr .i64 ((V : Int) * 2 ^ kk) = V2 := by
        have : (V : Int) * 2 ^ kk = V2 := by rw [hVV2]; simp
        rw [this, wr_i64 (by omega) (by omega)]
      have f5 : (x : Int) / 2 ^ rest = X := by rw [hX]; simp
      have f6 : wr .i64 ((2 : Int) ^ kk) = 2 ^ kk := by
        have : ((2 : Int) ^ kk) = ((2 ^ kk : Nat) : Int) := by simp
        rw [this, wr_i64 (by omega) (by omega)]
      have f7 : wr .i64 ((2 : Int) ^ kk - 1) = 2 ^ kk - 1 := by
        have : ((2 : Int) ^ kk) = ((2 ^ kk : Nat) : Int) := by simp
        have h2 : 1 ≤ 2 ^ kk := Nat.one_le_two_pow
        rw [this, wr_i64 (by omega) (by omega)]
      have f8 : bitI .and .i64 (X : Int) (2 ^ kk - 1) = C := by rw [and_mask X kk (by omega) (by omega), hC]
      have f9 : bitI .or .i64 (V2 : Int) (C : Int) = W := by rw [hVV2, or_add V C kk hCk (by omega), hW, hVV2]
      have f10 : wr .i64 ((q : Int) + kk) = q2 := by rw [wr_i64 (by omega) (by omega)]; omega
      have f11 : wr .i64 ((r0 : Int) - kk) = r2 := by rw [wr_i64 (by omega) (by omega)]; omega
      have hix := hB.ix hdlt
      have hld := hB.ld hdlt
      rw [← hx] at hld
      have hpos : 0 < r0 := by omega
      simp [g0, g1, g6, ldS, gp, hpos, t1, f1, f2, f3]
      refine Wp_drawn [0, 1, 2, 3, 4, 5, 6, 7, 8, 9, 10, 11, 12, 13, 14, 15, 16, 17, 18, 19, 20, 21, 22, 23] [] (by kernel_rfl) hfH ?_
      have wx : wr .i64 (x : Int) = x := wr_i64 (by omega) (by omega)
      simp [g0, g1, g6, ldS_at gp, t1, t2, t3, f1, f2, f3, f4, f5, f6, f7, f8, f9, f10, f11, c1, c2, c3, c4, c5, c6, hix, hld, hB.veq, wx, writeC, gp]
      refine ⟨k - (m + kk), by omega, m + kk, rfl, by omega, by omega, by rw [hWval], by omega, fun b hb => ?_⟩
      rw [if_neg hb, gb b hb]
    · have hmk : m = k := by omega
      subst hmk
      simp [g0, g1, g6, gp]
      exact ⟨⟨⟨gp, h2.keep fun x l c e => gb _ (h3 x l c e), h3⟩, hend, hsm⟩, gb⟩
  · exact ⟨0, by simp, by omega, by simp, by simp, by simp [bitsV], by simpa using h1, fun _ _ => rfl, rfl⟩

theorem take_bad {p a : Nat} (h : Rd H p sv bs a) (hf : Fresh H n) {k : Int} (hk : k < 0 ∨ 48 < k ∨ (8 * bs.length - a : Nat) < k) (K) :
    WCall TE 57 [.pointer (some ⟨p, 0, none⟩), .int .i64 k] H n K ↔ K (.tuple #[.int .i64 0, .int .i64 (if k < 0 ∨ 48 < k then 1 else 11)]) H n := by
  refine WCall.pure (WCall_intro rfl fn57 rfl rfl ?_) K
  by_cases e1 : k < 0
  · simp [Tryz.f57, e1]
  · by_cases e2 : 48 < k
    · simp [Tryz.f57, e1, e2]
    · have e3 : (((8 * bs.length - a : Nat) : Int) < k) := by omega
      simp [Tryz.f57, e1, e2, e3, left_eq h hf]

theorem seek_spec {p a : Nat} (h : Rd H p sv bs a) {x : Nat} (hx : x ≤ 8 * bs.length) :
    WCall TE 52 [.pointer (some ⟨p, 0, none⟩), .int .i64 x] H n (fun v H' n' => v = .int .i64 0 ∧ Rd H' p sv bs x ∧ (∀ b, b ≠ p → H'.get b = H.get b) ∧ n' = n) := by
  have h3 := h.put hx
  obtain ⟨h1, h2, _⟩ := h.sh
  have hsm := h.small
  refine WCall_intro rfl fn52 rfl rfl ?_
  have e1 : ¬ ((x : Int) < 0) := by omega
  have e2 : wr .i64 ((bs.length : Int) * 8) = 8 * bs.length := by rw [wr_i64 (by omega) (by omega)]; omega
  have e3 : ¬ ((8 * bs.length : Int) < x) := by omega
  simp [Tryz.f52, e1, ldS_at h1, h2.ln, e2, e3, writeC, h1]
  exact ⟨h3, fun b hb e => absurd e hb⟩

theorem at_eq {p a : Nat} (h : Rd H p sv bs a) (K) : WCall TE 56 [.pointer (some ⟨p, 0, none⟩)] H n K ↔ K (.int .i64 a) H n := by
  obtain ⟨h1, h2, h3⟩ := h.sh
  refine WCall.pure (WCall_intro rfl fn56 rfl rfl ?_) K
  simp [Tryz.f56, ldS_at h1]
end Go.Ab

/- The program's functions: package header: a reader of its own. -/
namespace Go.Ab
open Go.Proofs
set_option linter.unusedSimpArgs false
variable {H : Hp} {s sv : Value} {bs : List UInt8} {n : Nat}

@[simp] theorem wrong77_eq (is : Bool) (x : Int) (K) : WCall TE 77 [.bool is, .int .i64 x] H n K ↔ K (.int .i64 (if is = true then x else 0)) H n := by
  refine WCall.pure (WCall_intro rfl fn77 rfl rfl ?_) K
  cases is <;> simp [Tryz.f77]
@[simp] theorem most_eq (v : Bool) (K) : WCall TE 78 [.bool v] H n K ↔ K (.int .i64 (if v = true then 68719476736 else 2147483648)) H n := by
  refine WCall.pure (WCall_intro rfl fn78 rfl rfl ?_) K
  cases v <;> simp [Tryz.f78]
theorem bs_two (a b : Int) (H : Hp) (n : Nat) : hBuildSlice TE H n 194 2 (some [(0, .int .i64 a), (1, .int .i64 b)]) = some (.slice (some ⟨n, 0, none⟩) 2 2, H.put n (.cells [.int .i64 a, .int .i64 b] 52 .own), n + 1) := by kernel_rfl
theorem first2_eq {b : Nat} {x y : Int} (h : H.get b = some (.cells [.int .i64 x, .int .i64 y] 52 .own)) (K) : WCall TE 76 [.slice (some ⟨b, 0, none⟩) 2 2] H n K ↔ K (.int .i64 (if x ≠ 0 then x else y)) H n := by
  refine WCall.pure (WCall_intro rfl fn76 rfl rfl ?_) K
  have w1 : wr .i64 (0 + 1) = 1 := by decide
  have w2 : wr .i64 (1 + 1) = 2 := by decide
  have w3 : wr .i64 1 = 1 := by decide
  simp [Tryz.f76]
  rw [wp_loop]
  by_cases hx : x = 0
  · simp [lIndexA_some, ldS_at h, hx, w1, w3]
    rw [wp_loop]
    by_cases hy : y = 0
    · simp [lIndexA_some, ldS_at h, hx, hy, w2]
      rw [wp_loop]
      simp
    · simp [lIndexA_some, ldS_at h, hx, hy, w2]
  · simp [lIndexA_some, ldS_at h, hx, w1]

/-- The header's reader at q, over a reader at p. -/
structure HR (H : Hp) (q p : Nat) (sv : Value) (bs : List UInt8) (a : Nat) (e : Int) : Prop where
  cell : H.get q = some (.cells [.pointer (some ⟨p, 0, none⟩), .int .i64 e] 137 .own)
  rd : Rd H p sv bs a
  ne : q ≠ p
  sep : ∀ x l c, sv = .slice (some x) l c → x.block ≠ q

theorem HR.move {H' : Hp} {q p a a' : Nat} {e : Int} (h : HR H q p sv bs a e) (hr : Rd H' p sv bs a') (hb : ∀ b, b ≠ p → H'.get b = H.get b) : HR H' q p sv bs a' e :=
  ⟨by rw [hb q h.ne]; exact h.cell, hr, h.ne, h.sep⟩
theorem HR.mark {q p a : Nat} {e e' : Int} (h : HR H q p sv bs a e) : HR (H.put q (.cells [.pointer (some ⟨p, 0, none⟩), .int .i64 e'] 137 .own)) q p sv bs a e' := by
  obtain ⟨g1, g2, g3⟩ := h.rd.sh
  exact ⟨by simp, ⟨⟨by rw [T.get_put_ne _ _ h.ne.symm]; exact g1, g2.keep fun x l c e => T.get_put_ne _ _ (h.sep x l c e), g3⟩, h.rd.le, h.rd.small⟩, h.ne, h.sep⟩
theorem HR.kept {H' : Hp} {n' q p a : Nat} {e : Int} (h : HR H q p sv bs a e) (hf : Fresh H n) (hk : Keep H n H' n') : HR H' q p sv bs a e :=
  ⟨by rw [hk.get (hf.lt h.cell)]; exact h.cell, h.rd.kept hf hk, h.ne, h.sep⟩

theorem take79_bad {q p a : Nat} {e : Int} (h : HR H q p sv bs a e) (he : e ≠ 0) (k : Int) (K) : WCall TE 79 [.pointer (some ⟨q, 0, none⟩), .int .i64 k] H n K ↔ K (.int .i64 0) H n := by
  refine WCall.pure (WCall_intro rfl fn79 rfl rfl ?_) K
  simp [Tryz.f79, ldS_at h.cell, he]

theorem wrong80_spec {q p a : Nat} {e : Int} (h : HR H q p sv bs a e) (hf : Fresh H n) (is : Bool) (x : Int) :
    WCall TE 80 [.pointer (some ⟨q, 0, none⟩), .bool is, .int .i64 x] H n (fun v H' n' => HR H' q p sv bs a (if e ≠ 0 then e else if is = true then x else 0) ∧ n ≤ n' ∧ ∀ b, b < n → b ≠ q → H'.get b = H.get b) := by
  refine WCall_intro rfl fn80 rfl rfl ?_
  simp [Tryz.f80]
  refine Wp_drawn [0, 1, 2, 3, 4, 5, 6, 7, 8, 9, 10, 11, 12] [(4, 4, 9)] (by kernel_rfl) hf ?_
  have k1 : ∀ X, Keep H n (H.put n X) (n + 1) := fun X => .new X
  have hq : q < n := hf.lt h.cell
  have hne : ¬ q = n := Nat.ne_of_lt hq
  have f2 := fun (u w : Int) K => first2_eq (H := H.put n (.cells [.int .i64 u, .int .i64 w] 52 .own)) (n := n + 1) (b := n) (x := u) (y := w) (T.get_put_same _ _ _) K
  have c2 : ∀ X, (H.put n X).get q = some (.cells [.pointer (some ⟨p, 0, none⟩), .int .i64 e] 137 .own) := fun X => by rw [T.get_put_ne _ _ hne]; exact h.cell
  have m1 := fun (X : Blk) (e' : Int) => ((h.kept hf (k1 X)).mark (e' := e'))
  simp [ldS_at h.cell, ldS_at (c2 _), bs_two, f2, writeC, c2, hne]
  refine ⟨by simpa using m1 _ _, fun b hb hbq => ?_⟩
  rw [if_neg (by omega : ¬ b = n), if_neg hbq]

theorem take79_spec {q p a : Nat} (h : HR H q p sv bs a 0) (hf : Fresh H n) {k : Nat} (hk : k ≤ 48) (hend : a + k ≤ 8 * bs.length) :
    WCall TE 79 [.pointer (some ⟨q, 0, none⟩), .int .i64 k] H n (fun v H' n' => v = .int .i64 (bitsV bs a k) ∧ HR H' q p sv bs (a + k) 0 ∧ n' = n ∧ ∀ b, b ≠ p → b ≠ q → H'.get b = H.get b) := by
  refine WCall_intro rfl fn79 rfl rfl ?_
  simp [Tryz.f79, ldS_at h.cell]
  refine (take_spec h.rd hf hk hend).mono ?_
  rintro v G n1 ⟨rfl, hr, hb, rfl⟩
  have hm := h.move hr hb
  simp [writeC, hm.cell]
  refine ⟨hm.mark, fun b h1 h2 => ?_⟩
  rw [if_neg h2, hb b h1]
end Go.Ab
