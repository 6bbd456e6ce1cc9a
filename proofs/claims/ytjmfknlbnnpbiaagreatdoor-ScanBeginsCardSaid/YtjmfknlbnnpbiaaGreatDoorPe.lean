/- Contracts of functions: Bytes, Begins, scan.Blocks, Whole; equality of structs; the law ScanBegins over the evaluator. -/
import Derived.Test.YtjmfknlbnnpbiaaGreatDoorPc

set_option linter.all false

/- The program's functions: jetsamlaw11.Bytes, jetsamref16.Begins. -/
namespace Go.Ab
open Go.Proofs
set_option linter.unusedSimpArgs false
variable {H H0 : Hp} {s t : Value} {bs cs : List UInt8} {n n0 : Nat}

@[simp] theorem neStr (a b : ByteArray) (x y : Operand) : lBin TE .neq 9 x y (some (.string a)) (some (.string b)) = some (.bool !(a.toList == b.toList)) := by kernel_rfl

theorem u8_ne {a b : UInt8} : (decide ((a.toNat : Int) = b.toNat)) = (a == b) := by
  by_cases h : a = b
  · subst h; simp
  · have : ¬ ((a.toNat : Int) = b.toNat) := fun e => h (UInt8.toNat_inj.1 (by omega))
    simp [h, this]

set_option maxHeartbeats 2000000 in
theorem bytes26_eq (h : By H s bs) (h' : By H t cs) (hl : bs.length < 1000000000) (hf : Fresh H n) (K) : WCall TE 26 [s, t] H n K ↔ K (.bool (decide (bs = cs))) H n := by
  refine WCall.pure ?_ K
  refine WCall_intro rfl fn26 rfl rfl ?_
  by_cases hlen : (bs.length : Int) = cs.length
  · simp [Tryz.f26, h.ln, h'.ln, hlen]
    have hlen' : bs.length = cs.length := by omega
    refine Wp_loop (fun k fr H' n' => ∃ (i : Nat), k = bs.length - i ∧ i ≤ bs.length ∧ fr.get 0 = some s ∧ fr.get 1 = some t ∧ fr.get 5 = some (.int .i64 i) ∧ bs.take i = cs.take i ∧ H' = H ∧ n' = n) ?_ (k := bs.length) ?_
    · rintro k fr H' n' ⟨i, rfl, hi, g0, g1, g5, hp, rfl, rfl⟩
      by_cases hlt : i < bs.length
      · have hlt' : i < cs.length := by omega
        have e : (i : Int) < cs.length := by omega
        have e2 : wr .i64 ((i : Int) + 1) = (i + 1 : Nat) := by rw [wr_i64 (by omega) (by omega)]; omega
        simp [g0, g1, g5, h.ln, hlen, e]
        refine Wp_drawn [0, 1, 2, 3, 4, 5, 6, 7, 8] [] (by kernel_rfl) hf ?_
        by_cases hx : bs[i] = cs[i]
        · have hx2 : ((bs[i].toNat : Int) = cs[i].toNat) := by rw [hx]
          simp [g0, g1, g5, h.ix hlt, h.ld hlt, h'.ix hlt', h'.ld hlt', hx, e2]
          refine ⟨cs.length - (i + 1), by omega, i + 1, by omega, by omega, by omega, ?_⟩
          rw [List.take_succ_eq_append_getElem hlt, List.take_succ_eq_append_getElem hlt', hp, hx]
        · have hx2 : ¬ ((bs[i].toNat : Int) = cs[i].toNat) := fun e => hx (UInt8.toNat_inj.1 (by omega))
          have hx3 : ¬ (bs[i].toNat = cs[i].toNat) := by omega
          have hne : ¬ bs = cs := fun e => hx (by subst e; rfl)
          simp [g0, g1, g5, h.ix hlt, h.ld hlt, h'.ix hlt', h'.ld hlt', hx2, hx3, hne, e2]
      · have e : ¬ (i : Int) < cs.length := by omega
        have hii : i = bs.length := by omega
        subst hii
        have heq : bs = cs := by
          rw [List.take_length, hlen', List.take_length] at hp
          exact hp
        simp [g0, g1, g5, h.ln, hlen, e, heq]
    · exact ⟨0, by simp [hlen']⟩
  · have hne : ¬ bs = cs := fun e => hlen (by rw [e])
    have hlen2 : ¬ bs.length = cs.length := by omega
    simp [Tryz.f26, h.ln, h'.ln, hlen, hlen2, hne]

set_option maxHeartbeats 2000000 in
theorem begins_eq (h : By H s bs) (hl : bs.length < 1000000000) (K) : WCall TE 22 [s] H n K ↔ K (.bool (decide (hasInfo bs))) H n := by
  refine WCall.pure ?_ K
  refine WCall_intro rfl fn22 rfl rfl ?_
  by_cases h42 : (bs.length : Int) < 42
  · have : ¬ hasInfo bs := fun hh => by have := hh.2.1; omega
    simp [Tryz.f22, h.ln, h42, this]
  · obtain ⟨s', hs1, hs2⟩ := h.part (lo := none) (hi := some (.int .i64 (4 : Nat))) (l := 0) (u := 4) (.inr ⟨rfl, rfl⟩) (.inl rfl) (by omega) (by omega)
    simp only [List.drop_zero, Nat.sub_zero] at hs2
    have hs1 : lSlice TE H 22 (some s) (some none) (some (some (.int .i64 4))) = some s' := hs1
    have c4 : lIndexA TE 22 (some s) (some (.int .i64 4)) = some (.pointer (some (adr s 4))) := h.ixI (i := 4) (by omega) (by omega)
    have c5 : lIndexA TE 22 (some s) (some (.int .i64 5)) = some (.pointer (some (adr s 5))) := h.ixI (i := 5) (by omega) (by omega)
    have c6 : lIndexA TE 22 (some s) (some (.int .i64 6)) = some (.pointer (some (adr s 6))) := h.ixI (i := 6) (by omega) (by omega)
    have c7 : lIndexA TE 22 (some s) (some (.int .i64 7)) = some (.pointer (some (adr s 7))) := h.ixI (i := 7) (by omega) (by omega)
    have l4 := h.ld (i := 4) (by omega)
    have l5 := h.ld (i := 5) (by omega)
    have l6 := h.ld (i := 6) (by omega)
    have l7 := h.ld (i := 7) (by omega)
    have e4 : bs.getD 4 0 = bs[4] := by simp [List.getD_eq_getElem?_getD, List.getElem?_eq_getElem (show 4 < bs.length by omega)]
    have e5 : (bs.drop 5).take 3 = [bs[5], bs[6], bs[7]] := by
      rw [List.drop_eq_getElem_cons (show 5 < bs.length by omega), List.drop_eq_getElem_cons (show 6 < bs.length by omega), List.drop_eq_getElem_cons (show 7 < bs.length by omega)]
      rfl
    have hh : hasInfo bs ↔ (bs.take 4 = marker ∧ (bs[4].toNat = 0 ∨ (bs[4].toNat : Int) = 128) ∧ bs[5].toNat = 0 ∧ bs[6].toNat = 0 ∧ (bs[7].toNat : Int) = 34) := by
      have hb := bs[4].toNat_lt
      unfold hasInfo
      rw [e4, e5]
      constructor
      · rintro ⟨h1, _, h3, h4⟩
        injection h4 with h5 h6
        injection h6 with h6 h7
        injection h7 with h7 h8
        exact ⟨h1, by omega, by rw [h5]; rfl, by rw [h6]; rfl, by rw [h7]; rfl⟩
      · rintro ⟨h1, h3, h5, h6, h7⟩
        exact ⟨h1, by omega, by omega, by rw [UInt8.toNat_inj.1 (show bs[5].toNat = (0 : UInt8).toNat from h5), UInt8.toNat_inj.1 (show bs[6].toNat = (0 : UInt8).toNat from h6), UInt8.toNat_inj.1 (show bs[7].toNat = (34 : UInt8).toNat from by show bs[7].toNat = 34; omega)]⟩
    by_cases hm : bs.take 4 = marker
    · have hm2 : bs.take 4 = [102, 76, 97, 67] := hm
      by_cases h0 : bs[4].toNat = 0 <;> by_cases h1 : (bs[4].toNat : Int) = 128 <;> by_cases h5 : bs[5].toNat = 0 <;> by_cases h6 : bs[6].toNat = 0 <;> by_cases h7 : (bs[7].toNat : Int) = 34 <;>
        simp [Tryz.f22, h.ln, h42, lSlice3, hs1, hs2.str, hh, hm, marker, c4, c5, c6, c7, l4, l5, l6, l7, h0, h1, h5, h6, h7]
    · have hm2 : ¬ bs.take 4 = [102, 76, 97, 67] := hm
      have hm3 : (bs.take 4 == [102, 76, 97, 67]) = false := beq_eq_false_iff_ne.2 hm2
      simp [Tryz.f22, h.ln, h42, lSlice3, hs1, hs2.str, hh, hm, hm2, hm3]
end Go.Ab

/- The program's functions: scan.Blocks, jetsamref16.Whole. -/
namespace Go.Ab
open Go.Proofs
set_option linter.unusedSimpArgs false
variable {H H0 : Hp} {s t : Value} {bs cs : List UInt8} {n n0 : Nat}

/-- A byte, as a number; the number in the three bytes behind it. -/
def bAt (bs : List UInt8) (p : Nat) : Nat := (bs.getD p 0).toNat
def lenAt (bs : List UInt8) (p : Nat) : Nat := bAt bs (p + 1) * 65536 + bAt bs (p + 2) * 256 + bAt bs (p + 3)
/-- The blocks from a place on: types, beginnings, ends; and where they end. -/
def wk (bs : List UInt8) : Nat → Nat → List (Nat × Nat × Nat) × Nat
  | 0, p => ([], p)
  | f + 1, p =>
    if bs.length < p + 4 then ([], p)
    else if bs.length < p + 4 + lenAt bs p ∨ bAt bs p % 128 = 127 then ([], p)
    else if 127 < bAt bs p then ([(bAt bs p % 128, p + 4, p + 4 + lenAt bs p)], p + 4 + lenAt bs p)
    else ((bAt bs p % 128, p + 4, p + 4 + lenAt bs p) :: (wk bs f (p + 4 + lenAt bs p)).1, (wk bs f (p + 4 + lenAt bs p)).2)
def walk (bs : List UInt8) : List (Nat × Nat × Nat) × Nat := if bs.take 4 = marker then wk bs bs.length 4 else ([], 0)

theorem bAt_lt (bs : List UInt8) (p : Nat) : bAt bs p < 256 := UInt8.toNat_lt _
theorem lenAt_lt (bs : List UInt8) (p : Nat) : lenAt bs p < 16777216 := by
  have h1 := bAt_lt bs (p + 1)
  have h2 := bAt_lt bs (p + 2)
  have h3 := bAt_lt bs (p + 3)
  unfold lenAt
  omega
theorem By.ldP (h : By H s bs) {p : Nat} (hp : p < bs.length) : ldS H (adr s p) = some (.int .u8 (bAt bs p)) := by
  rw [h.ld hp, bAt, List.getD_eq_getElem?_getD, List.getElem?_eq_getElem hp]
  rfl
theorem wk_ok (bs : List UInt8) : ∀ (f p : Nat) (e : Nat × Nat × Nat), e ∈ (wk bs f p).1 → e.2.1 ≤ e.2.2 ∧ e.2.2 ≤ bs.length := by
  intro f
  induction f with
  | zero => intro p e he; cases he
  | succ f ih =>
    intro p e he
    unfold wk at he
    split at he
    · cases he
    split at he
    · cases he
    rename_i h1 h2
    split at he
    · rw [List.mem_singleton] at he
      subst he
      simp only
      omega
    · rcases List.mem_cons.1 he with he | he
      · subst he; simp only; omega
      · exact ih _ _ he

theorem or16 (a c : Nat) (ha : a < 65536) (hc : c < 65536) : bitI .or .i64 ((a : Int) * 65536) (c : Int) = ((a * 65536 + c : Nat) : Int) := by
  have h := or_add a c 16 (by have : (2 : Nat) ^ 16 = 65536 := by decide
                              omega) (by have : (2 : Nat) ^ 16 = 65536 := by decide
                                         rw [this]; omega)
  have e : (2 : Nat) ^ 16 = 65536 := by decide
  rw [e, Int.natCast_mul] at h
  exact h
theorem or8 (a c : Nat) (ha : a < 16777216) (hc : c < 256) : bitI .or .i64 ((a * 256 : Nat) : Int) (c : Int) = ((a * 256 + c : Nat) : Int) := by
  have h := or_add a c 8 (by have : (2 : Nat) ^ 8 = 256 := by decide
                             omega) (by have : (2 : Nat) ^ 8 = 256 := by decide
                                        rw [this]; omega)
  have e : (2 : Nat) ^ 8 = 256 := by decide
  rw [e] at h
  exact h
theorem or3 (bs : List UInt8) (p : Nat) : bitI .or .i64 (bitI .or .i64 ((bAt bs (p + 1) : Int) * 65536) ((bAt bs (p + 2) : Int) * 256)) (bAt bs (p + 3)) = lenAt bs p := by
  have h1 := bAt_lt bs (p + 1)
  have h2 := bAt_lt bs (p + 2)
  have h3 := bAt_lt bs (p + 3)
  unfold lenAt
  generalize bAt bs (p + 1) = x at *
  generalize bAt bs (p + 2) = y at *
  generalize bAt bs (p + 3) = z at *
  have e1 : bitI .or .i64 ((x : Int) * 65536) ((y : Int) * 256) = (((x * 256 + y) * 256 : Nat) : Int) := by
    have := or16 x (y * 256) (by omega) (by omega)
    rw [show ((y : Int) * 256) = ((y * 256 : Nat) : Int) by simp, this, show x * 65536 + y * 256 = (x * 256 + y) * 256 by omega]
  rw [e1, or8 _ _ (by omega) h3, show (x * 256 + y) * 256 + z = x * 65536 + y * 256 + z by omega]

/-- The cells of blocks: types and data. -/
def blkC (es : List ((Nat × Nat × Nat) × Value)) : List Value := es.flatMap fun e => [.int .i64 e.1.1, e.2]
theorem blkC_len (es : List ((Nat × Nat × Nat) × Value)) : (blkC es).length = es.length * 2 := by
  induction es with
  | nil => rfl
  | cons e es ih => simp [blkC] at ih ⊢; omega
/-- Data that lie. -/
def Dat (H : Hp) (bs : List UInt8) (es : List ((Nat × Nat × Nat) × Value)) : Prop := ∀ e ∈ es, By H e.2 ((bs.drop e.1.2.1).take (e.1.2.2 - e.1.2.1))

/-- A slice of bytes is not in a list of other things. -/
theorem By.apart (h : By H t cs) {e esz m : Nat} {cv : Value} {l : List Value} (ha : Acc H n e esz cv m l) (he : e ≠ 5) {a : Addr} {x y : Nat} (hs : t = .slice (some a) x y) : ∀ l' c', cv ≠ .slice (some ⟨a.block, 0, none⟩) l' c' := by
  intro l' c' hc
  obtain ⟨base, cap, h1, h2, h3, h4⟩ := h.sh
  rw [hs] at h1
  cases h1
  obtain ⟨_, c, te, k, g1, g2, _⟩ := h4
  obtain ⟨_, ⟨h5, _⟩ | ⟨b, h5, h6, h7⟩⟩ := ha
  · rw [h5] at hc; cases hc
  · rw [h6] at hc
    cases hc
    rw [h7] at g1
    cases g1
    exact he (g2 rfl)
theorem By.over (h : By H t cs) (hf : Fresh H n) {e esz m : Nat} {cv : Value} {l : List Value} (ha : Acc H n e esz cv m l) (he : e ≠ 5) {H' : Hp} (hk : ∀ b, b < n → (∀ l c, cv ≠ .slice (some ⟨b, 0, none⟩) l c) → H'.get b = H.get b) : By H' t cs := by
  refine h.keep fun a x y hs => hk _ ?_ (h.apart ha he hs)
  obtain ⟨base, cap, h1, h2, h3, h4⟩ := h.sh
  rw [hs] at h1
  cases h1
  obtain ⟨_, c, te, k, g1, _⟩ := h4
  exact hf.lt g1
theorem Dat.kept {es : List ((Nat × Nat × Nat) × Value)} (h : Dat H bs es) (hf : Fresh H n) {H' : Hp} {n' : Nat} (hk : Keep H n H' n') : Dat H' bs es := fun e he => (h e he).kept hf hk
theorem Dat.over {es : List ((Nat × Nat × Nat) × Value)} (h : Dat H bs es) (hf : Fresh H n) {e esz m : Nat} {cv : Value} {l : List Value} (ha : Acc H n e esz cv m l) (he : e ≠ 5) {H' : Hp} (hk : ∀ b, b < n → (∀ l c, cv ≠ .slice (some ⟨b, 0, none⟩) l c) → H'.get b = H.get b) : Dat H' bs es := fun x hx => (h x hx).over hf ha he hk

theorem bs_blk (x : Int) (a : Option Addr) (l c : Nat) (H : Hp) (n : Nat) : hBuildSlice TE H n 61 1 (some [(0, .agg #[.int .i64 x, .slice a l c])]) = some (.slice (some ⟨n, 0, none⟩) 1 1, H.put n (.cells [.int .i64 x, .slice a l c] 69 .own), n + 1) := by kernel_rfl
theorem bv_blk (x : Int) (a : Option Addr) (l c : Nat) : buildV TE 69 [(0, .int .i64 x), (1, .slice a l c)] = some (.agg #[.int .i64 x, .slice a l c]) := by kernel_rfl
theorem sl_own {b e' esz : Nat} {xs : List Value} {te : TypeId} (h : H.get b = some (.cells xs te .own)) (hl : xs.length = 1 * esz) : Sl H e' esz (.slice (some ⟨b, 0, none⟩) 1 1) 1 xs :=
  ⟨_, _, rfl, Nat.le_refl _, hl, rfl, _, te, .own, h, (fun e => by cases e), by simp [hl], by rw [List.drop_zero]; exact List.take_of_length_le (by omega)⟩

/-- One element more, behind a list that grows. -/
theorem push_one {e esz m sz b : Nat} {g : Bool} {z : List Value} {te : TI} {tt : TypeId} (ht : TE.types tt = some ⟨sz, g, z, .slice e, b⟩) (he : TE.types e = some te) (hz : te.size = esz) (hzero : te.zero.length = te.size)
    {cv : Value} {l : List Value} (hf : Fresh H n) (ha : Acc H n e esz cv m l) {xs : List Value} (hxs : xs.length = 1 * esz) (hc : xs.all cell1 = true) (hl : m + 1 ≤ lim) (hl2 : (m + 1) * te.bytes ≤ lim) :
    ∃ c' G' k, hBuiltin TE (H.put n (.cells xs e .own)) (n + 1) .append #[tt, tt] (some [cv, .slice (some ⟨n, 0, none⟩) 1 1]) = some (c', G', k) ∧ Acc G' k e esz c' (m + 1) (l ++ xs) ∧ n + 1 ≤ k ∧ Fresh G' k ∧
      (∀ b, b < n → (∀ l c, cv ≠ .slice (some ⟨b, 0, none⟩) l c) → G'.get b = H.get b) ∧ (∀ n0, n0 ≤ n → own cv n0 → own c' n0) := by
  have hf1 : Fresh (H.put n (.cells xs e .own)) (n + 1) := hf.new
  have k1 : Keep H n (H.put n (.cells xs e .own)) (n + 1) := .new _
  have ha1 : Acc (H.put n (.cells xs e .own)) (n + 1) e esz cv m l := ha.keep (fun b l c hb _ => k1.get hb) (by omega)
  obtain ⟨c', G', k, h1, h2, h3, h4, h5⟩ := append_sl (E := TE) ht he hz hzero ha1 (sl_own (e' := e) (esz := esz) (T.get_put_same H n (.cells xs e .own)) hxs) hc hl hl2
  exact ⟨c', G', k, h1, h2, h3, (hBuiltin_grow h1 hf1).2, fun b hb hne => (h4 b (by omega) hne).trans (k1.get hb), fun n0 h0 ho => h5 n0 (by omega) ho⟩

theorem rem128 (x : Nat) : ((x : Int).tmod 128) = ((x % 128 : Nat) : Int) := by
  rw [Int.tmod_eq_emod_of_nonneg (by omega)]; omega
end Go.Ab

/- The program's functions: scan.Blocks. -/
namespace Go.Ab
open Go.Proofs
set_option linter.unusedSimpArgs false
variable {H H0 : Hp} {s t : Value} {bs cs : List UInt8} {n n0 : Nat}
theorem hasMarker (bs : List UInt8) : (decide (marker.length ≤ bs.length) && bs.take marker.length == marker) = decide (bs.take 4 = marker) := by
  have e : marker.length = 4 := rfl
  rw [e]
  by_cases h : bs.take 4 = marker
  · have h2 : 4 ≤ bs.length := by
      have := congrArg List.length h
      simp [marker] at this
      omega
    simp [h, h2]
  · simp [h]

set_option maxHeartbeats 2000000 in
theorem blocks_spec (h : By H s bs) (hl : bs.length < 1000000) (hf : Fresh H n) :
    WCall TE 24 [s] H n (fun v H' n' => ∃ cv es, v = .tuple #[cv, .int .i64 (walk bs).2] ∧ es.map (·.1) = (walk bs).1 ∧ Sl H' 69 2 cv es.length (blkC es) ∧ Dat H' bs es ∧ Keep H n H' n') := by
  refine WCall_intro rfl fn24 rfl rfl ?_
  simp [Tryz.f24, bs_marker]
  generalize hG : H.put n _ = G
  have k1 : Keep H n G (n + 1) := hG ▸ .new _
  have f1 : Fresh G (n + 1) := hG ▸ hf.new
  have g1 : G.get n = some (.cells (u8s marker) 5 .own) := by rw [← hG]; simp [u8s, marker]
  clear hG
  have h2 : By G s bs := h.kept hf k1
  have hm : By G (.slice (some ⟨n, 0, none⟩) 4 4) marker := by_own g1 rfl
  by_cases h4 : bs.take 4 = marker
  · simp [hConv, elemT, isStr, isSlice, isU8, g1, hasPrefix_eq h2 hm, hasMarker, h4]
    have hlen4 : 4 ≤ bs.length := by
      have := congrArg List.length h4
      simp [marker] at this
      omega
    refine Wp_loop (fun k fr H' n' => ∃ (p : Nat) (cv : Value) (es : List ((Nat × Nat × Nat) × Value)), bs.length ≤ p + k ∧ p ≤ bs.length ∧ fr.get 0 = some s ∧ fr.get 4 = some cv ∧ fr.get 5 = some (.int .i64 p) ∧
      es.map (·.1) ++ (wk bs k p).1 = (walk bs).1 ∧ (wk bs k p).2 = (walk bs).2 ∧ es.length ≤ p ∧ Acc H' n' 69 2 cv es.length (blkC es) ∧ own cv (n + 1) ∧ Dat H' bs es ∧ Keep G (n + 1) H' n' ∧ Fresh H' n') ?_ (k := bs.length) ?_
    · rintro k fr H' n' ⟨p, cv, es, hk, hp, q0, q4, q5, hw1, hw2, hel, ha, ho, hd, kk, ff⟩
      have hB : By H' s bs := h2.kept f1 kk
      have hout : ∀ {cv' : Value} {G' : Hp} {m : Nat} {es' : List ((Nat × Nat × Nat) × Value)}, es'.map (·.1) = (walk bs).1 → Acc G' m 69 2 cv' es'.length (blkC es') → Dat G' bs es' → Keep G (n + 1) G' m →
          ∃ es, es.map (·.1) = (walk bs).1 ∧ Sl G' 69 2 cv' es.length (blkC es) ∧ Dat G' bs es ∧ Keep H n G' m := fun {cv' G' m es'} a b c d => ⟨es', a, b.sl, c, ⟨by have := d.1; omega, fun b hb => by rw [d.get (by omega), k1.get hb]⟩⟩
      have e0 : wr .i64 ((bs.length : Int) - p) = (bs.length : Int) - p := wr_i64 (by omega) (by omega)
      by_cases hend : bs.length < p + 4
      · have e1 : ¬ (4 : Int) ≤ (bs.length : Int) - p := by omega
        have hwk : wk bs k p = ([], p) := by
          cases k with
          | zero => rfl
          | succ k => unfold wk; rw [if_pos hend]
        rw [hwk] at hw1 hw2
        simp only [List.append_nil] at hw1
        simp only at hw2
        simp [q0, q4, q5, hB.ln, e0, e1, ← hw2]
        exact hout hw1 ha hd kk
      · have e1 : (4 : Int) ≤ (bs.length : Int) - p := by omega
        obtain ⟨k, rfl⟩ : ∃ k', k = k' + 1 := ⟨k - 1, by omega⟩
        have i0 := hB.ix (i := p) (by omega)
        have i1 : lIndexA TE 22 (some s) (some (.int .i64 ((p : Int) + 1))) = some (.pointer (some (adr s (p + 1)))) := by
          rw [show ((p : Int) + 1) = ((p + 1 : Nat) : Int) by omega]
          exact hB.ix (by omega)
        have i2 : lIndexA TE 22 (some s) (some (.int .i64 ((p : Int) + 2))) = some (.pointer (some (adr s (p + 2)))) := by
          rw [show ((p : Int) + 2) = ((p + 2 : Nat) : Int) by omega]
          exact hB.ix (by omega)
        have i3 : lIndexA TE 22 (some s) (some (.int .i64 ((p : Int) + 3))) = some (.pointer (some (adr s (p + 3)))) := by
          rw [show ((p : Int) + 3) = ((p + 3 : Nat) : Int) by omega]
          exact hB.ix (by omega)
        have l0 := hB.ldP (p := p) (by omega)
        have l1 := hB.ldP (p := p + 1) (by omega)
        have l2 := hB.ldP (p := p + 2) (by omega)
        have l3 := hB.ldP (p := p + 3) (by omega)
        have a1 : wr .i64 ((p : Int) + 1) = (p : Int) + 1 := wr_i64 (by omega) (by omega)
        have a2 : wr .i64 ((p : Int) + 2) = (p : Int) + 2 := wr_i64 (by omega) (by omega)
        have a3 : wr .i64 ((p : Int) + 3) = (p : Int) + 3 := wr_i64 (by omega) (by omega)
        simp [q0, q4, q5, hB.ln, e0, e1, i0, l0]
        refine Wp_drawn [0, 1, 2, 3, 4, 5, 6, 7, 8, 9, 10, 11, 12, 13, 14, 15, 16, 17, 18, 19, 20, 21, 22] [] (by kernel_rfl) ff ?_
        obtain ⟨L, hL⟩ : ∃ L, L = lenAt bs p := ⟨_, rfl⟩
        obtain ⟨r, hr⟩ : ∃ r, r = bAt bs p % 128 := ⟨_, rfl⟩
        have hLb := lenAt_lt bs p
        rw [← hL] at hLb
        have z0 := bAt_lt bs p
        have z1 := bAt_lt bs (p + 1)
        have z2 := bAt_lt bs (p + 2)
        have z3 := bAt_lt bs (p + 3)
        have b0 : wr .i64 (bAt bs p : Int) = bAt bs p := wr_i64 (by omega) (by omega)
        have b1 : wr .i64 (bAt bs (p + 1) : Int) = bAt bs (p + 1) := wr_i64 (by omega) (by omega)
        have b2 : wr .i64 (bAt bs (p + 2) : Int) = bAt bs (p + 2) := wr_i64 (by omega) (by omega)
        have b3 : wr .i64 (bAt bs (p + 3) : Int) = bAt bs (p + 3) := wr_i64 (by omega) (by omega)
        have c1 : wr .i64 ((bAt bs (p + 1) : Int) * 65536) = (bAt bs (p + 1) : Int) * 65536 := wr_i64 (by omega) (by omega)
        have c2 : wr .i64 ((bAt bs (p + 2) : Int) * 256) = (bAt bs (p + 2) : Int) * 256 := wr_i64 (by omega) (by omega)
        have o3 := or3 bs p
        rw [← hL] at o3
        have d1 : wr .i64 ((bs.length : Int) - p - 4) = (bs.length : Int) - p - 4 := wr_i64 (by omega) (by omega)
        have d2 := rem128 (bAt bs p)
        rw [← hr] at d2
        by_cases hs : bs.length < p + 4 + L ∨ r = 127
        · have hwk : wk bs (k + 1) p = ([], p) := by
            unfold wk
            rw [if_neg hend, if_pos (by rw [← hL, ← hr]; exact hs)]
          rw [hwk] at hw1 hw2
          simp only [List.append_nil] at hw1
          simp only at hw2
          by_cases hs1 : (bs.length : Int) - p - 4 < L
          · simp [q0, q4, q5, hB.ln, a1, a2, a3, i1, i2, i3, l1, l2, l3, b0, b1, b2, b3, c1, c2, o3, e0, d1, d2, hs1, ← hw2]
            exact hout hw1 ha hd kk
          · have hs2 : (r : Int) = 127 := by omega
            simp [q0, q4, q5, hB.ln, a1, a2, a3, i1, i2, i3, l1, l2, l3, b0, b1, b2, b3, c1, c2, o3, e0, d1, d2, hs1, hs2, ← hw2]
            exact hout hw1 ha hd kk
        · have hs1 : ¬ (bs.length : Int) - p - 4 < L := by omega
          have hs2 : ¬ (r : Int) = 127 := by omega
          have f4 : wr .i64 ((p : Int) + 4) = (p : Int) + 4 := wr_i64 (by omega) (by omega)
          have f5 : wr .i64 ((p : Int) + 4 + L) = (p : Int) + 4 + L := wr_i64 (by omega) (by omega)
          obtain ⟨s', p1, p2⟩ := hB.part (lo := some (.int .i64 (p + 4 : Nat))) (hi := some (.int .i64 (p + 4 + L : Nat))) (l := p + 4) (u := p + 4 + L) (.inl rfl) (.inl rfl) (by omega) (by omega)
          have p1 : lSlice TE H' 22 (some s) (some (some (.int .i64 ((p : Int) + 4)))) (some (some (.int .i64 ((p : Int) + 4 + L)))) = some s' := by
            rw [show ((p : Int) + 4 + L) = ((p + 4 + L : Nat) : Int) by omega, show ((p : Int) + 4) = ((p + 4 : Nat) : Int) by omega]
            exact p1
          simp [q0, q4, q5, hB.ln, a1, a2, a3, i1, i2, i3, l1, l2, l3, b0, b1, b2, b3, c1, c2, o3, e0, d1, d2, hs1, hs2, f4, f5, lSlice3, p1]
          refine (WCall.fresh ff (clone_spec p2 ff (by simp; omega))).mono ?_
          rintro cl G3 n3 ⟨hn3, ff3, cB, ck, co⟩
          obtain ⟨ca, cc, hcl, _⟩ := cB.sh
          generalize ((bs.drop (p + 4)).take (p + 4 + L - (p + 4))).length = ln at hcl
          have hda : Acc G3 n3 69 2 cv es.length (blkC es) := ha.keep (fun b l c hb _ => ck.get hb) ck.1
          obtain ⟨c', G5, k5, y1, y2, y3, y4, y5, y6⟩ := push_one (xs := [.int .i64 r, cl]) ty61 ty69 rfl rfl ff3 hda rfl (by subst hcl; rfl) (by unfold lim; omega) (by unfold lim; simp; omega)
          have y7 := (hd.kept ff ck).over ff3 hda (by decide) y5
          have y8 := cB.over ff3 hda (by decide) y5
          have hdat : Dat G5 bs (es ++ [((r, p + 4, p + 4 + L), cl)]) := by
            intro e he
            rcases List.mem_append.1 he with he | he
            · exact y7 e he
            · rw [List.mem_singleton] at he
              subst he
              exact y8
          have hacc : Acc G5 k5 69 2 c' (es ++ [((r, p + 4, p + 4 + L), cl)]).length (blkC (es ++ [((r, p + 4, p + 4 + L), cl)])) := by
            have e : blkC (es ++ [((r, p + 4, p + 4 + L), cl)]) = blkC es ++ [.int .i64 r, cl] := by simp [blkC]
            rw [e, List.length_append]
            exact y2
          have hkk : Keep G (n + 1) G5 k5 := ⟨by have := kk.1; have := ck.1; omega, fun b hb => by
            have h1 := kk.1
            have h2 := ck.1
            rw [y5 b (by omega) (fun l c e => by have := ho _ _ _ e; simp at this; omega), ck.get (by omega), kk.get hb]⟩
          have hmap : (es ++ [((r, p + 4, p + 4 + L), cl)]).map (·.1) = es.map (·.1) ++ [(r, p + 4, p + 4 + L)] := by simp
          by_cases hs3 : 127 < (bAt bs p : Int)
          · have hwk : wk bs (k + 1) p = ([(r, p + 4, p + 4 + L)], p + 4 + L) := by
              unfold wk
              rw [if_neg hend, if_neg (by rw [← hL, ← hr]; exact hs), if_pos (by omega), ← hL, ← hr]
            rw [hwk] at hw1 hw2
            have hq : ((p : Int) + 4 + L) = (walk bs).2 := by rw [← hw2]; simp
            have hq2 : wr .i64 ((walk bs).2 : Int) = (walk bs).2 := by rw [← hq]; exact f5
            have hfin := hout (es' := es ++ [((r, p + 4, p + 4 + L), cl)]) (by rw [hmap]; exact hw1) hacc hdat hkk
            clear hdat hacc y7 y8
            subst hcl
            simp [q0, q4, q5, d2, bv_blk, bs_blk, y1, f4, f5, hs3, hq, hq2]
            exact hfin
          · have hwk : wk bs (k + 1) p = ((r, p + 4, p + 4 + L) :: (wk bs k (p + 4 + L)).1, (wk bs k (p + 4 + L)).2) := by
              rw [wk, if_neg hend, if_neg (by rw [← hL, ← hr]; exact hs), if_neg (by omega), ← hL, ← hr]
            rw [hwk] at hw1 hw2
            have hfin : ∃ (p' : Nat) (es' : List ((Nat × Nat × Nat) × Value)), bs.length ≤ p' + k ∧ p' ≤ bs.length ∧ ((p : Int) + 4 + L) = p' ∧ es'.map (·.1) ++ (wk bs k p').1 = (walk bs).1 ∧ (wk bs k p').2 = (walk bs).2 ∧ es'.length ≤ p' ∧ Acc G5 k5 69 2 c' es'.length (blkC es') ∧ own c' (n + 1) ∧ Dat G5 bs es' ∧ Keep G (n + 1) G5 k5 ∧ Fresh G5 k5 :=
              ⟨p + 4 + L, es ++ [((r, p + 4, p + 4 + L), cl)], by omega, by omega, by omega, by rw [hmap, List.append_assoc]; exact hw1, hw2, by simp; omega, hacc, y6 _ (by have := kk.1; have := ck.1; omega) ho, hdat, hkk, y4⟩
            clear hdat hacc y7 y8
            subst hcl
            simp [q0, q4, q5, d2, bv_blk, bs_blk, y1, f4, f5, hs3]
            obtain ⟨p', es', r1, r2, r3, r4⟩ := hfin
            exact ⟨k, by omega, p', r1, r2, r3, es', r4⟩
    · refine ⟨4, .slice none 0 0, [], by omega, by omega, by simp, by simp, by simp, by simp [walk, h4], by simp [walk, h4], by simp, .nil _ _ _ _, own_nil _ _ _, (fun e he => by cases he), .refl _ _, f1⟩
  · have hwk : walk bs = ([], 0) := by unfold walk; rw [if_neg h4]
    simp [hConv, elemT, isStr, isSlice, isU8, g1, hasPrefix_eq h2 hm, hasMarker, h4, hwk]
    exact ⟨.nil _ _ _, (fun e he => by cases he), ⟨by omega, k1.2⟩⟩
end Go.Ab

/- The program's functions: jetsamref16.Whole. -/
namespace Go.Ab
open Go.Proofs
set_option linter.unusedSimpArgs false
variable {H H0 : Hp} {s t : Value} {bs cs : List UInt8} {n n0 : Nat}

theorem Acc.over {H' : Hp} {n' e1 e2 z1 z2 m1 m2 : Nat} {c1 c2 : Value} {l1 l2 : List Value} (hb : Acc H n e2 z2 c2 m2 l2) (ha : Acc H n e1 z1 c1 m1 l1) (he : e1 ≠ e2)
    (hk : ∀ b, b < n → (∀ l c, c1 ≠ .slice (some ⟨b, 0, none⟩) l c) → H'.get b = H.get b) (hn : n ≤ n') : Acc H' n' e2 z2 c2 m2 l2 := by
  refine hb.keep (fun b l c hb' hs => hk b hb' fun l' c' hc => ?_) hn
  obtain ⟨_, ⟨h5, _⟩ | ⟨b1, h5, h6, h7⟩⟩ := ha
  · rw [h5] at hc; cases hc
  · obtain ⟨_, ⟨g5, _⟩ | ⟨b2, g5, g6, g7⟩⟩ := hb
    · rw [g5] at hs; cases hs
    · rw [h6] at hc; rw [g6] at hs
      cases hc; cases hs
      rw [h7] at g7
      cases g7
      exact he rfl

def tyC (es : List (Nat × Nat × Nat)) : List Value := es.map fun e => .int .i64 e.1
def spC (es : List (Nat × Nat × Nat)) : List Value := es.flatMap fun e => [.int .i64 e.2.1, .int .i64 e.2.2]
theorem bs_ty (x : Int) (H : Hp) (n : Nat) : hBuildSlice TE H n 64 1 (some [(0, .int .i64 x)]) = some (.slice (some ⟨n, 0, none⟩) 1 1, H.put n (.cells [.int .i64 x] 3 .own), n + 1) := by kernel_rfl
theorem bs_sp (x y : Int) (H : Hp) (n : Nat) : hBuildSlice TE H n 65 1 (some [(0, .agg #[.int .i64 x, .int .i64 y])]) = some (.slice (some ⟨n, 0, none⟩) 1 1, H.put n (.cells [.int .i64 x, .int .i64 y] 71 .own), n + 1) := by kernel_rfl
theorem bv_sp (x y : Int) : buildV TE 71 [(0, .int .i64 x), (1, .int .i64 y)] = some (.agg #[.int .i64 x, .int .i64 y]) := by kernel_rfl

theorem marker_iff (bs : List UInt8) (h : 4 ≤ bs.length) : bs.take 4 = marker ↔ bAt bs 0 = 102 ∧ bAt bs 1 = 76 ∧ bAt bs 2 = 97 ∧ bAt bs 3 = 67 := by
  have e : bs.take 4 = [bs.getD 0 0, bs.getD 1 0, bs.getD 2 0, bs.getD 3 0] := by
    rcases bs with _ | ⟨a, _ | ⟨b, _ | ⟨c, _ | ⟨d, r⟩⟩⟩⟩ <;> simp at h ⊢
  rw [e]
  unfold marker bAt
  constructor
  · intro h
    injection h with h0 h
    injection h with h1 h
    injection h with h2 h
    injection h with h3 h
    rw [h0, h1, h2, h3]
    exact ⟨rfl, rfl, rfl, rfl⟩
  · rintro ⟨h0, h1, h2, h3⟩
    rw [UInt8.toNat_inj.1 (show (bs.getD 0 0).toNat = (102 : UInt8).toNat from h0), UInt8.toNat_inj.1 (show (bs.getD 1 0).toNat = (76 : UInt8).toNat from h1), UInt8.toNat_inj.1 (show (bs.getD 2 0).toNat = (97 : UInt8).toNat from h2), UInt8.toNat_inj.1 (show (bs.getD 3 0).toNat = (67 : UInt8).toNat from h3)]

set_option maxHeartbeats 2000000 in
set_option maxRecDepth 20000 in
theorem whole_spec (h : By H s bs) (hl : bs.length < 1000000) (hf : Fresh H n) :
    WCall TE 25 [s] H n (fun v H' n' => ∃ tv sv, v = .tuple #[.int .i64 (walk bs).2, tv, sv] ∧ Sl H' 3 1 tv (walk bs).1.length (tyC (walk bs).1) ∧ Sl H' 71 2 sv (walk bs).1.length (spC (walk bs).1) ∧ Keep H n H' n') := by
  refine WCall_intro rfl fn25 rfl rfl ?_
  have nil2 : ∃ tv sv, (Value.slice none 0 0 = tv ∧ Value.slice none 0 0 = sv) ∧ Sl H 3 1 tv 0 [] ∧ Sl H 71 2 sv 0 [] := ⟨_, _, ⟨rfl, rfl⟩, .nil _ _ _, .nil _ _ _⟩
  by_cases hl4 : (bs.length : Int) < 4
  · have hwk : walk bs = ([], 0) := by
      unfold walk
      rw [if_neg]
      intro hm
      have := congrArg List.length hm
      simp [marker] at this
      omega
    simp [Tryz.f25, h.ln, hl4, hwk, tyC, spC, Keep.refl]
    exact nil2
  · have i0 : lIndexA TE 22 (some s) (some (.int .i64 0)) = some (.pointer (some (adr s 0))) := h.ixI (i := 0) (by omega) (by omega)
    have i1 : lIndexA TE 22 (some s) (some (.int .i64 1)) = some (.pointer (some (adr s 1))) := h.ixI (i := 1) (by omega) (by omega)
    have i2 : lIndexA TE 22 (some s) (some (.int .i64 2)) = some (.pointer (some (adr s 2))) := h.ixI (i := 2) (by omega) (by omega)
    have i3 : lIndexA TE 22 (some s) (some (.int .i64 3)) = some (.pointer (some (adr s 3))) := h.ixI (i := 3) (by omega) (by omega)
    have l0 := h.ldP (p := 0) (by omega)
    have l1 := h.ldP (p := 1) (by omega)
    have l2 := h.ldP (p := 2) (by omega)
    have l3 := h.ldP (p := 3) (by omega)
    have hmi := marker_iff bs (by omega)
    by_cases m0 : (bAt bs 0 : Int) = 102
    case neg =>
      have hwk : walk bs = ([], 0) := by unfold walk; rw [if_neg]; rw [hmi]; omega
      simp [Tryz.f25, h.ln, hl4, i0, l0, m0, hwk, tyC, spC, Keep.refl]
      exact nil2
    by_cases m1 : (bAt bs 1 : Int) = 76
    case neg =>
      have hwk : walk bs = ([], 0) := by unfold walk; rw [if_neg]; rw [hmi]; omega
      simp [Tryz.f25, h.ln, hl4, i0, l0, m0, i1, l1, m1, hwk, tyC, spC, Keep.refl]
      exact nil2
    by_cases m2 : (bAt bs 2 : Int) = 97
    case neg =>
      have hwk : walk bs = ([], 0) := by unfold walk; rw [if_neg]; rw [hmi]; omega
      simp [Tryz.f25, h.ln, hl4, i0, l0, m0, i1, l1, m1, i2, l2, m2, hwk, tyC, spC, Keep.refl]
      exact nil2
    by_cases m3 : (bAt bs 3 : Int) = 67
    case neg =>
      have hwk : walk bs = ([], 0) := by unfold walk; rw [if_neg]; rw [hmi]; omega
      simp [Tryz.f25, h.ln, hl4, i0, l0, m0, i1, l1, m1, i2, l2, m2, i3, l3, m3, hwk, tyC, spC, Keep.refl]
      exact nil2
    have hwk0 : walk bs = wk bs bs.length 4 := by unfold walk; rw [if_pos]; rw [hmi]; omega
    simp [Tryz.f25, h.ln, hl4, i0, l0, m0, i1, l1, m1, i2, l2, m2, i3, l3, m3]
    clear i0 i1 i2 i3 l0 l1 l2 l3 m0 m1 m2 m3 hmi
    refine Wp_loop (fun k fr H' n' => ∃ (p : Nat) (cv dv : Value) (es : List (Nat × Nat × Nat)), bs.length ≤ p + k ∧ p ≤ bs.length ∧ fr.get 0 = some s ∧ fr.get 5 = some (.int .i64 p) ∧ fr.get 6 = some cv ∧ fr.get 7 = some dv ∧
      es ++ (wk bs k p).1 = (walk bs).1 ∧ (wk bs k p).2 = (walk bs).2 ∧ es.length ≤ p ∧ Acc H' n' 3 1 cv es.length (tyC es) ∧ own cv n ∧ Acc H' n' 71 2 dv es.length (spC es) ∧ own dv n ∧ Keep H n H' n' ∧ Fresh H' n') ?_ (k := bs.length) ?_
    · rintro k fr H' n' ⟨p, cv, dv, es, hk, hp, q0, q5, q6, q7, hw1, hw2, hel, ha, ho, hb, hob, kk, ff⟩
      have hB : By H' s bs := h.kept hf kk
      have hout : ∀ {cv' dv' : Value} {G' : Hp} {m : Nat} {es' : List (Nat × Nat × Nat)}, es' = (walk bs).1 → Acc G' m 3 1 cv' es'.length (tyC es') → Acc G' m 71 2 dv' es'.length (spC es') → Keep H n G' m →
          ∃ tv sv, (cv' = tv ∧ dv' = sv) ∧ Sl G' 3 1 tv (walk bs).1.length (tyC (walk bs).1) ∧ Sl G' 71 2 sv (walk bs).1.length (spC (walk bs).1) ∧ Keep H n G' m := fun {cv' dv' G' m es'} a b c d => by
        subst a
        exact ⟨_, _, ⟨rfl, rfl⟩, b.sl, c.sl, d⟩
      have f4 : wr .i64 ((p : Int) + 4) = (p : Int) + 4 := wr_i64 (by omega) (by omega)
      by_cases hend : bs.length < p + 4
      · have e1 : ¬ ((p : Int) + 4 ≤ (bs.length : Int)) := by omega
        have hwk : wk bs k p = ([], p) := by
          cases k with
          | zero => rfl
          | succ k => unfold wk; rw [if_pos hend]
        rw [hwk] at hw1 hw2
        simp only [List.append_nil] at hw1
        simp only at hw2
        simp [q0, q5, q6, q7, hB.ln, f4, e1, ← hw2]
        exact hout hw1 ha hb kk
      · have e1 : ((p : Int) + 4 ≤ (bs.length : Int)) := by omega
        obtain ⟨k, rfl⟩ : ∃ k', k = k' + 1 := ⟨k - 1, by omega⟩
        have i0 := hB.ix (i := p) (by omega)
        have i1 : lIndexA TE 22 (some s) (some (.int .i64 ((p : Int) + 1))) = some (.pointer (some (adr s (p + 1)))) := by
          rw [show ((p : Int) + 1) = ((p + 1 : Nat) : Int) by omega]
          exact hB.ix (by omega)
        have i2 : lIndexA TE 22 (some s) (some (.int .i64 ((p : Int) + 2))) = some (.pointer (some (adr s (p + 2)))) := by
          rw [show ((p : Int) + 2) = ((p + 2 : Nat) : Int) by omega]
          exact hB.ix (by omega)
        have i3 : lIndexA TE 22 (some s) (some (.int .i64 ((p : Int) + 3))) = some (.pointer (some (adr s (p + 3)))) := by
          rw [show ((p : Int) + 3) = ((p + 3 : Nat) : Int) by omega]
          exact hB.ix (by omega)
        have l0 := hB.ldP (p := p) (by omega)
        have l1 := hB.ldP (p := p + 1) (by omega)
        have l2 := hB.ldP (p := p + 2) (by omega)
        have l3 := hB.ldP (p := p + 3) (by omega)
        have a1 : wr .i64 ((p : Int) + 1) = (p : Int) + 1 := wr_i64 (by omega) (by omega)
        have a2 : wr .i64 ((p : Int) + 2) = (p : Int) + 2 := wr_i64 (by omega) (by omega)
        have a3 : wr .i64 ((p : Int) + 3) = (p : Int) + 3 := wr_i64 (by omega) (by omega)
        simp [q0, q5, q6, q7, hB.ln, f4, e1]
        refine Wp_drawn [0, 1, 2, 3, 4, 5, 6, 7, 8, 9, 10, 11, 12, 13, 14, 15, 16, 17, 18, 19, 20, 21, 22] [] (by kernel_rfl) ff ?_
        obtain ⟨L, hL⟩ : ∃ L, L = lenAt bs p := ⟨_, rfl⟩
        obtain ⟨r, hr⟩ : ∃ r, r = bAt bs p % 128 := ⟨_, rfl⟩
        have hLb := lenAt_lt bs p
        rw [← hL] at hLb
        have z0 := bAt_lt bs p
        have z1 := bAt_lt bs (p + 1)
        have z2 := bAt_lt bs (p + 2)
        have z3 := bAt_lt bs (p + 3)
        have b0 : wr .i64 (bAt bs p : Int) = bAt bs p := wr_i64 (by omega) (by omega)
        have b1 : wr .i64 (bAt bs (p + 1) : Int) = bAt bs (p + 1) := wr_i64 (by omega) (by omega)
        have b2 : wr .i64 (bAt bs (p + 2) : Int) = bAt bs (p + 2) := wr_i64 (by omega) (by omega)
        have b3 : wr .i64 (bAt bs (p + 3) : Int) = bAt bs (p + 3) := wr_i64 (by omega) (by omega)
        have c1 : wr .i64 ((bAt bs (p + 1) : Int) * 65536) = (bAt bs (p + 1) : Int) * 65536 := wr_i64 (by omega) (by omega)
        have c2 : wr .i64 ((bAt bs (p + 2) : Int) * 256) = (bAt bs (p + 2) : Int) * 256 := wr_i64 (by omega) (by omega)
        have c3 : wr .i64 ((bAt bs (p + 1) : Int) * 65536 + (bAt bs (p + 2) : Int) * 256) = (bAt bs (p + 1) : Int) * 65536 + (bAt bs (p + 2) : Int) * 256 := wr_i64 (by omega) (by omega)
        have o3 : wr .i64 ((bAt bs (p + 1) : Int) * 65536 + (bAt bs (p + 2) : Int) * 256 + (bAt bs (p + 3) : Int)) = (L : Int) := by
          rw [wr_i64 (by omega) (by omega), hL]; unfold lenAt; omega
        have f5 : wr .i64 ((p : Int) + 4 + L) = (p : Int) + 4 + L := wr_i64 (by omega) (by omega)
        have d2 := rem128 (bAt bs p)
        rw [← hr] at d2
        by_cases hs : bs.length < p + 4 + L ∨ r = 127
        · have hwk : wk bs (k + 1) p = ([], p) := by
            unfold wk
            rw [if_neg hend, if_pos (by rw [← hL, ← hr]; exact hs)]
          rw [hwk] at hw1 hw2
          simp only [List.append_nil] at hw1
          simp only at hw2
          by_cases hs1 : (bs.length : Int) < (p : Int) + 4 + L
          · simp [q0, q5, q6, q7, hB.ln, a1, a2, a3, i0, i1, i2, i3, l0, l1, l2, l3, b0, b1, b2, b3, c1, c2, c3, o3, f4, f5, hs1, ← hw2]
            exact hout hw1 ha hb kk
          · by_cases hs2 : (bAt bs p : Int) = 127
            · simp [q0, q5, q6, q7, hB.ln, a1, a2, a3, i0, i1, i2, i3, l0, l1, l2, l3, b0, b1, b2, b3, c1, c2, c3, o3, f4, f5, hs1, hs2, ← hw2]
              exact hout hw1 ha hb kk
            · have hs3 : (bAt bs p : Int) = 255 := by omega
              simp [q0, q5, q6, q7, hB.ln, a1, a2, a3, i0, i1, i2, i3, l0, l1, l2, l3, b0, b1, b2, b3, c1, c2, c3, o3, f4, f5, hs1, hs2, hs3, ← hw2]
              exact hout hw1 ha hb kk
        · have hs1 : ¬ (bs.length : Int) < (p : Int) + 4 + L := by omega
          have hs2 : ¬ (bAt bs p : Int) = 127 := by omega
          have hs3 : ¬ (bAt bs p : Int) = 255 := by omega
          obtain ⟨c', G5, k5, y1, y2, y3, y4, y5, y6⟩ := push_one (xs := [.int .i64 r]) ty64 ty3 rfl rfl ff ha rfl rfl (by unfold lim; omega) (by unfold lim; simp; omega)
          have hb5 := hb.over ha (by decide) y5 (n' := k5) (by omega)
          obtain ⟨d', G6, k6, x1, x2, x3, x4, x5, x6⟩ := push_one (xs := [.int .i64 ((p : Int) + 4), .int .i64 ((p : Int) + 4 + L)]) ty65 ty71 rfl rfl y4 hb5 rfl rfl (by unfold lim; omega) (by unfold lim; simp; omega)
          have ha6 := y2.over hb5 (by decide) x5 (n' := k6) (by omega)
          have hacc : Acc G6 k6 3 1 c' (es ++ [(r, p + 4, p + 4 + L)]).length (tyC (es ++ [(r, p + 4, p + 4 + L)])) := by
            have e : tyC (es ++ [(r, p + 4, p + 4 + L)]) = tyC es ++ [.int .i64 r] := by simp [tyC]
            rw [e, List.length_append]
            exact ha6
          have hbcc : Acc G6 k6 71 2 d' (es ++ [(r, p + 4, p + 4 + L)]).length (spC (es ++ [(r, p + 4, p + 4 + L)])) := by
            have e : spC (es ++ [(r, p + 4, p + 4 + L)]) = spC es ++ [.int .i64 ((p : Int) + 4), .int .i64 ((p : Int) + 4 + L)] := by simp [spC]
            rw [e, List.length_append]
            exact x2
          have hkk : Keep H n G6 k6 := ⟨by have := kk.1; omega, fun b hb => by
            have h1 := kk.1
            rw [x5 b (by omega) (fun l c e => by have := hob _ _ _ e; simp at this; omega), y5 b (by omega) (fun l c e => by have := ho _ _ _ e; simp at this; omega), kk.get hb]⟩
          by_cases hs4 : 127 < (bAt bs p : Int)
          · have hwk : wk bs (k + 1) p = ([(r, p + 4, p + 4 + L)], p + 4 + L) := by
              unfold wk
              rw [if_neg hend, if_neg (by rw [← hL, ← hr]; exact hs), if_pos (by omega), ← hL, ← hr]
            rw [hwk] at hw1 hw2
            have hq : ((p : Int) + 4 + L) = (walk bs).2 := by rw [← hw2]; simp
            have hq2 : wr .i64 ((walk bs).2 : Int) = (walk bs).2 := by rw [← hq]; exact f5
            have hfin := hout hw1 hacc hbcc hkk
            simp [q0, q5, q6, q7, hB.ln, a1, a2, a3, i0, i1, i2, i3, l0, l1, l2, l3, b0, b1, b2, b3, c1, c2, c3, o3, f4, f5, hs1, hs2, hs3, hs4, d2, bs_ty, y1, bv_sp, bs_sp, x1]
            simp [hq]
            exact hfin
          · have hwk : wk bs (k + 1) p = ((r, p + 4, p + 4 + L) :: (wk bs k (p + 4 + L)).1, (wk bs k (p + 4 + L)).2) := by
              rw [wk, if_neg hend, if_neg (by rw [← hL, ← hr]; exact hs), if_neg (by omega), ← hL, ← hr]
            rw [hwk] at hw1 hw2
            simp [q0, q5, q6, q7, hB.ln, a1, a2, a3, i0, i1, i2, i3, l0, l1, l2, l3, b0, b1, b2, b3, c1, c2, c3, o3, f4, f5, hs1, hs2, hs3, hs4, d2, bs_ty, y1, bv_sp, bs_sp, x1]
            exact ⟨k, by omega, p + 4 + L, by omega, by omega, by omega, es ++ [(r, p + 4, p + 4 + L)], by rw [List.append_assoc]; exact hw1, hw2, by simp; omega, hacc, y6 _ (by have := kk.1; omega) ho, hbcc, x6 _ (by have := kk.1; omega) hob, hkk, x4⟩
    · exact ⟨4, .slice none 0 0, .slice none 0 0, [], by omega, by omega, by simp, by simp, by simp, by simp, by simp [hwk0], by simp [hwk0], by simp, .nil _ _ _ _, own_nil _ _ _, .nil _ _ _ _, own_nil _ _ _, .refl _ _, hf⟩
end Go.Ab

/- Equality of structs whose cells are numbers and truth values. -/
namespace Go.Ab
open Go.Proofs
variable {P : Program}
theorem evSem_bind {α β : Type} (s : Sem α) (f : α → Sem β) : evSem P (s >>= f) = (evSem P s).bind fun a => evSem P (f a) := by
  show evSem P (Sem.bind s f) = _
  induction s with
  | pure a => rfl
  | program k ih => exact ih P
  | _ => rfl
theorem evSem_pure {α : Type} (a : α) : evSem P (pure a : Sem α) = some a := rfl
theorem evSem_program : evSem P (program : Sem Program) = some P := rfl
theorem evSem_underlying (t : TypeId) : evSem P (underlying t) = P.underlying t := by
  unfold underlying
  rw [evSem_bind, evSem_program]
  simp only [Option.bind_some]
  cases P.underlying t <;> rfl
theorem evSem_info (t : TypeId) : evSem P (typeInfo t) = P.info? t := by
  unfold typeInfo
  rw [evSem_bind, evSem_program]
  simp only [Option.bind_some]
  cases P.info? t <;> rfl
theorem evSem_size (t : TypeId) : evSem P (sizeOf t) = (P.info? t).map (·.size) := by
  unfold sizeOf
  rw [evSem_bind, evSem_info]
  cases P.info? t <;> rfl

/-- A value of a type of numbers: one cell; of an aggregate: its cells. -/
noncomputable def mkV (agg : Bool) (cs : List Value) : Value := cnd agg (.agg cs.toArray) (cs.getD 0 default)

/-- Are these two lists of cells one? As the model asks it. -/
def eqCells : List Value → List Value → Bool
  | [], [] => true
  | .int k a :: r, .int k' b :: r' => kindEq k k' && (a == b && eqCells r r')
  | .bool a :: r, .bool b :: r' => (a == b) && eqCells r r'
  | _, _ => false
theorem evSem_ite {α : Type} (b : Prop) [Decidable b] (x y : Sem α) : evSem P (if b then x else y) = if b then evSem P x else evSem P y := by split <;> rfl

theorem eq_int {d : Nat} {t : TypeId} {k k' : IntKind} {a b : Int} (ht : P.underlying t = some (.int k')) : evSem P (Op.equalIn (d + 1) t (.int k a) (.int k b)) = some (a == b) := by
  unfold Op.equalIn
  rw [evSem_bind, evSem_underlying, ht]
  simp only [Option.bind_some]
  simp [evSem]
  rfl
theorem eq_bool {d : Nat} {t : TypeId} {a b : Bool} (ht : P.underlying t = some .bool) : evSem P (Op.equalIn (d + 1) t (.bool a) (.bool b)) = some (a == b) := by
  unfold Op.equalIn
  rw [evSem_bind, evSem_underlying, ht]
  simp only [Option.bind_some]
  rfl
/-- A struct's fields, one behind the other. -/
noncomputable def fieldsEq (P : Program) (d : Nat) (xs ys : Array Value) : List Field → Option Bool
  | [] => some true
  | f :: r => ((evSem P (part f.type xs f.offset)).bind fun x => (evSem P (part f.type ys f.offset)).bind fun y => evSem P (Op.equalIn d f.type x y)).bind fun e => cnd e (fieldsEq P d xs ys r) (some false)
theorem struct_loop {d : Nat} {xs ys : Array Value} : ∀ (l : List Field), (l.all fun f => decide (f.name ≠ "_")) = true →
    evSem P (forIn l ((none : Option Bool), ()) fun f _ => if f.name = "_" then pure (ForInStep.yield (none, ())) else do
      let x ← part f.type xs f.offset
      let y ← part f.type ys f.offset
      let e ← Op.equalIn d f.type x y
      if e = false then pure (ForInStep.done (some false, ())) else pure (ForInStep.yield (none, ()))) = (fieldsEq P d xs ys l).map fun e => (cnd e none (some false), ()) := by
  intro l
  induction l with
  | nil => intro _; rfl
  | cons f r ih =>
    intro hn
    rw [List.all_cons, Bool.and_eq_true] at hn
    have hf : ¬ f.name = "_" := of_decide_eq_true hn.1
    rw [List.forIn_cons, evSem_bind, if_neg hf]
    simp only [evSem_bind, fieldsEq]
    cases evSem P (part f.type xs f.offset) with
    | none => rfl
    | some x =>
      cases evSem P (part f.type ys f.offset) with
      | none => rfl
      | some y =>
        simp only [Option.bind_some]
        cases evSem P (Op.equalIn d f.type x y) with
        | none => rfl
        | some e =>
          cases e with
          | false => rfl
          | true => exact ih hn.2
theorem eq_struct {d : Nat} {t : TypeId} {fs : Array Field} {xs ys : Array Value} (ht : P.underlying t = some (.struct fs)) (hs : P.stoodInHeld t = false) (hn : (fs.toList.all fun f => decide (f.name ≠ "_")) = true) :
    evSem P (Op.equalIn (d + 1) t (.agg xs) (.agg ys)) = fieldsEq P d xs ys fs.toList := by
  unfold Op.equalIn
  rw [evSem_bind, evSem_underlying, ht]
  simp only [Option.bind_some, evSem_bind, evSem_program, hs]
  simp
  rw [evSem_bind, ← Array.forIn_toList, struct_loop fs.toList hn]
  cases fieldsEq P d xs ys fs.toList with
  | none => rfl
  | some e => cases e <;> rfl

/-- An array's elements, one behind the other. -/
noncomputable def elemsEq (P : Program) (d : Nat) (e : TypeId) (n : Nat) (xs ys : Array Value) : List Nat → Option Bool
  | [] => some true
  | i :: r => ((evSem P (part e xs (i * n))).bind fun x => (evSem P (part e ys (i * n))).bind fun y => evSem P (Op.equalIn d e x y)).bind fun q => cnd q (elemsEq P d e n xs ys r) (some false)
theorem array_loop {d : Nat} {e : TypeId} {n : Nat} {xs ys : Array Value} : ∀ (l : List Nat),
    evSem P (forIn l ((none : Option Bool), ()) fun i _ => do
      let x ← part e xs (i * n)
      let y ← part e ys (i * n)
      let q ← Op.equalIn d e x y
      if q = false then pure (ForInStep.done (some false, ())) else pure (ForInStep.yield (none, ()))) = (elemsEq P d e n xs ys l).map fun q => (cnd q none (some false), ()) := by
  intro l
  induction l with
  | nil => rfl
  | cons f r ih =>
    rw [List.forIn_cons, evSem_bind]
    simp only [evSem_bind, elemsEq]
    cases evSem P (part e xs (f * n)) with
    | none => rfl
    | some x =>
      cases evSem P (part e ys (f * n)) with
      | none => rfl
      | some y =>
        simp only [Option.bind_some]
        cases evSem P (Op.equalIn d e x y) with
        | none => rfl
        | some q =>
          cases q with
          | false => rfl
          | true => exact ih
theorem eq_array {d : Nat} {t e : TypeId} {m n : Nat} {xs ys : Array Value} (ht : P.underlying t = some (.array m e)) (hs : (P.info? e).map (·.size) = some n) :
    evSem P (Op.equalIn (d + 1) t (.agg xs) (.agg ys)) = elemsEq P d e n xs ys (List.range' 0 m 1) := by
  unfold Op.equalIn
  rw [evSem_bind, evSem_underlying, ht]
  simp only [Option.bind_some, evSem_bind, evSem_size, hs]
  simp
  rw [array_loop]
  cases elemsEq P d e n xs ys (List.range' 0 m 1) with
  | none => rfl
  | some q => cases q <;> rfl

def aggD (d : TypeDesc) : Bool := match d with | .struct _ | .array .. => true | _ => false
theorem evSem_isAgg {t : TypeId} {d : TypeDesc} (h : P.underlying t = some d) : evSem P (isAgg t) = some (aggD d) := by
  unfold isAgg
  rw [evSem_bind, evSem_underlying, h]
  cases d <;> rfl
theorem part_scal {t : TypeId} {d : TypeDesc} {cs : Array Value} {off : Nat} {v : Value} (h : P.underlying t = some d) (hd : aggD d = false) (hv : cs[off]? = some v) : evSem P (part t cs off) = some v := by
  unfold part
  rw [evSem_bind, evSem_isAgg h, hd]
  simp [hv, evSem_pure]
theorem part_agg {t : TypeId} {d : TypeDesc} {cs : Array Value} {off n : Nat} (h : P.underlying t = some d) (hd : aggD d = true) (hs : (P.info? t).map (·.size) = some n) : evSem P (part t cs off) = some (.agg (cs.extract off (off + n))) := by
  unfold part
  rw [evSem_bind, evSem_isAgg h, hd, Option.bind_some, if_pos rfl, evSem_bind, evSem_size, hs]
  rfl

theorem stood29 : Tryz.prog.stoodInHeld 29 = false := by kernel_rfl
theorem stood31 : Tryz.prog.stoodInHeld 31 = false := by kernel_rfl
theorem stood40 : Tryz.prog.stoodInHeld 40 = false := by kernel_rfl
theorem sz29 : (Tryz.prog.info? 29).map (·.size) = some 3 := by kernel_rfl
theorem sz38 : (Tryz.prog.info? 38).map (·.size) = some 16 := by kernel_rfl
theorem sz5 : (Tryz.prog.info? 5).map (·.size) = some 1 := by kernel_rfl

theorem eq29 {d : Nat} {a b c a' b' c' : Int} : evSem Tryz.prog (Op.equalIn (d + 1 + 1) 29 (.agg #[.int .i64 a, .int .i64 b, .int .i64 c]) (.agg #[.int .i64 a', .int .i64 b', .int .i64 c'])) = some (a == a' && (b == b' && c == c')) := by
  rw [eq_struct Tryz.underlying29 stood29 (by kernel_rfl)]
  have p0 : ∀ (x y z : Value), evSem Tryz.prog (part 3 #[x, y, z] 0) = some x := fun x y z => part_scal Tryz.underlying3 rfl rfl
  have p1 : ∀ (x y z : Value), evSem Tryz.prog (part 3 #[x, y, z] 1) = some y := fun x y z => part_scal Tryz.underlying3 rfl rfl
  have p2 : ∀ (x y z : Value), evSem Tryz.prog (part 3 #[x, y, z] 2) = some z := fun x y z => part_scal Tryz.underlying3 rfl rfl
  simp only [fieldsEq, p0, p1, p2, Option.bind_some, eq_int Tryz.underlying3]
  cases a == a' <;> cases b == b' <;> cases c == c' <;> rfl

/-- A candidate's cells. -/
def cnC (r c d o s k b : Int) (v : Bool) : List Value := [.int .i64 r, .int .i64 c, .int .i64 d, .int .i64 o, .int .i64 s, .int .i64 k, .int .i64 b, .bool v]
theorem eq31 {dd : Nat} {r c d o s k b r' c' d' o' s' k' b' : Int} {v v' : Bool} : evSem Tryz.prog (Op.equalIn (dd + 1 + 1 + 1) 31 (.agg (cnC r c d o s k b v).toArray) (.agg (cnC r' c' d' o' s' k' b' v').toArray)) =
    some ((r == r' && (c == c' && d == d')) && (o == o' && (s == s' && (k == k' && (b == b' && v == v'))))) := by
  rw [eq_struct Tryz.underlying31 stood31 (by kernel_rfl)]
  have p3 : ∀ (r c d o s k b : Int) (v : Bool), evSem Tryz.prog (part 3 (cnC r c d o s k b v).toArray 3) = some (.int .i64 o) := fun r c d o s k b v => part_scal Tryz.underlying3 rfl rfl
  have p4 : ∀ (r c d o s k b : Int) (v : Bool), evSem Tryz.prog (part 3 (cnC r c d o s k b v).toArray 4) = some (.int .i64 s) := fun r c d o s k b v => part_scal Tryz.underlying3 rfl rfl
  have p5 : ∀ (r c d o s k b : Int) (v : Bool), evSem Tryz.prog (part 3 (cnC r c d o s k b v).toArray 5) = some (.int .i64 k) := fun r c d o s k b v => part_scal Tryz.underlying3 rfl rfl
  have p6 : ∀ (r c d o s k b : Int) (v : Bool), evSem Tryz.prog (part 3 (cnC r c d o s k b v).toArray 6) = some (.int .i64 b) := fun r c d o s k b v => part_scal Tryz.underlying3 rfl rfl
  have p7 : ∀ (r c d o s k b : Int) (v : Bool), evSem Tryz.prog (part 4 (cnC r c d o s k b v).toArray 7) = some (.bool v) := fun r c d o s k b v => part_scal Tryz.underlying4 rfl rfl
  have p0 : ∀ (r c d o s k b : Int) (v : Bool), evSem Tryz.prog (part 29 (cnC r c d o s k b v).toArray 0) = some (.agg #[.int .i64 r, .int .i64 c, .int .i64 d]) := fun r c d o s k b v => part_agg Tryz.underlying29 rfl sz29
  simp only [fieldsEq, p0, p3, p4, p5, p6, p7, Option.bind_some, eq29, eq_int Tryz.underlying3, eq_bool Tryz.underlying4]
  cases r == r' <;> cases c == c' <;> cases d == d' <;> cases o == o' <;> cases s == s' <;> cases k == k' <;> cases b == b' <;> cases v == v' <;> rfl

theorem elems_u8 {d : Nat} {l l' : List Int} (hl : l.length = l'.length) : ∀ (m i : Nat), i + m ≤ l.length →
    elemsEq Tryz.prog (d + 1) 5 1 (l.map (.int .u8)).toArray (l'.map (.int .u8)).toArray (List.range' i m 1) = some ((l.drop i).take m == (l'.drop i).take m) := by
  intro m
  induction m with
  | zero => intro i _; simp [elemsEq]
  | succ m ih =>
    intro i hi
    have h1 : i < l.length := by omega
    have h2 : i < l'.length := by omega
    rw [List.range'_succ]
    have q1 : evSem Tryz.prog (part 5 (l.map (Value.int .u8)).toArray (i * 1)) = some (.int .u8 l[i]) := part_scal Tryz.underlying5 rfl (by simp [h1])
    have q2 : evSem Tryz.prog (part 5 (l'.map (Value.int .u8)).toArray (i * 1)) = some (.int .u8 l'[i]) := part_scal Tryz.underlying5 rfl (by simp [h2])
    simp only [elemsEq, q1, q2, Option.bind_some, eq_int Tryz.underlying5, ih (i + 1) (by omega)]
    rw [List.drop_eq_getElem_cons h1, List.drop_eq_getElem_cons h2]
    simp only [List.take_succ_cons]
    rw [List.cons_beq_cons]
    cases l[i] == l'[i] <;> rfl
/-- An info's cells. -/
def infI (r c d mb xb mf xf t : Int) (l : List Int) : List Value := inf r c d mb xb mf xf t (l.map (.int .u8))
theorem eq40 {dd : Nat} {r c d mb xb mf xf t r' c' d' mb' xb' mf' xf' t' : Int} {l l' : List Int} (hl : l.length = 16) (hl' : l'.length = 16) :
    evSem Tryz.prog (Op.equalIn (dd + 1 + 1 + 1) 40 (.agg (infI r c d mb xb mf xf t l).toArray) (.agg (infI r' c' d' mb' xb' mf' xf' t' l').toArray)) =
    some ((r == r' && (c == c' && d == d')) && (mb == mb' && (xb == xb' && (mf == mf' && (xf == xf' && (t == t' && l == l')))))) := by
  rw [eq_struct Tryz.underlying40 stood40 (by kernel_rfl)]
  have p3 : ∀ (r c d mb xb mf xf t : Int) (l : List Int), evSem Tryz.prog (part 3 (infI r c d mb xb mf xf t l).toArray 3) = some (.int .i64 mb) := fun r c d mb xb mf xf t l => part_scal Tryz.underlying3 rfl rfl
  have p4 : ∀ (r c d mb xb mf xf t : Int) (l : List Int), evSem Tryz.prog (part 3 (infI r c d mb xb mf xf t l).toArray 4) = some (.int .i64 xb) := fun r c d mb xb mf xf t l => part_scal Tryz.underlying3 rfl rfl
  have p5 : ∀ (r c d mb xb mf xf t : Int) (l : List Int), evSem Tryz.prog (part 3 (infI r c d mb xb mf xf t l).toArray 5) = some (.int .i64 mf) := fun r c d mb xb mf xf t l => part_scal Tryz.underlying3 rfl rfl
  have p6 : ∀ (r c d mb xb mf xf t : Int) (l : List Int), evSem Tryz.prog (part 3 (infI r c d mb xb mf xf t l).toArray 6) = some (.int .i64 xf) := fun r c d mb xb mf xf t l => part_scal Tryz.underlying3 rfl rfl
  have p7 : ∀ (r c d mb xb mf xf t : Int) (l : List Int), evSem Tryz.prog (part 3 (infI r c d mb xb mf xf t l).toArray 7) = some (.int .i64 t) := fun r c d mb xb mf xf t l => part_scal Tryz.underlying3 rfl rfl
  have p0 : ∀ (r c d mb xb mf xf t : Int) (l : List Int), evSem Tryz.prog (part 29 (infI r c d mb xb mf xf t l).toArray 0) = some (.agg #[.int .i64 r, .int .i64 c, .int .i64 d]) := fun r c d mb xb mf xf t l => by
    rw [part_agg Tryz.underlying29 rfl sz29]
    simp [infI, inf]
  have p8 : ∀ (r c d mb xb mf xf t : Int) (l : List Int), l.length = 16 → evSem Tryz.prog (part 38 (infI r c d mb xb mf xf t l).toArray 8) = some (.agg (l.map (.int .u8)).toArray) := fun r c d mb xb mf xf t l hl => by
    rw [part_agg Tryz.underlying38 rfl sz38]
    simp [infI, inf]
    exact List.take_of_length_le (by simp [hl])
  have pe : evSem Tryz.prog (Op.equalIn (dd + 1 + 1) 38 (.agg (l.map (.int .u8)).toArray) (.agg (l'.map (.int .u8)).toArray)) = some (l == l') := by
    rw [eq_array Tryz.underlying38 sz5, elems_u8 (by omega) 16 0 (by omega)]
    simp [List.take_of_length_le, hl, hl']
  simp only [fieldsEq, p0, p3, p4, p5, p6, p7, p8 _ _ _ _ _ _ _ _ _ hl, p8 _ _ _ _ _ _ _ _ _ hl', pe, Option.bind_some, eq29, eq_int Tryz.underlying3]
  cases r == r' <;> cases c == c' <;> cases d == d' <;> cases mb == mb' <;> cases xb == xb' <;> cases mf == mf' <;> cases xf == xf' <;> cases t == t' <;> cases l == l' <;> rfl

theorem equal_def (t : TypeId) (a b : Value) : Op.equal t a b = Op.equalIn Op.maxDepth t a b := by unfold Op.equal; rfl
section
attribute [local irreducible] Op.equal Op.equalIn Op.eqGuardIn
theorem lBin_agg (op : BinOp) (t : TypeId) (x y : Operand) (a b : Array Value) : lBin TE op t x y (some (.agg a)) (some (.agg b)) = cnd (plain (.agg a) && plain (.agg b)) (plainR (evSem Tryz.prog (do eqGuard op t x y (.agg a) (.agg b); binOp op t (.agg a) (.agg b)))) none := rfl
theorem binOp_eql (t : TypeId) (a b : Array Value) : binOp .eql t (.agg a) (.agg b) = (do pure (.bool (← Op.equal t (.agg a) (.agg b)))) := rfl
theorem binOp_neq (t : TypeId) (a b : Array Value) : binOp .neq t (.agg a) (.agg b) = (do pure (.bool (!(← Op.equal t (.agg a) (.agg b))))) := rfl
theorem guard_agg {op : BinOp} {t : TypeId} {x y : Operand} {a b : Array Value} (hg : Tryz.prog.eqGuardType Tryz.prog.depth t = false) (ho : op = .eql ∨ op = .neq) : evSem Tryz.prog (eqGuard op t x y (.agg a) (.agg b)) = some () := by
  rcases ho with rfl | rfl <;> (unfold eqGuard; simp [evSem_bind, evSem_program, hg, evSem_pure])
/-- From the model's equality to the evaluator's. -/
theorem eqV_agg {t : TypeId} {x y : Operand} {xs ys : List Value} {e : Bool} (hg : Tryz.prog.eqGuardType Tryz.prog.depth t = false) (hx : xs.all scal = true) (hy : ys.all scal = true) (h : evSem Tryz.prog (Op.equalIn Op.maxDepth t (.agg xs.toArray) (.agg ys.toArray)) = some e) :
    lBin TE .eql t x y (some (.agg xs.toArray)) (some (.agg ys.toArray)) = some (.bool e) ∧ lBin TE .neq t x y (some (.agg xs.toArray)) (some (.agg ys.toArray)) = some (.bool !e) := by
  have hp : (plain (.agg xs.toArray) && plain (.agg ys.toArray)) = true := by simp only [plain, hx, hy, Bool.and_self]
  constructor
  · rw [lBin_agg, hp, cnd_true, evSem_bind, guard_agg hg (.inl rfl), Option.bind_some, binOp_eql, evSem_bind, equal_def, h]
    rfl
  · rw [lBin_agg, hp, cnd_true, evSem_bind, guard_agg hg (.inr rfl), Option.bind_some, binOp_neq, evSem_bind, equal_def, h]
    rfl
end
end Go.Ab

/- The law ScanBegins, over the evaluator. -/
namespace Go.Ab
open Go.Proofs
set_option linter.unusedSimpArgs false
variable {H H0 : Hp} {s t : Value} {bs cs : List UInt8} {n n0 : Nat}

/-- Cells of an info. -/
def IsInf (l : List Value) : Prop := ∃ r c d mb xb mf xf t, ∃ m : List Int, m.length = 16 ∧ l = infI r c d mb xb mf xf t m
theorem IsInf.len {l : List Value} (h : IsInf l) : l.length = 24 := by
  obtain ⟨r, c, d, mb, xb, mf, xf, t, m, h1, rfl⟩ := h
  simp [infI, inf, h1]
theorem IsInf.scal {l : List Value} (h : IsInf l) : l.all scal = true := by
  obtain ⟨r, c, d, mb, xb, mf, xf, t, m, h1, rfl⟩ := h
  simp [infI, inf, Go.Ab.scal]
theorem IsInf.cell {l : List Value} (h : IsInf l) : l.all cell1 = true := by
  obtain ⟨r, c, d, mb, xb, mf, xf, t, m, h1, rfl⟩ := h
  simp [infI, inf]
theorem guard40 : Tryz.prog.eqGuardType Tryz.prog.depth 40 = false := by kernel_rfl
theorem IsInf.ne {l : List Value} (h : IsInf l) (x y : Operand) : lBin TE .neq 40 x y (some (.agg l.toArray)) (some (.agg l.toArray)) = some (.bool false) := by
  have hs := h.scal
  obtain ⟨r, c, d, mb, xb, mf, xf, t, m, h1, rfl⟩ := h
  have e := (eqV_agg (x := x) (y := y) guard40 hs hs (eq40 (dd := 9997) h1 h1)).2
  rw [e]
  simp
theorem infZero_is : IsInf infZero := ⟨0, 0, 0, 0, 0, 0, 0, 0, List.replicate 16 0, rfl, rfl⟩
theorem infCells_is {l : List UInt8} (h : l.length = 34) : IsInf (infCells l) := by
  refine ⟨infRate l, infCh l, infDepth l, num (l.take 2), num ((l.drop 2).take 2), num ((l.drop 4).take 3), num ((l.drop 7).take 3), infTotal l, (l.drop 18).map fun b => (b.toNat : Int), by simp; omega, ?_⟩
  unfold infCells infI u8s
  rw [List.map_map]
  rfl
theorem infoOf_is (h : hasInfo bs) : IsInf ((if infErr ((bs.drop 8).take 34) = 0 then infCells ((bs.drop 8).take 34) else infZero)) := by
  split
  · exact infCells_is (by have := h.2.1; simp; omega)
  · exact infZero_is
theorem infoOf_is2 (bs : List UInt8) : IsInf (infoOf bs) := by
  unfold infoOf
  split
  · rename_i h
    exact infCells_is (by have := h.1.2.1; simp; omega)
  · exact infZero_is

theorem st40new {G : Hp} {b : Nat} {c l : List Value} (hc : c.length = 24) (hl : l.length = 24) (ha : l.all cell1 = true) : writeC (G.put b (.cells c 40 .own)) ⟨b, 0, none⟩ l = some (G.put b (.cells l 40 .own)) := by
  rw [store_inf (T.get_put_same _ _ _) hc hl ha, T.put_put]

@[simp] theorem neBool (a b : Bool) (x y : Operand) : lBin TE .neq 4 x y (some (.bool a)) (some (.bool b)) = some (.bool !(a == b)) := by kernel_rfl

theorem flat2 {α : Type} (f g : α → Value) : ∀ (l : List α) (i : Nat) (h : i < l.length), (l.flatMap fun e => [f e, g e])[i * 2]? = some (f l[i]) ∧ (l.flatMap fun e => [f e, g e])[i * 2 + 1]? = some (g l[i])
  | a :: l, 0, _ => ⟨rfl, rfl⟩
  | a :: l, i + 1, h => by
    have := flat2 f g l i (by simpa using h)
    simp only [List.flatMap_cons, List.getElem_cons_succ]
    rw [show (i + 1) * 2 = i * 2 + 2 by omega, show i * 2 + 2 + 1 = (i * 2 + 1) + 2 by omega]
    exact this
theorem wk_len (bs : List UInt8) : ∀ (f p : Nat), (wk bs f p).1.length ≤ f := by
  intro f
  induction f with
  | zero => intro p; exact Nat.le_refl _
  | succ f ih =>
    intro p
    unfold wk
    split
    · exact Nat.zero_le _
    split
    · exact Nat.zero_le _
    split
    · simp
    · simp only [List.length_cons]
      have := ih (p + 4 + lenAt bs p)
      omega
/-- A slice of pairs, at an element. -/
theorem Sl.two {G : Hp} {e m : Nat} {v : Value} {l : List Value} (h : Sl G e 2 v m l) {i : Nat} (hi : i < m) : ∃ b off, adr v (i * 2) = ⟨b, off + i * 2, none⟩ ∧ Ab.ldS G ⟨b, off + i * 2, none⟩ = l[i * 2]? ∧ Ab.ldS G ⟨b, off + i * 2 + 1, none⟩ = l[i * 2 + 1]? := by
  obtain ⟨base, cap, h1, h2, h3, h4⟩ := h.sh
  cases base with
  | none => have := h4.1; omega
  | some a =>
    obtain ⟨b, off, sp⟩ := a
    obtain ⟨h5, c, te, k, h6, h7, h8, h9⟩ := h4
    simp only at h5 h6 h8 h9
    subst h5
    refine ⟨b, off, by rw [h1]; simp [adr, addr_plus], ?_, ?_⟩
    · rw [Ab.ldS_of h6, ← h9, List.getElem?_take, if_pos (by omega), List.getElem?_drop]
    · rw [Ab.ldS_of h6, ← h9, List.getElem?_take, if_pos (by omega), List.getElem?_drop, Nat.add_assoc]

theorem ix71_0 (b o : Nat) : lIndexA TE 71 (some (.pointer (some ⟨b, o, none⟩))) (some (.int .i64 0)) = some (.pointer (some ⟨b, o, none⟩)) := by
  simp [lIndexA_some, ix71, addr_plus]
theorem ix71_1 (b o : Nat) : lIndexA TE 71 (some (.pointer (some ⟨b, o, none⟩))) (some (.int .i64 1)) = some (.pointer (some ⟨b, o + 1, none⟩)) := by
  simp [lIndexA_some, ix71, addr_plus]
set_option maxHeartbeats 2000000 in
theorem tail7 {G3 : Hp} {n3 : Nat} {fr : Fr} (hB : By G3 s bs) (hsm : bs.length < 1000000) (f3 : Fresh G3 n3) (hg : GOk G3) (hn : 7 ≤ n3) (g0 : fr.get 0 = some s) (k0 : Keep H n G3 n3) :
    Wp TE 116 (seqN 7 (body Tryz.f7)) fr G3 n3 (RetQ TE [.tmp 2] fun v H' n' => v = .bool true ∧ Keep H n H' n') := by
  simp [Tryz.f7, body, seqN, seqB, g0]
  refine (WCall.fresh f3 (blocks_spec hB hsm f3)).mono ?_
  rintro v G4 n4 ⟨hn4, f4, cv, es, rfl, hmap, hsl, hdat, k4⟩
  simp [g0]
  refine (WCall.fresh f4 (whole_spec (hB.kept f3 k4) hsm f4)).mono ?_
  rintro v G5 n5 ⟨hn5, f5, tv, sv, rfl, ht, hsp, k5⟩
  have hlen : (walk bs).1.length = es.length := by rw [← hmap, List.length_map]
  rw [hlen] at ht hsp
  have hsl5 := hsl.kept f4 k5
  have kk := k4.trans k5
  have hB5 : By G5 s bs := hB.kept f3 kk
  have hg5 : GOk G5 := hg.kept hn kk
  have hlE : es.length ≤ bs.length := by
    rw [← hlen]
    unfold walk
    split
    · exact wk_len bs _ _
    · exact Nat.zero_le _
  simp [g0, hsl5.len ty61, ht.len ty64]
  refine Wp_loop (fun k fr H' n' => ∃ (i : Nat), k = es.length - i ∧ i ≤ es.length ∧ fr.get 0 = some s ∧ fr.get 9 = some cv ∧ fr.get 12 = some tv ∧ fr.get 13 = some sv ∧ fr.get 14 = some (.int .i64 i) ∧ H' = G5 ∧ n' = n5) ?_ (k := es.length) ?_
  · rintro k fr H' n' ⟨i, rfl, hi, q0, q9, q12, q13, q14, rfl, rfl⟩
    by_cases hlt : i < es.length
    · have e : (i : Int) < es.length := by omega
      have e2 : wr .i64 ((i : Int) + 1) = (i + 1 : Nat) := by rw [wr_i64 (by omega) (by omega)]; omega
      simp [q0, q9, q12, q13, q14, hsl5.len ty61, e]
      refine Wp_drawn [0, 1, 2, 3, 4, 5, 6, 7, 8, 9, 10, 11, 12, 13, 14, 15, 16, 17, 18, 19, 20, 21, 22, 23, 24, 25, 26, 27, 28, 29, 30] [] (by kernel_rfl) f5 ?_
      have hw : (walk bs).1[i]'(by omega) = es[i].1 := by
        have : (walk bs).1[i]? = some es[i].1 := by rw [← hmap]; simp [hlt]
        rw [List.getElem?_eq_getElem (by omega)] at this
        exact Option.some.inj this
      have hok := wk_ok bs
      have hoke : es[i].1.2.1 ≤ es[i].1.2.2 ∧ es[i].1.2.2 ≤ bs.length := by
        rw [← hw]
        have hm : (walk bs).1[i]'(by omega) ∈ (walk bs).1 := List.getElem_mem _
        unfold walk at hm ⊢
        split at hm
        · rename_i hmk
          simp only [hmk, if_true] at hm ⊢
          exact hok _ _ _ hm
        · cases hm
      obtain ⟨b1, o1, hcv, x1, x2⟩ := hsl5.two hlt
      obtain ⟨b2, o2, hsv, y1, y2⟩ := hsp.two hlt
      have z1 := flat2 (fun e : (Nat × Nat × Nat) × Value => Value.int .i64 e.1.1) (fun e => e.2) es i hlt
      have z2 := flat2 (fun e : Nat × Nat × Nat => Value.int .i64 e.2.1) (fun e => Value.int .i64 e.2.2) (walk bs).1 i (by omega)
      rw [show (blkC es)[i * 2]? = _ from z1.1] at x1
      rw [show (blkC es)[i * 2 + 1]? = _ from z1.2] at x2
      rw [show (spC (walk bs).1)[i * 2]? = _ from z2.1, hw] at y1
      rw [show (spC (walk bs).1)[i * 2 + 1]? = _ from z2.2, hw] at y2
      have u1 := ht.index ty64 ty3 rfl (k := .i64) (i := (i : Int)) (by omega) (by omega)
      have u2 : ldS H' (adr tv i) = some (.int .i64 es[i].1.1) := by
        rw [ht.ldS (by omega)]
        simp [tyC, hlen, hlt, hw]
      simp only [Int.toNat_natCast, Nat.mul_one] at u1
      have u3 := hsl5.index ty61 ty69 rfl (k := .i64) (i := (i : Int)) (by omega) (by omega)
      have u4 := hsp.index ty65 ty71 rfl (k := .i64) (i := (i : Int)) (by omega) (by omega)
      simp only [Int.toNat_natCast, hcv] at u3
      simp only [Int.toNat_natCast, hsv] at u4
      have hd5 := (hdat.kept f4 k5) es[i] (List.getElem_mem hlt)
      obtain ⟨s', p1, p2⟩ := hB5.part (lo := some (.int .i64 es[i].1.2.1)) (hi := some (.int .i64 es[i].1.2.2)) (.inl rfl) (.inl rfl) hoke.1 hoke.2
      have hbs := bytes26_eq (n := n') hd5 p2 (by simp; omega) f5
      generalize es[i].1.1 = ti at *
      generalize es[i].1.2.1 = lo at *
      generalize es[i].1.2.2 = hi2 at *
      generalize es[i].2 = dv at *
      simp [q0, q9, q12, q13, q14, e, x1, x2, y1, y2, u1, u2, u3, u4, ix71_0, ix71_1, lSlice3, p1, hbs, e2, hlt]
      exact ⟨Sl.veq hd5, Sl.veq p2, es.length - (i + 1), by omega, i + 1, rfl, by omega, by omega⟩
    · have e : ¬ (i : Int) < es.length := by omega
      simp [q0, q9, q12, q13, q14, hsl5.len ty61, e]
      exact awake_call hg5 _ (by simp [k0.trans kk])
  · exact ⟨0, by simp [g0]⟩

theorem body7 : Tryz.f7.body = some (.seq (seqA (body Tryz.f7)) (.seq (seqA (seqN 1 (body Tryz.f7))) (.seq (seqA (seqN 2 (body Tryz.f7))) (.seq (seqA (seqN 3 (body Tryz.f7))) (.seq (seqA (seqN 4 (body Tryz.f7))) (.seq (seqA (seqN 5 (body Tryz.f7))) (.seq (seqA (seqN 6 (body Tryz.f7))) (seqN 7 (body Tryz.f7))))))))) := rfl

set_option maxHeartbeats 2000000 in
theorem scanBegins_law (h : By H s bs) (hf : Fresh H n) (hg : GOk H) (hn : 7 ≤ n) : WCall TE 7 [s] H n (fun v H' n' => v = .bool true ∧ Keep H n H' n') := by
  refine WCall_intro rfl fn7 body7 rfl ?_
  have htail := @tail7 H s bs n
  show Wp TE 116 _ _ _ _ (RetQ TE [.tmp 2] _)
  generalize seqN 7 (body Tryz.f7) = tl at htail ⊢
  by_cases h1 : 600 < (bs.length : Int)
  · simp [Tryz.f7, body, seqA, seqB, seqN, h.ln, h1]
    exact awake_call hg _ (by simp [Keep.refl])
  have hsm : bs.length < 1000000 := by omega
  simp [Tryz.f7, body, seqA, seqB, seqN, h.ln, h1]
  refine (WCall.fresh hf (info_spec h (by omega) hf)).mono ?_
  rintro v G n1 ⟨hn1, f1, rfl, k1⟩
  have hI := infoOf_is2 bs
  obtain ⟨I, hIe⟩ : ∃ I, I = infoOf bs := ⟨_, rfl⟩
  rw [← hIe] at hI ⊢
  obtain ⟨q, hq⟩ : ∃ q, q = decide (infoIs bs) := ⟨_, rfl⟩
  rw [← hq]
  have i1 := hI.len
  have i2 := hI.cell
  have i3 := infZero_is.len
  have i4 := infZero_is.cell
  simp [hAlloc, newB, buildInf0, st40new, i1, i2, i3, i4, List.length_replicate]
  generalize hG : (G.put n1 _).put (n1 + 1) _ = G2
  have k2 : Keep H n G2 (n1 + 1 + 1) := by
    rw [← hG]
    exact ⟨by have := k1.1; omega, fun b hb => by rw [T.get_put_ne _ _ (by have := k1.1; omega), T.get_put_ne _ _ (by have := k1.1; omega), k1.get hb]⟩
  have f2 : Fresh G2 (n1 + 1 + 1) := hG ▸ f1.new.new
  have ga : G2.get n1 = some (.cells I 40 .own) := by rw [← hG, T.get_put_ne _ _ (by omega)]; exact T.get_put_same _ _ _
  have gb : G2.get (n1 + 1) = some (.cells infZero 40 .own) := by rw [← hG]; exact T.get_put_same _ _ _
  clear hG
  have h2 : By G2 s bs := h.kept hf k2
  have hne := hI.ne
  have hz := infZero_is.ne
  have la := load_inf ga i1
  have lb := load_inf gb i3
  have hg2 : GOk G2 := hg.kept hn k2
  by_cases hh : hasInfo bs
  · obtain ⟨s', p1, p2⟩ := h2.part (lo := some (.int .i64 (8 : Nat))) (hi := some (.int .i64 (42 : Nat))) (l := 8) (u := 42) (.inl rfl) (.inl rfl) (by omega) hh.2.1
    have p1 : lSlice TE G2 22 (some s) (some (some (.int .i64 8))) (some (some (.int .i64 42))) = some s' := p1
    have hl34 : ((bs.drop 8).take 34).length = 34 := by have := hh.2.1; simp; omega
    simp [begins_eq h2 (by omega), hh, lSlice3, p1]
    refine (WCall.fresh f2 (infoRead_spec p2 hl34 f2)).mono ?_
    rintro v G4 n4 ⟨hn4, f4, rfl, k4⟩
    have hKi := infoOf_is hh
    obtain ⟨K, hK⟩ : ∃ K, K = (if infErr ((bs.drop 8).take 34) = 0 then infCells ((bs.drop 8).take 34) else infZero) := ⟨_, rfl⟩
    rw [← hK] at hKi
    have hp2 : (if infErr ((bs.drop 8).take (42 - 8)) = 0 then infCells ((bs.drop 8).take (42 - 8)) else infZero) = K := hK.symm
    rw [hp2]
    have hIK : I = K := by
      rw [hIe, hK]
      unfold infoOf
      by_cases he : infErr ((bs.drop 8).take 34) = 0
      · rw [if_pos (show infoIs bs from ⟨hh, he⟩), if_pos he]
      · rw [if_neg (fun x : infoIs bs => he x.2), if_neg he]
    have j1 := hKi.len
    have j2 := hKi.cell
    have ga4 : G4.get n1 = some (.cells I 40 .own) := by rw [k4.get (by omega)]; exact ga
    have gb4 : G4.get (n1 + 1) = some (.cells infZero 40 .own) := by rw [k4.get (by omega)]; exact gb
    have lk : ldA (G4.put n4 (.cells K 40 .own)) ⟨n4, 0, none⟩ 24 = some (.agg K.toArray) := load_inf (T.get_put_same _ _ _) j1
    have wk' : writeC (G4.put n4 (.cells K 40 .own)) ⟨n1 + 1, 0, none⟩ K = some ((G4.put n4 (.cells K 40 .own)).put (n1 + 1) (.cells K 40 .own)) :=
      store_inf (by rw [T.get_put_ne _ _ (by omega)]; exact gb4) i3 j1 j2
    obtain ⟨G5, hG5⟩ : ∃ G5, G5 = (G4.put n4 (.cells K 40 .own)).put (n1 + 1) (.cells K 40 .own) := ⟨_, rfl⟩
    rw [← hG5] at wk'
    have l5a : ldA G5 ⟨n1, 0, none⟩ 24 = some (.agg I.toArray) := load_inf (by rw [hG5, T.get_put_ne _ _ (by omega), T.get_put_ne _ _ (by omega)]; exact ga4) i1
    have l5b : ldA G5 ⟨n1 + 1, 0, none⟩ 24 = some (.agg K.toArray) := load_inf (by rw [hG5]; exact T.get_put_same _ _ _) j1
    have f5 : Fresh G5 (n4 + 1) := by
      rw [hG5]
      exact f4.new.old (by rw [T.get_put_ne _ _ (by omega)]; exact gb4)
    have k5 : Keep H n G5 (n4 + 1) := by
      have e1 := k1.1
      rw [hG5]
      exact ⟨by omega, fun b hb => by rw [T.get_put_ne _ _ (by omega), T.get_put_ne _ _ (by omega), k4.get (by omega), k2.get hb]⟩
    have hz2 : ∀ x y, lBin TE .neq 40 x y (some (.agg I.toArray)) (some (.agg K.toArray)) = some (.bool false) := fun x y => by
      rw [← hIK]
      exact hI.ne x y
    by_cases he : infErr ((bs.drop 8).take 34) = 0
    · have hq1 : q = true := by rw [hq]; simp [infoIs, hh, he]
      subst hq1
      simp [he, hAlloc, newB, st40new, j1, j2, List.length_replicate, lk, wk', l5a, l5b, hz2]
      exact htail (h.kept hf k5) hsm f5 (hg.kept hn k5) (by omega) (by simp) k5
    · have hq1 : q = false := by rw [hq]; simp [infoIs, hh, he]
      have hI0 : I = infZero := by rw [hIK, hK, if_neg he]
      subst hq1
      rw [hI0] at l5a
      simp [he, hAlloc, newB, st40new, j1, j2, List.length_replicate, lk, wk', l5a, l5b, buildInf0, hz]
      exact htail (h.kept hf k5) hsm f5 (hg.kept hn k5) (by omega) (by simp) k5
  · have hq0 : q = false := by rw [hq]; simp [infoIs, hh]
    have hI0 : I = infZero := by rw [hIe]; unfold infoOf; rw [if_neg (fun e => hh e.1)]
    subst hq0
    subst hI0
    simp [begins_eq h2 (by omega), hh, la, lb, buildInf0, hz, i3]
    exact htail h2 hsm f2 hg2 (by have := k2.1; omega) (by simp) k2
end Go.Ab
