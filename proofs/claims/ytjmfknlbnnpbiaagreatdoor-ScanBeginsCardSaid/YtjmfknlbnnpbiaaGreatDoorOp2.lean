/- Arithmetic and rules for runs of the evaluator. -/
import Derived.Test.YtjmfknlbnnpbiaaGreatDoorOp1

set_option linter.all false

/- Open runs: what single operations come to. -/
namespace Go.Ab
variable {E : Env} {H : Hp} {nt : Nat} {fr : Fr} {n : Nat}

/-! Operands. -/
theorem opv_tmp (t : Tmp) : opv E fr (.tmp t) = some ((fr.get t).getD undef) := rfl
theorem opv_func (f : FuncId) : opv E fr (.func f) = some (.func (.func f) #[] #[]) := rfl
theorem opv_int (k : IntKind) (x : Int) : opv E fr (.const (.int k x)) = some (.int k x) := rfl
theorem opv_bool (b : Bool) : opv E fr (.const (.bool b)) = some (.bool b) := rfl
theorem opv_string (s : ByteArray) : opv E fr (.const (.string s)) = some (.string s) := rfl
theorem opv_nilPtr : opv E fr (.const (.pointer none)) = some (.pointer none) := rfl
theorem opv_nilSlice (l c : Nat) : opv E fr (.const (.slice none l c)) = some (.slice none l c) := rfl
theorem opv_nilFunc : opv E fr (.const .nilFunc) = some .nilFunc := rfl
theorem opv_agg (cs : Array Value) : opv E fr (.const (.agg cs)) = cnd (cs.toList.all flat0) (some (.agg cs)) none := rfl
theorem opv_tuple (cs : Array Value) : opv E fr (.const (.tuple cs)) = cnd (cs.toList.all flat0) (some (.tuple cs)) none := rfl
theorem opv_global (g : Nat) : opv E fr (.global g) = cnd (Nat.blt g E.gs) (some (.pointer (some ⟨g, 0, none⟩))) none := rfl

/-! The operations. -/
@[simp] theorem PostM_lift_some {v : Value} {K} : PostM (lift (some v) H n) K ↔ K v H n := PostM_some
@[simp] theorem PostM_lift_none {K} : PostM (lift none H n) K ↔ False := PostM_none
theorem WOp_move {x K} : WOp E (.move x) fr H n K ↔ PostM (lift (opv E fr x) H n) K := WOp_noCall rfl
theorem WOp_assign {x K} : WOp E (.assign x) fr H n K ↔ PostM (lift (opv E fr x) H n) K := WOp_noCall rfl
theorem WOp_pick {c a b K} : WOp E (.pick c a b) fr H n K ↔ PostM (lift (lPick (opv E fr c) (opv E fr a) (opv E fr b)) H n) K := WOp_noCall rfl
theorem WOp_build {t ps K} : WOp E (.build t ps) fr H n K ↔ PostM (lift (lBuild E t (opvp E fr ps.toList)) H n) K := WOp_noCall rfl
theorem WOp_load {t a K} : WOp E (.load t a) fr H n K ↔ PostM (lift (lLoad E H t (opv E fr a)) H n) K := WOp_noCall rfl
theorem WOp_nilCheck {x K} : WOp E (.nilCheck x) fr H n K ↔ PostM (lift (lNil (opv E fr x)) H n) K := WOp_noCall rfl
theorem WOp_binOp {op t x y t2 K} : WOp E (.binOp op t x y t2) fr H n K ↔ PostM (lift (lBin E op t x y (opv E fr x) (opv E fr y)) H n) K := WOp_noCall rfl
theorem WOp_unOp {op t x K} : WOp E (.unOp op t x) fr H n K ↔ PostM (lift (lUn E op (opv E fr x)) H n) K := WOp_noCall rfl
theorem WOp_convert {s d x K} : WOp E (.convert s d x) fr H n K ↔ PostM (cConv E fr s d x H n) K := WOp_noCall rfl
theorem WOp_makeFunc {f a b K} : WOp E (.makeFunc f a b) fr H n K ↔ PostM (lift (lFunc E fr f a b) H n) K := WOp_noCall rfl
theorem WOp_slice {t x lo hi mx K} : WOp E (.slice t x lo hi mx) fr H n K ↔ PostM (lift (lSlice3 E H fr t x lo hi mx) H n) K := WOp_noCall rfl
theorem WOp_fieldAddr {s x f K} : WOp E (.fieldAddr s x f) fr H n K ↔ PostM (lift (lField E s f (opv E fr x)) H n) K := WOp_noCall rfl
theorem WOp_indexAddr {t x i K} : WOp E (.indexAddr t x i) fr H n K ↔ PostM (lift (lIndexA E t (opv E fr x) (opv E fr i)) H n) K := WOp_noCall rfl
theorem WOp_index {t x i K} : WOp E (.index t x i) fr H n K ↔ PostM (lift (lIndex E t (opv E fr x) (opv E fr i)) H n) K := WOp_noCall rfl
theorem WOp_extract {t i K} : WOp E (.extract t i) fr H n K ↔ PostM (lift (lExtract (opv E fr t) i) H n) K := WOp_noCall rfl
theorem WOp_alloc {e K} : WOp E (.alloc e) fr H n K ↔ PostM (hAlloc E H n e) K := WOp_noCall rfl
theorem WOp_box {e x K} : WOp E (.box e x) fr H n K ↔ PostM (hBox H n e (opv E fr x)) K := WOp_noCall rfl
theorem WOp_buildSlice {t l ps K} : WOp E (.buildSlice t l ps) fr H n K ↔ PostM (hBuildSlice E H n t l (opvp E fr ps.toList)) K := WOp_noCall rfl
theorem WOp_store {t a x K} : WOp E (.store t a x) fr H n K ↔ PostM (hStore E H n t (opv E fr a) (opv E fr x)) K := WOp_noCall rfl
theorem WOp_makeSlice {t l c K} : WOp E (.makeSlice t l c) fr H n K ↔ PostM (hMake E H n t (opv E fr l) (opv E fr c)) K := WOp_noCall rfl
theorem WOp_len {xs ts K} : WOp E (.call ⟨.builtin .len, xs, ts⟩) fr H n K ↔ PostM (lift (lBuiltin E H .len ts (opvs E fr xs.toList)) H n) K := WOp_noCall rfl
theorem WOp_cap {xs ts K} : WOp E (.call ⟨.builtin .cap, xs, ts⟩) fr H n K ↔ PostM (lift (lBuiltin E H .cap ts (opvs E fr xs.toList)) H n) K := WOp_noCall rfl
theorem WOp_min {xs ts K} : WOp E (.call ⟨.builtin .min, xs, ts⟩) fr H n K ↔ PostM (lift (lBuiltin E H .min ts (opvs E fr xs.toList)) H n) K := WOp_noCall rfl
theorem WOp_max {xs ts K} : WOp E (.call ⟨.builtin .max, xs, ts⟩) fr H n K ↔ PostM (lift (lBuiltin E H .max ts (opvs E fr xs.toList)) H n) K := WOp_noCall rfl
theorem WOp_append {xs ts K} : WOp E (.call ⟨.builtin .append, xs, ts⟩) fr H n K ↔ PostM (hBuiltin E H n .append ts (opvs E fr xs.toList)) K := WOp_noCall rfl
theorem WOp_copy {xs ts K} : WOp E (.call ⟨.builtin .copy, xs, ts⟩) fr H n K ↔ PostM (hBuiltin E H n .copy ts (opvs E fr xs.toList)) K := WOp_noCall rfl
theorem WOp_clear {xs ts K} : WOp E (.call ⟨.builtin .clear, xs, ts⟩) fr H n K ↔ PostM (hBuiltin E H n .clear ts (opvs E fr xs.toList)) K := WOp_noCall rfl

/-! Whole numbers. -/
theorem kindEq_refl (k : IntKind) : kindEq k k = true := by cases k <;> rfl
theorem same_refl (k : IntKind) (v : Option Value) : same k k v = v := by unfold same; rw [kindEq_refl]; rfl
variable {k : IntKind} {a b : Int}
theorem intOp_add : intOp .add k a k b = some (.int k (wr k (a + b))) := same_refl _ _
theorem intOp_sub : intOp .sub k a k b = some (.int k (wr k (a - b))) := same_refl _ _
theorem intOp_mul : intOp .mul k a k b = some (.int k (wr k (a * b))) := same_refl _ _
theorem intOp_eql : intOp .eql k a k b = some (.bool (decide (a = b))) := by
  show same k k (some (.bool (eqI a b))) = _
  rw [same_refl, eqI_eq]
theorem intOp_neq : intOp .neq k a k b = some (.bool (decide (a ≠ b))) := by
  show same k k (some (.bool (eqI a b).not)) = _
  rw [same_refl, eqI_eq]
  by_cases h : a = b <;> simp [h]
theorem intOp_lss : intOp .lss k a k b = some (.bool (decide (a < b))) := by
  show same k k (some (.bool (leI b a).not)) = _
  rw [same_refl, leI_eq]
  by_cases h : b ≤ a
  · simp [h, Int.not_lt.2 h]
  · simp [h, Int.not_le.1 h]
theorem intOp_leq : intOp .leq k a k b = some (.bool (decide (a ≤ b))) := by
  show same k k (some (.bool (leI a b))) = _
  rw [same_refl, leI_eq]
theorem intOp_gtr : intOp .gtr k a k b = some (.bool (decide (b < a))) := by
  show same k k (some (.bool (leI a b).not)) = _
  rw [same_refl, leI_eq]
  by_cases h : a ≤ b
  · simp [h, Int.not_lt.2 h]
  · simp [h, Int.not_le.1 h]
theorem intOp_geq : intOp .geq k a k b = some (.bool (decide (b ≤ a))) := by
  show same k k (some (.bool (leI b a))) = _
  rw [same_refl, leI_eq]
theorem intOp_rem (h : b ≠ 0) : intOp .rem k a k b = some (.int k (a.tmod b)) := by
  show same k k (semPure (Op.intDiv .rem k a b)) = _
  rw [same_refl]
  unfold Op.intDiv
  rw [if_neg h]
  rfl
theorem intOp_quo (h : b ≠ 0) : intOp .quo k a k b = some (.int k (wr k (a.tdiv b))) := by
  show same k k (semPure (Op.intDiv .quo k a b)) = _
  rw [same_refl, wr_eq]
  unfold Op.intDiv
  rw [if_neg h]
  rfl
theorem intOp_shl {k' : IntKind} (h0 : 0 ≤ b) (h : b ≤ 63) (hk : b ≤ bitsOf k) : intOp .shl k a k' b = some (.int k (wr k (a * 2 ^ b.toNat))) := by
  show shlV k a k' b = _
  obtain ⟨m, rfl⟩ := Int.eq_ofNat_of_zero_le h0
  show cnd (Nat.ble m 63 && Nat.ble m (bitsOf k)) _ _ = _
  rw [show (Nat.ble m 63 && Nat.ble m (bitsOf k)) = true by
    rw [Bool.and_eq_true]; exact ⟨Nat.ble_eq_true_of_le (by omega), Nat.ble_eq_true_of_le (by omega)⟩, cnd_true]
  congr 3
theorem intOp_shr {k' : IntKind} (h0 : 0 ≤ b) (h : b ≤ bitsOf k) : intOp .shr k a k' b = some (.int k (a / 2 ^ b.toNat)) := by
  obtain ⟨m, rfl⟩ := Int.eq_ofNat_of_zero_le h0
  have slow : ∀ a : Int, semPure (Op.shift .shr k a k' (m : Int)) = some (.int k (a / 2 ^ m)) := by
    intro a
    unfold Op.shift
    rw [if_neg (by omega)]
    have hm : m ≤ k.bits := by rw [bitsOf_eq] at h; omega
    simp only [Int.toNat_natCast, Nat.min_eq_left hm]
    have : (a.fdiv (2 ^ m)) = a / 2 ^ m := Int.fdiv_eq_ediv_of_nonneg _ (Int.le_of_lt (Int.pow_pos (by decide)))
    rw [this]
    rfl
  show shrV k a k' (m : Int) = _
  cases a with
  | ofNat x =>
    show cnd (Nat.ble m 63 && Nat.ble m (bitsOf k)) (some (.int k (.ofNat (Nat.div x (Nat.pow 2 m))))) (semPure (Op.shift .shr k (x : Int) k' (m : Int))) = _
    rw [slow, cnd_eq]
    split
    · rfl
    · simp
  | negSucc x =>
    show semPure (Op.shift .shr k (Int.negSucc x) k' (m : Int)) = _
    rw [slow]; simp

/-- Bit by bit, of numbers that are not below 0. -/
theorem natBits_nat {f : Nat → Nat → Nat} {s : Option Value} {x y : Nat} (hx : x ≤ maxN k) (hy : y ≤ maxN k) : natBits k f s x y = some (.int k (f x y : Nat)) := by
  show cnd (Nat.ble x (maxN k) && Nat.ble y (maxN k)) _ _ = _
  rw [Nat.ble_eq_true_of_le hx, Nat.ble_eq_true_of_le hy]
  rfl
theorem intOp_and (ha : 0 ≤ a) (ha2 : a ≤ maxN k) (hb : 0 ≤ b) (hb2 : b ≤ maxN k) : intOp .and k a k b = some (.int k (a.toNat &&& b.toNat : Nat)) := by
  obtain ⟨x, rfl⟩ := Int.eq_ofNat_of_zero_le ha
  obtain ⟨y, rfl⟩ := Int.eq_ofNat_of_zero_le hb
  show same k k (natBits k Nat.land _ _ _) = _
  rw [same_refl, natBits_nat (by omega) (by omega)]
  rfl
theorem intOp_or (ha : 0 ≤ a) (ha2 : a ≤ maxN k) (hb : 0 ≤ b) (hb2 : b ≤ maxN k) : intOp .or k a k b = some (.int k (a.toNat ||| b.toNat : Nat)) := by
  obtain ⟨x, rfl⟩ := Int.eq_ofNat_of_zero_le ha
  obtain ⟨y, rfl⟩ := Int.eq_ofNat_of_zero_le hb
  show same k k (natBits k Nat.lor _ _ _) = _
  rw [same_refl, natBits_nat (by omega) (by omega)]
  rfl
theorem intOp_xor (ha : 0 ≤ a) (ha2 : a ≤ maxN k) (hb : 0 ≤ b) (hb2 : b ≤ maxN k) : intOp .xor k a k b = some (.int k (a.toNat ^^^ b.toNat : Nat)) := by
  obtain ⟨x, rfl⟩ := Int.eq_ofNat_of_zero_le ha
  obtain ⟨y, rfl⟩ := Int.eq_ofNat_of_zero_le hb
  show same k k (natBits k Nat.xor _ _ _) = _
  rw [same_refl, natBits_nat (by omega) (by omega)]
  rfl

/-- Bit by bit, of any numbers. -/
noncomputable def bitI (op : BinOp) (k : IntKind) (a b : Int) : Int :=
  match intOp op k a k b with
  | some (.int _ r) => r
  | _ => 0
theorem natBits_some {f : Nat → Nat → Nat} {v : Int} {a b : Int} : ∃ r, natBits k f (some (.int k v)) a b = some (.int k r) := by
  unfold natBits
  split
  · split
    · rw [cnd_eq]; split <;> exact ⟨_, rfl⟩
    · exact ⟨_, rfl⟩
  · exact ⟨_, rfl⟩
theorem intBits_some (op : BinOp) (hop : op = .and ∨ op = .or ∨ op = .xor ∨ op = .andNot) : ∃ v, semPure (Op.intBits op k a b) = some (.int k v) := by
  rcases hop with rfl | rfl | rfl | rfl <;> exact ⟨_, rfl⟩
theorem intOp_bits (op : BinOp) (hop : op = .and ∨ op = .or ∨ op = .xor ∨ op = .andNot) : intOp op k a k b = some (.int k (bitI op k a b)) := by
  have : ∃ r, intOp op k a k b = some (.int k r) := by
    obtain ⟨v, hv⟩ := intBits_some (k := k) (a := a) (b := b) op hop
    rcases hop with rfl | rfl | rfl | rfl
    · show ∃ r, same k k (natBits k Nat.land (semPure (Op.intBits .and k a b)) a b) = _
      rw [same_refl, hv]; exact natBits_some
    · show ∃ r, same k k (natBits k Nat.lor (semPure (Op.intBits .or k a b)) a b) = _
      rw [same_refl, hv]; exact natBits_some
    · show ∃ r, same k k (natBits k Nat.xor (semPure (Op.intBits .xor k a b)) a b) = _
      rw [same_refl, hv]; exact natBits_some
    · show ∃ r, same k k (semPure (Op.intBits .andNot k a b)) = _
      rw [same_refl, hv]; exact ⟨_, rfl⟩
  obtain ⟨r, hr⟩ := this
  unfold bitI
  rw [hr]
theorem intOp_and' : intOp .and k a k b = some (.int k (bitI .and k a b)) := intOp_bits _ (by simp)
theorem intOp_or' : intOp .or k a k b = some (.int k (bitI .or k a b)) := intOp_bits _ (by simp)
theorem intOp_xor' : intOp .xor k a k b = some (.int k (bitI .xor k a b)) := intOp_bits _ (by simp)
theorem intOp_andNot' : intOp .andNot k a k b = some (.int k (bitI .andNot k a b)) := intOp_bits _ (by simp)
theorem bitI_and (ha : 0 ≤ a) (ha2 : a ≤ maxN k) (hb : 0 ≤ b) (hb2 : b ≤ maxN k) : bitI .and k a b = (a.toNat &&& b.toNat : Nat) := by
  have := intOp_and (k := k) ha ha2 hb hb2
  rw [intOp_and'] at this
  simpa using this
theorem bitI_or (ha : 0 ≤ a) (ha2 : a ≤ maxN k) (hb : 0 ≤ b) (hb2 : b ≤ maxN k) : bitI .or k a b = (a.toNat ||| b.toNat : Nat) := by
  have := intOp_or (k := k) ha ha2 hb hb2
  rw [intOp_or'] at this
  simpa using this
theorem bitI_xor (ha : 0 ≤ a) (ha2 : a ≤ maxN k) (hb : 0 ≤ b) (hb2 : b ≤ maxN k) : bitI .xor k a b = (a.toNat ^^^ b.toNat : Nat) := by
  have := intOp_xor (k := k) ha ha2 hb hb2
  rw [intOp_xor'] at this
  simpa using this

theorem maxN_i64 : (maxN .i64 : Int) = 9223372036854775807 := rfl
theorem maxN_u8 : (maxN .u8 : Int) = 255 := rfl
theorem maxN_u32 : (maxN .u32 : Int) = 4294967295 := rfl
theorem bitsOf_i64 : (bitsOf .i64 : Int) = 64 := by decide
theorem bitsOf_u8 : (bitsOf .u8 : Int) = 8 := by decide
theorem bitsOf_u32 : (bitsOf .u32 : Int) = 32 := by decide

theorem wr_i64 {x : Int} (h1 : -9223372036854775808 ≤ x) (h2 : x ≤ 9223372036854775807) : wr .i64 x = x := by
  rw [wr_eq]
  cases x with
  | ofNat m => exact wrap_small (k := .i64) (by
      have h2 : (m : Int) ≤ 9223372036854775807 := h2
      show m ≤ 9223372036854775807
      omega)
  | negSucc m =>
    have : wr .i64 (Int.negSucc m) = Int.negSucc m := by
      show cnd (Nat.ble m 9223372036854775807) _ _ = _
      rw [Nat.ble_eq_true_of_le (by omega)]
      rfl
    rw [← wr_eq]; exact this
theorem wr_u8 (x : Int) : wr .u8 x = x % 256 := by
  rw [wr_eq]; rfl
theorem wr_u32 (x : Int) : wr .u32 x = x % 4294967296 := by
  rw [wr_eq]; rfl

/-! Memory. -/
theorem addr_plus (b o m : Nat) : (⟨b, o, none⟩ : Addr).add m = ⟨b, o + m, none⟩ := by
  unfold Addr.add
  split
  · rename_i h; subst h; rfl
  · rfl
end Go.Ab

/- Open runs: rules to rewrite by. -/
namespace Go.Ab
variable {E : Env} {H : Hp} {nt : Nat} {fr : Fr} {n : Nat}

/-- What stands behind code a. -/
def SeqW (E : Env) (nt : Nat) (b : Code) (Q : Ex → Fr → Hp → Nat → Prop) : Ex → Fr → Hp → Nat → Prop := SeqQ (fun fr H n => Wp E nt b fr H n Q) Q
theorem SeqW_normal {b Q} : SeqW E nt b Q .normal fr H n ↔ Wp E nt b fr H n Q := Iff.rfl
theorem SeqW_exit {b Q i} : SeqW E nt b Q (.exit i) fr H n ↔ Q (.exit i) fr H n := Iff.rfl
theorem SeqW_ret {b Q} : SeqW E nt b Q .ret fr H n ↔ Q .ret fr H n := Iff.rfl

theorem wp_seq {a b : Code} {Q} : Wp E nt (.seq a b) fr H n Q ↔ Wp E nt a fr H n (SeqW E nt b Q) := by
  refine ⟨fun h => ?_, Wp_seq⟩
  obtain ⟨f, x, fr', H', n', h1, h2⟩ := h
  cases f with
  | zero => cases h1
  | succ f =>
    have h1 : seqK (evc E f nt b) (evc E f nt a fr H n) = some (x, fr', H', n') := h1
    cases h3 : evc E f nt a fr H n with
    | none => rw [h3] at h1; cases h1
    | some r =>
      obtain ⟨y, fr1, H1, n1⟩ := r
      rw [h3] at h1
      cases y with
      | normal => exact ⟨f, _, _, _, _, h3, f, _, _, _, _, h1, h2⟩
      | exit i => cases h1; exact ⟨f, _, _, _, _, h3, h2⟩
      | ret => cases h1; exact ⟨f, _, _, _, _, h3, h2⟩

/-- A loop, unfolded once. -/
theorem wp_loop {b : Code} {Q} : Wp E nt (.loop b) fr H n Q ↔ Wp E nt b fr H n (SeqW E nt (.loop b) Q) := by
  constructor
  · intro h
    obtain ⟨f, x, fr', H', n', h1, h2⟩ := h
    cases f with
    | zero => cases h1
    | succ f =>
      have h1 : seqK (evc E f nt (.loop b)) (evc E f nt b fr H n) = some (x, fr', H', n') := h1
      cases h3 : evc E f nt b fr H n with
      | none => rw [h3] at h1; cases h1
      | some r =>
        obtain ⟨y, fr1, H1, n1⟩ := r
        rw [h3] at h1
        cases y with
        | normal => exact ⟨f, _, _, _, _, h3, f, _, _, _, _, h1, h2⟩
        | exit i => cases h1; exact ⟨f, _, _, _, _, h3, h2⟩
        | ret => cases h1; exact ⟨f, _, _, _, _, h3, h2⟩
  · intro h
    obtain ⟨f, x, fr', H', n', h1, h2⟩ := seq_wp (a := b) (b := .loop b) h
    exact ⟨f + 1, x, fr', H', n', h1, h2⟩
theorem wp_scope {b : Code} {Q} : Wp E nt (.scope b) fr H n Q ↔ Wp E nt b fr H n Q := by
  refine ⟨fun h => ?_, Wp_scope⟩
  obtain ⟨f, x, fr', H', n', h1, h2⟩ := h
  cases f with
  | zero => cases h1
  | succ f => exact ⟨f, _, _, _, _, h1, h2⟩

/-- By what a truth tells. -/
def WCond (E : Env) (nt : Nat) (a b : Code) (fr : Fr) (H : Hp) (n : Nat) (Q : Ex → Fr → Hp → Nat → Prop) (v : Option Value) : Prop :=
  match v with
  | some (.bool t) => cnd t (Wp E nt a fr H n Q) (Wp E nt b fr H n Q)
  | _ => False
theorem WCond_true {a b Q} : WCond E nt a b fr H n Q (some (.bool true)) ↔ Wp E nt a fr H n Q := Iff.rfl
theorem WCond_false {a b Q} : WCond E nt a b fr H n Q (some (.bool false)) ↔ Wp E nt b fr H n Q := Iff.rfl

theorem wp_cond {x : Operand} {a b : Code} {Q} : Wp E nt (.cond x a b) fr H n Q ↔ WCond E nt a b fr H n Q (opv E fr x) := by
  constructor
  · intro h
    obtain ⟨f, y, fr', H', n', h1, h2⟩ := h
    cases f with
    | zero => cases h1
    | succ f =>
      have h1 : condK (opv E fr x) (evc E f nt a fr H n) (evc E f nt b fr H n) = some (y, fr', H', n') := h1
      unfold condK at h1
      split at h1
      · rename_i t hx
        rw [hx]
        cases t with
        | true => exact ⟨f, _, _, _, _, h1, h2⟩
        | false => exact ⟨f, _, _, _, _, h1, h2⟩
      · cases h1
  · intro h
    unfold WCond at h
    split at h
    · rename_i hx
      exact Wp_cond hx h
    · exact h.elim

theorem wp_block {id : Nat} {b : Code} {Q} : Wp E nt (.block id b) fr H n Q ↔ Wp E nt b fr H n (BlockQ id Q) := by
  refine ⟨fun h => ?_, Wp_block⟩
  obtain ⟨f, x, fr', H', n', h1, h2⟩ := h
  cases f with
  | zero => cases h1
  | succ f =>
    have h1 : blockK id (evc E f nt b fr H n) = some (x, fr', H', n') := h1
    cases h3 : evc E f nt b fr H n with
    | none => rw [h3] at h1; cases h1
    | some r =>
      obtain ⟨y, fr1, H1, n1⟩ := r
      rw [h3] at h1
      cases y with
      | normal => cases h1; exact ⟨f, _, _, _, _, h3, h2⟩
      | ret => cases h1; exact ⟨f, _, _, _, _, h3, h2⟩
      | exit i =>
        simp only [blockK] at h1
        refine ⟨f, _, _, _, _, h3, ?_⟩
        simp only [BlockQ]
        cases hb : i.beq id with
        | true => rw [hb] at h1; cases h1; exact h2
        | false => rw [hb] at h1; cases h1; exact h2

theorem BlockQ_exit_same {id Q} : BlockQ id Q (.exit id) = Q .normal := by simp [BlockQ]
theorem BlockQ_exit_ne {id i Q} (h : i ≠ id) : BlockQ id Q (.exit i) = Q (.exit i) := by
  have : i.beq id = false := by
    cases e : i.beq id with
    | false => rfl
    | true => exact absurd (Nat.eq_of_beq_eq_true e) h
  simp [BlockQ, this]

/-- What stands behind an operation. -/
def WStep (E : Env) (nt : Nat) (ops : Array Oper) (dst : Option Tmp) (os : List Oper) (fr : Fr) (K : Fr → Hp → Nat → Prop) : Value → Hp → Nat → Prop :=
  fun v H n => WPut nt fr dst v fun fr' => WOps E nt ops os fr' H n K
theorem WStep_none {ops os K v} : WStep E nt ops none os fr K v H n ↔ WOps E nt ops os fr H n K := WPut_none
theorem WStep_some {ops d os K v} : WStep E nt ops (some d) os fr K v H n ↔ d < nt ∧ WOps E nt ops os (fr.put d v) H n K := WPut_some

theorem WOps_nil {ops K} : WOps E nt ops [] fr H n K ↔ K fr H n := Iff.rfl
theorem WOps_cons {ops dst op ty pos aft os K} : WOps E nt ops (⟨dst, op, ty, pos, aft, none⟩ :: os) fr H n K ↔ WOp E op fr H n (WStep E nt ops dst os fr K) := Iff.rfl
/-- A guarded operation. -/
def WGuard (E : Env) (nt : Nat) (ops : Array Oper) (op : Op) (dst : Option Tmp) (os : List Oper) (fr : Fr) (H : Hp) (n : Nat) (K : Fr → Hp → Nat → Prop) (w : Bool) (v : Option Value) : Prop :=
  match v with
  | some (.bool t) => cnd (t == w) (WOp E op fr H n (WStep E nt ops dst os fr K)) (WStep E nt ops dst os fr K undef H n)
  | _ => WStep E nt ops dst os fr K undef H n
theorem WGuard_tt {ops op dst os K} : WGuard E nt ops op dst os fr H n K true (some (.bool true)) ↔ WOp E op fr H n (WStep E nt ops dst os fr K) := Iff.rfl
theorem WGuard_ff {ops op dst os K} : WGuard E nt ops op dst os fr H n K false (some (.bool false)) ↔ WOp E op fr H n (WStep E nt ops dst os fr K) := Iff.rfl
theorem WGuard_tf {ops op dst os K} : WGuard E nt ops op dst os fr H n K true (some (.bool false)) ↔ WStep E nt ops dst os fr K undef H n := Iff.rfl
theorem WGuard_ft {ops op dst os K} : WGuard E nt ops op dst os fr H n K false (some (.bool true)) ↔ WStep E nt ops dst os fr K undef H n := Iff.rfl

theorem WGuard_undef {ops op dst os K w} : WGuard E nt ops op dst os fr H n K w (some undef) ↔ WStep E nt ops dst os fr K undef H n := Iff.rfl
theorem WGuard_none {ops op dst os K w} : WGuard E nt ops op dst os fr H n K w none ↔ WStep E nt ops dst os fr K undef H n := Iff.rfl
def dstOf (o : Option Oper) : Option Tmp := o.bind (·.dst)
theorem dstOf_some {dst op ty pos aft g} : dstOf (some ⟨dst, op, ty, pos, aft, g⟩) = dst := rfl
noncomputable def gval (fr : Fr) (d : Option Tmp) : Option Value := d.bind fun d => fr.get d
theorem gval_some {d : Tmp} : gval fr (some d) = fr.get d := rfl

theorem wanted_some {ops : Array Oper} {dst op ty pos aft j w} {α : Type} (x y : α) : cnd (wanted ops fr ⟨dst, op, ty, pos, aft, some (j, w)⟩) x y = (match gval fr (dstOf ops[j]?) with | some (.bool t) => cnd (t == w) x y | _ => y) := by
  simp only [wanted, gval, dstOf]
  cases h1 : (ops[j]?).bind (·.dst) with
  | none => rfl
  | some d =>
    simp only [Option.bind_some]
    cases h2 : fr.get d with
    | none => rfl
    | some v => cases v <;> rfl

theorem WOps_guard {ops dst op ty pos aft j w os K} : WOps E nt ops (⟨dst, op, ty, pos, aft, some (j, w)⟩ :: os) fr H n K ↔
    WGuard E nt ops op dst os fr H n K w (gval fr (dstOf ops[j]?)) := by
  show cnd (wanted ops fr ⟨dst, op, ty, pos, aft, some (j, w)⟩) (WOp E op fr H n (WStep E nt ops dst os fr K)) (WStep E nt ops dst os fr K undef H n) ↔ _
  rw [wanted_some]
  exact Iff.rfl

theorem wp_region {id : Nat} {ops : Array Oper} {Q} : Wp E nt (.region id ops false) fr H n Q ↔ WOps E nt ops ops.toList fr H n (Q .normal) := by
  refine ⟨fun h => ?_, Wp_region⟩
  obtain ⟨f, x, fr', H', n', h1, h2⟩ := h
  cases f with
  | zero => cases h1
  | succ f =>
    have h1 : opsF E (evc E f) nt ops ops.toList fr H n = some (x, fr', H', n') := h1
    have key : ∀ {l : List Oper} {fr H n x fr' H' n'}, opsF E (evc E f) nt ops l fr H n = some (x, fr', H', n') → Q x fr' H' n' → WOps E nt ops l fr H n (Q .normal) := by
      intro l
      induction l with
      | nil => intro fr H n x fr' H' n' h q; cases h; exact q
      | cons o os ih =>
        intro fr H n x fr' H' n' h q
        have h : putK nt o (opsF E (evc E f) nt ops os) fr (cnd (wanted ops fr o) (oper o.op E (evc E f) fr H n) (some (undef, H, n))) = some (x, fr', H', n') := h
        show cnd (wanted ops fr o) (WOp E o.op fr H n (WStep E nt ops o.dst os fr (Q .normal))) (WStep E nt ops o.dst os fr (Q .normal) undef H n)
        unfold putK at h
        split at h
        · rename_i h2
          split at h
          · rename_i fr1 h3
            have h4 := ih h q
            rw [cnd_eq] at h2
            split at h2
            · rename_i hw
              rw [hw]
              exact ⟨f, _, _, _, h2, fr1, h3, h4⟩
            · rename_i hw
              have hw : wanted ops fr o = false := by simpa using hw
              rw [hw]
              cases h2
              exact ⟨fr1, h3, h4⟩
          · cases h
        · cases h
    exact key h1 h2

/-- What stands behind an operation of a region that draws. -/
def WDS (E : Env) (nt : Nat) (ops : Array Oper) (obl : List (Nat × Nat × Nat)) (op : Op) (dst : Option Tmp) (xs : List Nat) (tr : List St) (fr : Fr) (H : Hp) (n : Nat) (K : Fr → Hp → Nat → Prop) : Value → Hp → Nat → Prop :=
  fun v H' n' => (isFresh E op = true → n' = n + 1) ∧ (isRead op = true → veq v v = true) ∧
    WPut nt fr dst v fun fr' => WD E nt ops obl xs (tr ++ [⟨fr, H, n, some v⟩]) fr' H' n' K
def WDSkip (E : Env) (nt : Nat) (ops : Array Oper) (obl : List (Nat × Nat × Nat)) (dst : Option Tmp) (xs : List Nat) (tr : List St) (fr : Fr) (H : Hp) (n : Nat) (K : Fr → Hp → Nat → Prop) : Prop :=
  WPut nt fr dst undef fun fr' => WD E nt ops obl xs (tr ++ [⟨fr, H, n, none⟩]) fr' H n K
theorem WDSkip_some {ops obl d xs tr K} : WDSkip E nt ops obl (some d) xs tr fr H n K ↔ d < nt ∧ WD E nt ops obl xs (tr ++ [⟨fr, H, n, none⟩]) (fr.put d undef) H n K := WPut_some
theorem WDSkip_none {ops obl xs tr K} : WDSkip E nt ops obl none xs tr fr H n K ↔ WD E nt ops obl xs (tr ++ [⟨fr, H, n, none⟩]) fr H n K := WPut_none
/-- Whether there is something to show of what an operation of this kind gives. -/
def WDFresh (b : Bool) (n' n : Nat) : Prop := b = true → n' = n + 1
theorem WDFresh_true {m k : Nat} : WDFresh true m k ↔ m = k + 1 := by simp [WDFresh]
theorem WDFresh_false {m k : Nat} : WDFresh false m k ↔ True := by simp [WDFresh]
def WDRead (b : Bool) (v : Value) : Prop := b = true → veq v v = true
theorem WDRead_true {v : Value} : WDRead true v ↔ veq v v = true := by simp [WDRead]
theorem WDRead_false {v : Value} : WDRead false v ↔ True := by simp [WDRead]
theorem WDS_some {ops obl op d xs tr K v} {H' : Hp} {n' : Nat} : WDS E nt ops obl op (some d) xs tr fr H n K v H' n' ↔ WDFresh (isFresh E op) n' n ∧ WDRead (isRead op) v ∧ d < nt ∧ WD E nt ops obl xs (tr ++ [⟨fr, H, n, some v⟩]) (fr.put d v) H' n' K := by
  unfold WDS
  rw [WPut_some]
  exact Iff.rfl
theorem WDS_none {ops obl op xs tr K v} {H' : Hp} {n' : Nat} : WDS E nt ops obl op none xs tr fr H n K v H' n' ↔ WDFresh (isFresh E op) n' n ∧ WDRead (isRead op) v ∧ WD E nt ops obl xs (tr ++ [⟨fr, H, n, some v⟩]) fr H' n' K := by
  unfold WDS
  rw [WPut_none]
  exact Iff.rfl

/-- The next of a region that draws. -/
def WDO (E : Env) (nt : Nat) (ops : Array Oper) (obl : List (Nat × Nat × Nat)) (xs : List Nat) (tr : List St) (fr : Fr) (H : Hp) (n : Nat) (K : Fr → Hp → Nat → Prop) (o : Option Oper) : Prop :=
  match o with
  | some o => cnd (wanted ops fr o) (WOp E o.op fr H n (WDS E nt ops obl o.op o.dst xs tr fr H n K)) (WDSkip E nt ops obl o.dst xs tr fr H n K)
  | none => False
def WDGuard (E : Env) (nt : Nat) (ops : Array Oper) (obl : List (Nat × Nat × Nat)) (op : Op) (dst : Option Tmp) (xs : List Nat) (tr : List St) (fr : Fr) (H : Hp) (n : Nat) (K : Fr → Hp → Nat → Prop) (w : Bool) (v : Option Value) : Prop :=
  match v with
  | some (.bool t) => cnd (t == w) (WOp E op fr H n (WDS E nt ops obl op dst xs tr fr H n K)) (WDSkip E nt ops obl dst xs tr fr H n K)
  | _ => WDSkip E nt ops obl dst xs tr fr H n K
theorem WD_nil {ops obl tr K} : WD E nt ops obl [] tr fr H n K ↔ K fr H n ∧ Obls E ops tr H obl := Iff.rfl
theorem WD_cons {ops obl i xs tr K} : WD E nt ops obl (i :: xs) tr fr H n K ↔ WDO E nt ops obl xs tr fr H n K ops[i]? := by
  simp only [WD, WDO]
  cases ops[i]? <;> exact Iff.rfl
theorem WDO_some {ops obl dst op ty pos aft xs tr K} : WDO E nt ops obl xs tr fr H n K (some ⟨dst, op, ty, pos, aft, none⟩) ↔ WOp E op fr H n (WDS E nt ops obl op dst xs tr fr H n K) := Iff.rfl
theorem WDO_guard {ops obl dst op ty pos aft j w xs tr K} : WDO E nt ops obl xs tr fr H n K (some ⟨dst, op, ty, pos, aft, some (j, w)⟩) ↔ WDGuard E nt ops obl op dst xs tr fr H n K w (gval fr (dstOf ops[j]?)) := by
  simp only [WDO]
  rw [wanted_some]
  exact Iff.rfl
section
variable {ops : Array Oper} {obl : List (Nat × Nat × Nat)} {op : Op} {dst : Option Tmp} {xs : List Nat} {tr : List St} {K : Fr → Hp → Nat → Prop} {w : Bool}
theorem WDGuard_tt : WDGuard E nt ops obl op dst xs tr fr H n K true (some (.bool true)) ↔ WOp E op fr H n (WDS E nt ops obl op dst xs tr fr H n K) := Iff.rfl
theorem WDGuard_ff : WDGuard E nt ops obl op dst xs tr fr H n K false (some (.bool false)) ↔ WOp E op fr H n (WDS E nt ops obl op dst xs tr fr H n K) := Iff.rfl
theorem WDGuard_tf : WDGuard E nt ops obl op dst xs tr fr H n K true (some (.bool false)) ↔ WDSkip E nt ops obl dst xs tr fr H n K := Iff.rfl
theorem WDGuard_ft : WDGuard E nt ops obl op dst xs tr fr H n K false (some (.bool true)) ↔ WDSkip E nt ops obl dst xs tr fr H n K := Iff.rfl
theorem WDGuard_undef : WDGuard E nt ops obl op dst xs tr fr H n K w (some undef) ↔ WDSkip E nt ops obl dst xs tr fr H n K := Iff.rfl
theorem WDGuard_none : WDGuard E nt ops obl op dst xs tr fr H n K w none ↔ WDSkip E nt ops obl dst xs tr fr H n K := Iff.rfl
end
theorem Obls_nil {ops tr} : Obls E ops tr H [] ↔ True := Iff.rfl
theorem Obls_cons {ops tr j i h r} : Obls E ops tr H ((j, i, h) :: r) ↔ OblAt E ops tr H j i h ∧ Obls E ops tr H r := Iff.rfl
def OblV (E : Env) (G : Hp) (o : Option Oper) (s : Option St) : Prop :=
  match s, o with
  | some s, some o => (match s.v with
    | some v => light o.op E G s.fr = some v
    | none => True)
  | _, _ => False
theorem OblAt_eq {ops tr j i h} : OblAt E ops tr H j i h ↔ OblV E (heapAt tr H h) ops[i]? tr[j]? := by
  unfold OblAt OblV
  cases tr[j]? <;> cases ops[i]? <;> exact Iff.rfl
theorem OblV_some {G : Hp} {dst op ty pos aft g} {k : Nat} {v : Value} : OblV E G (some ⟨dst, op, ty, pos, aft, g⟩) (some ⟨fr, H, k, some v⟩) ↔ light op E G fr = some v := Iff.rfl
theorem OblV_none {G : Hp} {o : Oper} {k : Nat} : OblV E G (some o) (some ⟨fr, H, k, none⟩) ↔ True := Iff.rfl

/-! Calls. -/
theorem run_mono {f f' : Nat} (h : f ≤ f') {g : FuncId} {args : List Value} {r} (e : run E f g args H n = some r) : run E f' g args H n = some r := callF_mono (evc_le E h) e
theorem WCall.pure {g : FuncId} {args : List Value} {v : Value} {H' : Hp} {n' : Nat} (h : WCall E g args H n (fun w G k => w = v ∧ G = H' ∧ k = n')) (K : Value → Hp → Nat → Prop) : WCall E g args H n K ↔ K v H' n' := by
  constructor
  · rintro ⟨f, w, G, k, h1, h2⟩
    obtain ⟨f2, w2, G2, k2, h3, rfl, rfl, rfl⟩ := h
    have e1 := run_mono (Nat.le_max_left f f2) h1
    have e2 := run_mono (Nat.le_max_right f f2) h3
    rw [e1] at e2
    cases e2
    exact h2
  · intro hk
    exact h.mono (by rintro w G k ⟨rfl, rfl, rfl⟩; exact hk)
def WCallO (E : Env) (g : FuncId) (vs : Option (List Value)) (H : Hp) (n : Nat) (K : Value → Hp → Nat → Prop) : Prop :=
  match vs with
  | some vs => WCall E g vs H n K
  | none => False
theorem WCallO_some {g vs K} : WCallO E g (some vs) H n K ↔ WCall E g vs H n K := Iff.rfl
theorem WOp_callF {g : FuncId} {xs : Array Operand} {ts : Array TypeId} {K} : WOp E (.call ⟨.value (.func g), xs, ts⟩) fr H n K ↔ WCallO E g (opvs E fr xs.toList) H n K := by
  cases hv : opvs E fr xs.toList with
  | none =>
    simp only [WCallO, iff_false]
    rintro ⟨f, h⟩
    have h : PostM (callO E (evc E f) (some (.func (.func g) #[] #[])) (opvs E fr xs.toList) H n) K := h
    rw [hv] at h
    obtain ⟨_, _, _, h, _⟩ := h
    cases h
  | some vs =>
    simp only [WCallO]
    refine ⟨fun h => ?_, WOp_call_func hv⟩
    obtain ⟨f, h⟩ := h
    refine ⟨f, ?_⟩
    have h : PostM (callO E (evc E f) (some (.func (.func g) #[] #[])) (opvs E fr xs.toList) H n) K := h
    rw [hv] at h
    have h : PostM (callF E (evc E f) g ([] ++ vs ++ []) H n) K := h
    rw [List.nil_append, List.append_nil] at h
    exact h
def WValO (E : Env) (v : Option Value) (vs : Option (List Value)) (H : Hp) (n : Nat) (K : Value → Hp → Nat → Prop) : Prop :=
  match v, vs with
  | some v, some vs => WVal E v vs H n K
  | _, _ => False
theorem WValO_some {v vs K} : WValO E (some v) (some vs) H n K ↔ WVal E v vs H n K := Iff.rfl
theorem WOp_callT {t : Tmp} {xs : Array Operand} {ts : Array TypeId} {K} : WOp E (.call ⟨.value (.tmp t), xs, ts⟩) fr H n K ↔ WValO E (opv E fr (.tmp t)) (opvs E fr xs.toList) H n K := by
  have key : ∀ f, oper (.call ⟨.value (.tmp t), xs, ts⟩) E (evc E f) fr H n = callO E (evc E f) (opv E fr (.tmp t)) (opvs E fr xs.toList) H n := fun _ => rfl
  unfold WOp
  simp only [key]
  cases hx : opv E fr (.tmp t) with
  | none =>
    simp only [WValO, iff_false]
    rintro ⟨f, _, _, _, h, _⟩
    cases h
  | some v =>
    cases hv : opvs E fr xs.toList with
    | none =>
      simp only [WValO, iff_false]
      rintro ⟨f, _, _, _, h, _⟩
      cases h
    | some vs => exact Iff.rfl
end Go.Ab
