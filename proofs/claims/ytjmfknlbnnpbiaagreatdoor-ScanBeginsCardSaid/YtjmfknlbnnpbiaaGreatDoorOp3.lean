/- Slices that are read, lists that grow. -/
import Derived.Test.YtjmfknlbnnpbiaaGreatDoorOpT
import Derived.Test.YtjmfknlbnnpbiaaGreatDoorOp2

set_option linter.all false

/- Open runs: the rules, told to the simplifier. -/
namespace Go.Ab
variable {E : Env} {H : Hp} {nt : Nat} {fr : Fr} {n : Nat}
attribute [simp] wp_seq wp_scope wp_cond wp_block wp_region Wp_skip Wp_label Wp_exit Wp_ret SeqW_normal SeqW_exit SeqW_ret BlockQ_exit_same BlockQ_exit_ne WCond_true WCond_false
attribute [simp] WOps_nil WOps_cons WOps_guard WStep_none WStep_some WGuard_tt WGuard_ff WGuard_tf WGuard_ft dstOf_some gval_some
attribute [simp] WD_nil WD_cons WDO_some WDO_guard WDS_some WDS_none WDSkip_some WDSkip_none WDFresh_true WDFresh_false WDRead_true WDRead_false Obls_nil Obls_cons OblAt_eq OblV_some OblV_none heapAt light WDGuard_tt WDGuard_ff WDGuard_tf WDGuard_ft
attribute [simp] opv_tmp opv_func opv_int opv_bool opv_string opv_nilPtr opv_nilSlice opv_nilFunc opv_agg opv_tuple opv_global
attribute [simp] WOp_move WOp_assign WOp_pick WOp_build WOp_load WOp_nilCheck WOp_binOp WOp_unOp WOp_convert WOp_makeFunc WOp_slice WOp_fieldAddr WOp_indexAddr WOp_index WOp_extract WOp_alloc WOp_box WOp_buildSlice WOp_store WOp_makeSlice WOp_len WOp_cap WOp_min WOp_max WOp_append WOp_copy WOp_clear
attribute [simp] T.get_put addr_plus intOp_add intOp_sub intOp_mul intOp_eql intOp_neq intOp_lss intOp_leq intOp_gtr intOp_geq
attribute [simp] putArgs resOf tupOf opvs opvp oopv isFresh isRead flat0 scal cell1
attribute [simp] lPick lBuild lMk lExtract lNil intO

attribute [simp] intOp_shl intOp_shr intOp_rem intOp_quo intOp_and' intOp_or' intOp_xor' intOp_andNot' bitsOf_i64 bitsOf_u8 bitsOf_u32 wr_u8 wr_u32 cConv convHeavy
theorem T.set_set {α : Type} (v w : α) : ∀ (f : Nat) (t : T α) (k : Nat), T.set f w (T.set f v t k) k = T.set f w t k := by
  intro f
  induction f with
  | zero => intro t k; rfl
  | succ f ih =>
    intro t k
    by_cases h0 : k = 0
    · subst h0
      cases t with
      | leaf => simp [T.set_leaf, T.set_node]
      | node l o r => simp [T.set_node]
    · by_cases h1 : k % 2 = 1
      · cases t with
        | leaf => simp [T.set_leaf, T.set_node, h0, h1, ih]
        | node l o r => simp [T.set_node, h0, h1, ih]
      · cases t with
        | leaf => simp [T.set_leaf, T.set_node, h0, h1, ih]
        | node l o r => simp [T.set_node, h0, h1, ih]
@[simp] theorem T.put_put {α : Type} (t : T α) (k : Nat) (v w : α) : (t.put k v).put k w = t.put k w := T.set_set v w _ t k
@[simp] theorem cnd_same {α : Type} (b : Bool) (x : α) : cnd b x x = x := by cases b <;> rfl
@[simp] theorem veq_slice (a : Option Addr) (l c : Nat) : veq (.slice a l c) (.slice a l c) = true := by
  show (decide (a = a) && decide (l = l) && decide (c = c)) = true
  simp
@[simp] theorem veq_int (k : IntKind) (x : Int) : veq (.int k x) (.int k x) = true := by
  show (decide (k = k) && decide (x = x)) = true
  simp
@[simp] theorem veq_bool (b : Bool) : veq (.bool b) (.bool b) = true := by cases b <;> rfl
@[simp] theorem veq_string (b : ByteArray) : veq (.string b) (.string b) = true := by
  show decide (b = b) = true
  simp
@[simp] theorem veq_ptr (a : Option Addr) : veq (.pointer a) (.pointer a) = true := by
  show decide (a = a) = true
  simp
theorem veqs_self : ∀ {l : List Value}, (∀ v ∈ l, veq0 v v = true) → veqs l l = true
  | [], _ => rfl
  | v :: l, h => by
    show (veq0 v v && veqs l l) = true
    rw [h v (List.mem_cons_self ..), veqs_self fun x hx => h x (List.mem_cons_of_mem _ hx)]; rfl
theorem veq_agg {cs : Array Value} (h : ∀ v ∈ cs.toList, veq0 v v = true) : veq (.agg cs) (.agg cs) = true := veqs_self h
@[simp] theorem veq0_int (k : IntKind) (x : Int) : veq0 (.int k x) (.int k x) = true := veq_int k x
@[simp] theorem veq0_bool (b : Bool) : veq0 (.bool b) (.bool b) = true := veq_bool b
@[simp] theorem veq0_slice (a : Option Addr) (l c : Nat) : veq0 (.slice a l c) (.slice a l c) = true := veq_slice a l c
@[simp] theorem veq0_ptr (a : Option Addr) : veq0 (.pointer a) (.pointer a) = true := veq_ptr a
@[simp] theorem bleDec (a b : Nat) : Nat.ble a b = decide (a ≤ b) := by
  by_cases h : a ≤ b
  · rw [Nat.ble_eq_true_of_le h]; simp [h]
  · have : Nat.ble a b = false := by
      cases e : Nat.ble a b with
      | false => rfl
      | true => exact absurd (Nat.le_of_ble_eq_true e) h
    simp [h, this]
@[simp] theorem beqDec (a b : Nat) : Nat.beq a b = decide (a = b) := by
  by_cases h : a = b
  · subst h; rw [Nat.beq_refl]; simp
  · have : Nat.beq a b = false := by
      cases e : Nat.beq a b with
      | false => rfl
      | true => exact absurd (Nat.eq_of_beq_eq_true e) h
    simp [h, this]
attribute [simp] wr_i64
@[simp] theorem bltDec (a b : Nat) : Nat.blt a b = decide (a < b) := by
  show Nat.ble (a + 1) b = _
  rw [bleDec]
  rfl
attribute [simp] WGuard_undef WGuard_none WDGuard_undef WDGuard_none WOp_callF WOp_callT WCallO_some WValO_some WVal_func
@[simp] theorem bitsOf_u64 : (bitsOf .u64 : Int) = 64 := by decide
@[simp] theorem wr_byte (b : UInt8) : wr .i64 (b.toNat : Int) = b.toNat := wr_i64 (by omega) (by have := b.toNat_lt; omega)
@[simp] theorem lConv_int {H s d k a} : lConv E H s d (some (.int k a)) = convI E s d a := rfl
theorem convI_eq {s d : TypeId} {ts : TI} {sz : Nat} {g : Bool} {z : List Value} {k : IntKind} {b : Nat} (hs : E.types s = some ts) (hd : E.types d = some ⟨sz, g, z, .int k, b⟩) (a : Int) : convI E s d a = some (.int k (wr k a)) := by
  unfold convI; rw [hs, hd]
@[simp] theorem lBin_int {op t x y k k' a b} : lBin E op t x y (some (.int k a)) (some (.int k' b)) = intOp op k a k' b := rfl
@[simp] theorem lBin_ptr_nil {op t x y a} : lBin E op t x y (some (.pointer (some a))) (some (.pointer none)) = cnd (isPtr E t) (nilEq op false) none := rfl
@[simp] theorem lBin_nil_ptr {op t x y b} : lBin E op t x y (some (.pointer none)) (some (.pointer b)) = cnd (isPtr E t) (nilEq op b.isNone) none := rfl
@[simp] theorem lBin_slice_nil {op t x y a l c l' c'} : lBin E op t x y (some (.slice (some a) l c)) (some (.slice none l' c')) = cnd (isSlice E t) (nilEq op false) none := rfl
@[simp] theorem lBin_nil_slice {op t x y b l c l' c'} : lBin E op t x y (some (.slice none l c)) (some (.slice b l' c')) = cnd (isSlice E t) (nilEq op b.isNone) none := rfl
@[simp] theorem nilEq_eql {b : Bool} : nilEq .eql b = some (.bool b) := rfl
@[simp] theorem nilEq_neq {b : Bool} : nilEq .neq b = some (.bool !b) := rfl
attribute [simp] isPtr isSlice isIntT isStr isU8
@[simp] theorem lLoad_ptr {t a} : lLoad E H t (some (.pointer (some a))) = loadV E H t a := rfl
theorem lIndexA_some {t v j} : lIndexA E t (some v) (some j) = ptrTo (indexPl E t v j) := rfl
@[simp] theorem ptrTo_val {a} : ptrTo (some a) = some (.pointer (some a)) := rfl
@[simp] theorem ptrTo_cnd {c : Bool} {a} : ptrTo (cnd c (some a) none) = cnd c (some (.pointer (some a))) none := by cases c <;> rfl
@[simp] theorem undo_some {H'} : undo (some H') n = some (undef, H', n) := rfl
@[simp] theorem undo_none : undo none n = none := rfl
@[simp] theorem hStore_ptr {t p v} : hStore E H n t (some (.pointer (some p))) (some v) = undo (storeV E H t p v) n := rfl
@[simp] theorem lLen_eq {ts x} : lBuiltin E H .len ts (some [x]) = lLen E ts[0]? x := rfl
theorem lLen_some {t x} : lLen E (some t) x = (match E.types t with | some ti => lenD ti.desc x | none => none) := rfl
@[simp] theorem lenD_slice {e a m c} : lenD (.slice e) (.slice a m c) = some (goInt m) := rfl
@[simp] theorem lenD_string {s} : lenD .string (.string s) = some (goInt s.size) := rfl
@[simp] theorem lenD_array {m e x} : lenD (.array m e) x = some (goInt m) := by cases x <;> rfl
@[simp] theorem cells_int {k a} : Value.cells (.int k a) = #[.int k a] := rfl
@[simp] theorem cells_bool {b} : Value.cells (.bool b) = #[.bool b] := rfl
@[simp] theorem cells_ptr {a} : Value.cells (.pointer a) = #[.pointer a] := rfl
@[simp] theorem cells_slice {a l c} : Value.cells (.slice a l c) = #[.slice a l c] := rfl
@[simp] theorem cells_func {f a c} : Value.cells (.func f a c) = #[.func f a c] := rfl
@[simp] theorem cells_agg {cs} : Value.cells (.agg cs) = cs := rfl
theorem writeC_one {a : Addr} {v : Value} {c : List Value} {e k} (h : H.get a.block = some (.cells c e k)) (hk : k ≠ .ro) (hv : cell1 v = true) (ho : a.off < c.length) : writeC H a [v] = some (H.put a.block (.cells (c.set a.off v) e k)) := by
  have e1 : c.take a.off ++ ([v] ++ c.drop (a.off + 1)) = c.set a.off v := by
    rw [List.set_eq_take_append_cons_drop, if_pos ho]; rfl
  unfold writeC
  rw [h]
  cases k with
  | ro => exact absurd rfl hk
  | _ =>
    simp only [List.all_cons, List.all_nil, hv, List.length_singleton, e1]
    rw [Nat.ble_eq_true_of_le ho]
    rfl
theorem ldS_of {a : Addr} {c : List Value} {e k} (h : H.get a.block = some (.cells c e k)) : ldS H a = c[a.off]? := by
  unfold ldS; rw [h]
theorem ldA_of {a : Addr} {c : List Value} {e k} {m : Nat} (h : H.get a.block = some (.cells c e k)) (hm : a.off + (m + 1) ≤ c.length) : ldA H a (m + 1) = some (.agg ((c.drop a.off).take (m + 1)).toArray) := by
  unfold ldA readC; rw [h]
  simp only [Nat.ble_eq_true_of_le hm, cnd_true]
theorem readC_of {a : Addr} {c : List Value} {e k} (h : H.get a.block = some (.cells c e k)) {m : Nat} (hm : a.off + m ≤ c.length) : readC H a m = some ((c.drop a.off).take m) := by
  unfold readC
  cases m with
  | zero => simp
  | succ m =>
    rw [h]
    simp only [bleDec, hm, decide_true, cnd_true]
theorem writeC_of {a : Addr} {vs : List Value} {c : List Value} {e k} (h : H.get a.block = some (.cells c e k)) (hk : k ≠ .ro) (hv : vs.all cell1 = true) (h0 : vs ≠ []) (hl : a.off + vs.length ≤ c.length) : writeC H a vs = some (H.put a.block (.cells (c.take a.off ++ (vs ++ c.drop (a.off + vs.length))) e k)) := by
  cases vs with
  | nil => exact absurd rfl h0
  | cons v vs =>
    unfold writeC
    rw [h]
    cases k with
    | ro => exact absurd rfl hk
    | _ =>
      simp only [hv, bleDec, hl, decide_true]
      rfl
theorem ldA_get {a : Addr} {c : List Value} {e k} (h : H.get a.block = some (.cells c e k)) {m : Nat} (hm : a.off + m ≤ c.length) : ldA H a m = some (.agg ((c.drop a.off).take m).toArray) := by
  unfold ldA; rw [readC_of h hm]
theorem ldS_at {b : Nat} {c : List Value} {e k} (h : H.get b = some (.cells c e k)) (o : Nat) : ldS H ⟨b, o, none⟩ = c[o]? := ldS_of (a := ⟨b, o, none⟩) h
end Go.Ab

/- Open runs: slices that are read, lists that grow. -/
namespace Go.Ab
variable {H H' : Hp} {n n' : Nat}

/-- What was there is there. -/
def Keep (H : Hp) (n : Nat) (H' : Hp) (n' : Nat) : Prop := n ≤ n' ∧ ∀ b, b < n → H'.get b = H.get b
theorem Keep.refl (H : Hp) (n : Nat) : Keep H n H n := ⟨Nat.le_refl _, fun _ _ => rfl⟩
theorem Keep.trans {H1 H2 H3 : Hp} {n1 n2 n3 : Nat} (h : Keep H1 n1 H2 n2) (h' : Keep H2 n2 H3 n3) : Keep H1 n1 H3 n3 :=
  ⟨Nat.le_trans h.1 h'.1, fun b hb => (h'.2 b (Nat.lt_of_lt_of_le hb h.1)).trans (h.2 b hb)⟩
theorem Keep.put {b : Nat} {X : Blk} (hb : n ≤ b) (hn : b < n') : Keep H n (H.put b X) n' :=
  ⟨by omega, fun c hc => T.get_put_ne _ _ (by omega)⟩
theorem Keep.new (X : Blk) : Keep H n (H.put n X) (n + 1) := .put (Nat.le_refl _) (Nat.lt_succ_self _)
theorem Keep.put_of {H1 : Hp} {n1 b : Nat} {X : Blk} (h : Keep H n H1 n1) (hb : n ≤ b) : Keep H n (H1.put b X) n1 :=
  ⟨h.1, fun c hc => by rw [T.get_put_ne _ _ (by omega)]; exact h.2 c hc⟩
theorem Keep.new_of {H1 : Hp} {n1 : Nat} {X : Blk} (h : Keep H n H1 n1) : Keep H n (H1.put n1 X) (n1 + 1) :=
  ⟨Nat.le_succ_of_le h.1, fun c hc => by rw [T.get_put_ne _ _ (by have := h.1; omega)]; exact h.2 c hc⟩
theorem Keep.get {b : Nat} (h : Keep H n H' n') (hb : b < n) : H'.get b = H.get b := h.2 b hb
theorem Keep.lt {b : Nat} (h : Keep H n H' n') (hb : b < n) : b < n' := Nat.lt_of_lt_of_le hb h.1
theorem Keep.sub (h : Keep H n H' n') (hf : Fresh H n) : Hp.sub H H' := fun b X hb => by
  by_cases hlt : b < n
  · rw [h.2 b hlt]; exact hb
  · rw [hf b (by omega)] at hb; cases hb

/-- A slice's place. -/
def adr (s : Value) (k : Nat) : Addr :=
  match s with
  | .slice (some a) _ _ => a.add k
  | _ => ⟨0, 0, none⟩

/-- A slice of m elements of esz cells, which reads as these cells. e: its elements' type. -/
structure Sl (H : Hp) (e esz : Nat) (s : Value) (m : Nat) (cs : List Value) : Prop where
  sh : ∃ base cap, s = .slice base m cap ∧ m ≤ cap ∧ cs.length = m * esz ∧ (match base with
    | none => m = 0 ∧ cap = 0
    | some a => a.spot = none ∧ ∃ c te k, H.get a.block = some (.cells c te k) ∧ (k = .grown → te = e) ∧ a.off + m * esz ≤ c.length ∧ (c.drop a.off).take (m * esz) = cs)

variable {e esz m : Nat} {s : Value} {cs : List Value}

theorem Sl.keep (h : Sl H e esz s m cs) (hk : ∀ a l c, s = .slice (some a) l c → H'.get a.block = H.get a.block) : Sl H' e esz s m cs := by
  obtain ⟨base, cap, h1, h2, h3, h4⟩ := h.sh
  refine ⟨base, cap, h1, h2, h3, ?_⟩
  cases base with
  | none => exact h4
  | some a =>
    obtain ⟨h5, c, te, k, h6, h7⟩ := h4
    exact ⟨h5, c, te, k, by rw [hk a _ _ h1]; exact h6, h7⟩

theorem Sl.nil (H : Hp) (e esz : Nat) : Sl H e esz (.slice none 0 0) 0 [] := ⟨none, 0, rfl, Nat.le_refl _, by simp, rfl, rfl⟩

theorem Sl.len_eq (h : Sl H e esz s m cs) : cs.length = m * esz := by
  obtain ⟨base, cap, h1, h2, h3, h4⟩ := h.sh
  exact h3

theorem Sl.len (h : Sl H e esz s m cs) {E : Env} {t : TypeId} {x : TypeId} {sz : Nat} {g : Bool} {z : List Value} {b : Nat} (ht : E.types t = some ⟨sz, g, z, .slice x, b⟩) : lLen E (some t) s = some (.int .i64 m) := by
  obtain ⟨base, cap, h1, _⟩ := h.sh
  subst h1
  simp [lLen_some, ht, goInt]

/-- The place of an element. -/
theorem Sl.index (h : Sl H e esz s m cs) {E : Env} {t : TypeId} {sz : Nat} {g : Bool} {z : List Value} {b x : Nat} {te : TI} (ht : E.types t = some ⟨sz, g, z, .slice x, b⟩) (hx : E.types x = some te) (hz : te.size = esz) {k : IntKind} {i : Int} (h0 : 0 ≤ i) (hi : i < m) :
    lIndexA E t (some s) (some (.int k i)) = some (.pointer (some (adr s (i.toNat * esz)))) := by
  obtain ⟨base, cap, h1, h2, h3, h4⟩ := h.sh
  subst h1
  cases base with
  | none => have := h4.1; omega
  | some a =>
    simp only [lIndexA_some, indexPl_s ht hx, h0, hi, decide_true, Bool.and_true, cnd_true, hz]
    rfl

theorem Sl.cell (h : Sl H e esz s m cs) {i : Nat} (hi : i < m * esz) : ∃ c te k, H.get (adr s i).block = some (.cells c te k) ∧ c[(adr s i).off]? = cs[i]? ∧ (adr s i).spot = none ∧ (adr s i).off + (m * esz - i) ≤ c.length ∧ (c.drop (adr s i).off).take (m * esz - i) = cs.drop i := by
  obtain ⟨base, cap, h1, h2, h3, h4⟩ := h.sh
  subst h1
  cases base with
  | none => rw [h4.1] at hi; simp at hi
  | some a =>
    obtain ⟨bk, off, spot⟩ := a
    obtain ⟨h5, c, te, k, h6, h7, h8, h9⟩ := h4
    simp only at h5 h6 h8 h9
    subst h5
    refine ⟨c, te, k, by simpa [adr, addr_plus] using h6, ?_, by simp [adr, addr_plus], by simp [adr, addr_plus]; omega, ?_⟩
    · simp only [adr, addr_plus]
      rw [← h9, List.getElem?_take, if_pos hi, List.getElem?_drop]
    · simp only [adr, addr_plus]
      rw [← h9, List.drop_take, List.drop_drop]

theorem Sl.ldS (h : Sl H e esz s m cs) {i : Nat} (hi : i < m * esz) : ldS H (adr s i) = cs[i]? := by
  obtain ⟨c, te, k, h1, h2, _⟩ := h.cell hi
  rw [ldS_of h1, h2]

theorem Sl.ldA (h : Sl H e esz s m cs) {i j : Nat} (hi : i + (j + 1) ≤ m * esz) : ldA H (adr s i) (j + 1) = some (.agg ((cs.drop i).take (j + 1)).toArray) := by
  obtain ⟨c, te, k, h1, h2, h3, h4, h5⟩ := h.cell (i := i) (by omega)
  rw [ldA_of h1 (by omega), ← h5, List.take_take, Nat.min_eq_left (by omega)]

/-- A part of a slice. -/
theorem Sl.slice (h : Sl H e esz s m cs) {E : Env} {t : TypeId} {sz : Nat} {g : Bool} {z : List Value} {b : Nat} {te : TI} (ht : E.types t = some ⟨sz, g, z, .slice e, b⟩) (hx : E.types e = some te) (hz : te.size = esz) {lo hi : Option Value} {l u : Nat}
    (hlo : lo = some (.int .i64 l) ∨ (lo = none ∧ l = 0)) (hhi : hi = some (.int .i64 u) ∨ (hi = none ∧ u = m)) (hl : l ≤ u) (hu : u ≤ m) :
    ∃ s', lSlice E H t (some s) (some lo) (some hi) = some s' ∧ Sl H e esz s' (u - l) ((cs.drop (l * esz)).take ((u - l) * esz)) ∧ (∀ a x y, s' = .slice (some a) x y → ∃ a0 x0 y0, s = .slice (some a0) x0 y0 ∧ a.block = a0.block) := by
  obtain ⟨base, cap, h1, h2, h3, h4⟩ := h.sh
  subst h1
  have hint : (intO lo && intO hi) = true := by
    rcases hlo with rfl | ⟨rfl, _⟩ <;> rcases hhi with rfl | ⟨rfl, _⟩ <;> rfl
  have hb : bnds m cap lo hi = some (l, u) := by
    have c1 : ((u : Int) ≤ cap) := by omega
    have c2 : ((l : Int) ≤ u) := by omega
    clear hint
    rcases hhi with rfl | ⟨rfl, rfl⟩ <;> rcases hlo with rfl | ⟨rfl, rfl⟩ <;> simp [bnds, c1, c2, h2]
  have hcl : ((cs.drop (l * esz)).take ((u - l) * esz)).length = (u - l) * esz := by
    rw [List.length_take, List.length_drop, h3]
    have : (u - l) * esz + l * esz ≤ m * esz := by rw [← Nat.add_mul]; exact Nat.mul_le_mul_right _ (by omega)
    omega
  cases base with
  | none =>
    refine ⟨.slice none (u - l) (cap - l), ?_, ⟨none, cap - l, rfl, by omega, hcl, by omega, by omega⟩, fun a x y h => by cases h⟩
    unfold lSlice
    simp only [hint, cnd_true]
    unfold sliceV
    simp only [ht, hx, hb]
  | some a =>
    obtain ⟨h5, c, tb, k, h6, h7, h8, h9⟩ := h4
    have hmul : (u - l) * esz + l * esz ≤ m * esz := by rw [← Nat.add_mul]; exact Nat.mul_le_mul_right _ (by omega)
    have key : ∃ a', sliceB H e te.size a cap l u = some (.slice (some a') (u - l) (cap - l)) ∧ a'.block = a.block ∧ a'.spot = none ∧ (a'.off = a.off + l * esz ∨ (u = l ∧ a'.off = a.off)) := by
      have ha : a.add (l * te.size) = ⟨a.block, a.off + l * esz, none⟩ := by
        obtain ⟨x, y, w⟩ := a
        subst h5
        rw [addr_plus, hz]
      unfold sliceB
      rw [h6]
      simp only
      cases k with
      | own =>
        simp only
        cases hc : cap.beq l with
        | true =>
          have := Nat.eq_of_beq_eq_true hc
          exact ⟨a, rfl, rfl, h5, .inr ⟨by omega, rfl⟩⟩
        | false => exact ⟨a.add (l * te.size), rfl, by rw [ha], by rw [ha], .inl (by rw [ha])⟩
      | ro => exact ⟨_, rfl, by rw [ha], by rw [ha], .inl (by rw [ha])⟩
      | grown =>
        simp only
        rw [show tb.beq e = true by rw [h7 rfl]; exact Nat.beq_refl e, cnd_true]
        exact ⟨_, rfl, by rw [ha], by rw [ha], .inl (by rw [ha])⟩
    obtain ⟨a', k1, k2, k3, k4⟩ := key
    refine ⟨.slice (some a') (u - l) (cap - l), ?_, ⟨some a', cap - l, rfl, by omega, hcl, k3, c, tb, k, by rw [k2]; exact h6, h7, ?_, ?_⟩, fun x y w h => ⟨a, m, cap, rfl, by cases h; exact k2⟩⟩
    · unfold lSlice
      simp only [hint, cnd_true]
      unfold sliceV
      simp only [ht, hx, hb]
      exact k1
    · rcases k4 with k4 | ⟨k4, k5⟩
      · omega
      · subst k4; rw [k5]; simp; omega
    · rcases k4 with k4 | ⟨k4, k5⟩
      · rw [k4, ← h9, List.drop_take, List.take_take, List.drop_drop, Nat.min_eq_left (by omega)]
      · subst k4; simp

/-- A list that grows: its block is its own, and whole. -/
def Acc (H : Hp) (n : Nat) (e esz : Nat) (s : Value) (m : Nat) (cs : List Value) : Prop :=
  cs.length = m * esz ∧ ((s = .slice none 0 0 ∧ m = 0) ∨ ∃ b, b < n ∧ s = .slice (some ⟨b, 0, none⟩) m m ∧ H.get b = some (.cells cs e .grown))

theorem Acc.nil (H : Hp) (n e esz : Nat) : Acc H n e esz (.slice none 0 0) 0 [] := ⟨by simp, .inl ⟨rfl, rfl⟩⟩
theorem Acc.sl (h : Acc H n e esz s m cs) : Sl H e esz s m cs := by
  obtain ⟨h1, h2 | ⟨b, h2, h3, h4⟩⟩ := h
  · obtain ⟨rfl, rfl⟩ := h2
    have : cs = [] := List.eq_nil_of_length_eq_zero (by simpa using h1)
    subst this
    exact .nil _ _ _
  · subst h3
    exact ⟨_, _, rfl, Nat.le_refl _, h1, rfl, cs, e, .grown, h4, fun _ => rfl, by simp [h1], by simp [← h1]⟩
theorem Acc.keep (h : Acc H n e esz s m cs) (hk : ∀ b l c, b < n → s = .slice (some ⟨b, 0, none⟩) l c → H'.get b = H.get b) (hn : n ≤ n') : Acc H' n' e esz s m cs := by
  obtain ⟨h1, h2 | ⟨b, h2, h3, h4⟩⟩ := h
  · exact ⟨h1, .inl h2⟩
  · exact ⟨h1, .inr ⟨b, by omega, h3, by rw [hk b _ _ h2 h3]; exact h4⟩⟩
/-- Its block is none of those below. -/
def own (s : Value) (n0 : Nat) : Prop := ∀ a l c, s = .slice (some a) l c → n0 ≤ a.block

/-- What append gives: cells xs behind such a list. -/
theorem Acc.append (h : Acc H n e esz s m cs) {E : Env} {te : TI} (hz : te.size = esz) (hzero : te.zero.length = te.size) {j : Nat} {xs : List Value} (hx : xs.length = j * esz) (hc : xs.all cell1 = true) (hl : m + j ≤ lim) (hl2 : (m + j) * te.bytes ≤ lim) :
    ∃ base len cap s' H' n', s = .slice base len cap ∧ appTo H n e te base len cap j xs = some (s', H', n') ∧ Acc H' n' e esz s' (m + j) (cs ++ xs) ∧ n ≤ n' ∧ (∀ b, b < n → (∀ l c, s ≠ .slice (some ⟨b, 0, none⟩) l c) → H'.get b = H.get b) ∧ (∀ n0, n0 ≤ n → own s n0 → own s' n0) := by
  have hcond : (xs.all cell1 && (Nat.ble (m + j) lim && (Nat.ble ((m + j) * te.bytes) lim && te.zero.length.beq te.size))) = true := by
    rw [hc, Nat.ble_eq_true_of_le hl, Nat.ble_eq_true_of_le hl2, hzero, Nat.beq_refl]; rfl
  obtain ⟨h1, h2 | ⟨b, h2, h3, h4⟩⟩ := h
  · obtain ⟨rfl, rfl⟩ := h2
    have : cs = [] := List.eq_nil_of_length_eq_zero (by simpa using h1)
    subst this
    by_cases hj : j = 0
    · subst hj
      have : xs = [] := List.eq_nil_of_length_eq_zero (by simpa using hx)
      subst this
      refine ⟨none, 0, 0, .slice none 0 0, H, n, rfl, ?_, ?_, Nat.le_refl _, fun _ _ _ => rfl, fun _ _ h => h⟩
      · unfold appTo; rw [hcond]; rfl
      · exact .nil _ _ _ _
    · refine ⟨none, 0, 0, .slice (some ⟨n, 0, none⟩) j j, H.put n (.cells xs e .grown), n + 1, rfl, ?_, ?_, by omega, fun b hb _ => T.get_put_ne _ _ (by omega), fun n0 h0 _ a l c h => by cases h; exact h0⟩
      · unfold appTo appAt
        rw [hcond, cnd_true]
        rw [show j.beq 0 = false by cases e1 : j.beq 0 with | false => rfl | true => exact absurd (Nat.eq_of_beq_eq_true e1) hj]
        rfl
      · refine ⟨by simpa using hx, .inr ⟨n, by omega, by simp, ?_⟩⟩
        simp
  · subst h3
    by_cases hj : j = 0
    · subst hj
      have : xs = [] := List.eq_nil_of_length_eq_zero (by simpa using hx)
      subst this
      refine ⟨some ⟨b, 0, none⟩, m, m, .slice (some ⟨b, 0, none⟩) m m, H, n, rfl, ?_, ?_, Nat.le_refl _, fun _ _ _ => rfl, fun _ _ h => h⟩
      · unfold appTo; rw [hcond, cnd_true]
        show cnd (Nat.ble m m) _ _ = _
        rw [Nat.ble_eq_true_of_le (Nat.le_refl m)]; rfl
      · refine ⟨by simpa using h1, .inr ⟨b, h2, rfl, by simpa using h4⟩⟩
    · refine ⟨some ⟨b, 0, none⟩, m, m, .slice (some ⟨n, 0, none⟩) (m + j) (m + j), (H.put b .dead).put n (.cells (cs ++ xs) e .grown), n + 1, rfl, ?_, ?_, by omega, fun b' hb hne => ?_, fun n0 h0 _ a l c h => by cases h; exact h0⟩
      · unfold appTo appAt
        rw [hcond, cnd_true]
        rw [show j.beq 0 = false by cases e1 : j.beq 0 with | false => rfl | true => exact absurd (Nat.eq_of_beq_eq_true e1) hj, cnd_false]
        simp only [h4]
        rw [show Nat.ble (m + j) m = false by
          cases e1 : Nat.ble (m + j) m with
          | false => rfl
          | true => exact absurd (Nat.le_of_ble_eq_true e1) (by omega), cnd_false]
        unfold appGrow
        simp only
        rw [show (Nat.beq (0 + m * te.size) cs.length && Nat.beq e e) = true by rw [h1, hz, Nat.zero_add, Nat.beq_refl, Nat.beq_refl]; rfl, cnd_true]
        rfl
      · refine ⟨by rw [List.length_append, h1, hx, Nat.add_mul], .inr ⟨n, by omega, rfl, by simp⟩⟩
      · rw [T.get_put_ne _ _ (by omega), T.get_put_ne]
        intro e1
        subst e1
        exact hne _ _ rfl
theorem lSlice_mono {G : Hp} {E : Env} (hs : Hp.sub H G) {t : TypeId} {v : Option Value} {lo hi : Option (Option Value)} {r : Value} (h : lSlice E H t v lo hi = some r) : lSlice E G t v lo hi = some r := by
  unfold lSlice at h ⊢
  split at h
  · obtain ⟨h1, h⟩ := cnd_some h
    rw [h1, cnd_true]
    unfold sliceV at h ⊢
    split at h
    · split at h
      · split at h
        · split at h
          · split at h
            · exact h
            · unfold sliceB at h ⊢
              split at h
              · rename_i h2
                rw [hs _ _ h2]; exact h
              · cases h
          · cases h
        · cases h
      · cases h
    · split at h
      · split at h
        · split at h
          · unfold sliceA at h ⊢
            split at h
            · rename_i h2
              rw [hs _ _ h2]; exact h
            · cases h
          · cases h
        · cases h
      · cases h
    · exact h
    · cases h
  · cases h
end Go.Ab

/- Open runs: append. -/
namespace Go.Ab
variable {H : Hp} {n : Nat} {e esz m : Nat} {s : Value} {cs : List Value}

/-- append of what a slice reads as, to a list that grows. -/
theorem append_sl {E : Env} {t : TypeId} {sz : Nat} {g : Bool} {z : List Value} {b : Nat} {te : TI} (ht : E.types t = some ⟨sz, g, z, .slice e, b⟩) (he : E.types e = some te) (hz : te.size = esz) (hzero : te.zero.length = te.size)
    (h : Acc H n e esz s m cs) {x : Value} {j : Nat} {xs : List Value} {e' : TypeId} (hx : Sl H e' esz x j xs) (hc : xs.all cell1 = true) (hl : m + j ≤ lim) (hl2 : (m + j) * te.bytes ≤ lim) :
    ∃ s' H' n', hBuiltin E H n .append #[t, t] (some [s, x]) = some (s', H', n') ∧ Acc H' n' e esz s' (m + j) (cs ++ xs) ∧ n ≤ n' ∧ (∀ b, b < n → (∀ l c, s ≠ .slice (some ⟨b, 0, none⟩) l c) → H'.get b = H.get b) ∧ (∀ n0, n0 ≤ n → own s n0 → own s' n0) := by
  obtain ⟨base, len, cap, s', H', n', h1, h2, h3, h4, h5, h6⟩ := h.append hz hzero hx.len_eq hc hl hl2 (E := E)
  refine ⟨s', H', n', ?_, h3, h4, h5, h6⟩
  subst h1
  show appendV E H n #[t, t] (.slice base len cap) x = _
  have e1 : appCells E H te ⟨sz, g, z, .slice e, b⟩ x = some (j, xs) := by
    obtain ⟨bx, cx, g1, g2, g3, g4⟩ := hx.sh
    subst g1
    cases bx with
    | none =>
      obtain ⟨rfl, rfl⟩ := g4
      have : xs = [] := List.eq_nil_of_length_eq_zero (by simpa using g3)
      subst this
      rfl
    | some a =>
      obtain ⟨g5, c, tb, k, g6, g7, g8, g9⟩ := g4
      simp only [appCells, hz, readC_of g6 g8, g9]
  unfold appendV
  simp only [List.getElem?_toArray, List.getElem?_cons_zero, List.getElem?_cons_succ, ht, he, e1]
  exact h2

theorem own_nil (l c n0 : Nat) : own (.slice none l c) n0 := fun a l c h => by cases h
theorem own_lt {a : Addr} {l c n0 : Nat} (h : own s n0) (hs : s = .slice (some a) l c) : n0 ≤ a.block := h a l c hs
/-- What is below a list's own blocks is kept by append. -/
theorem Keep.of_append {H' : Hp} {n' n0 : Nat} (ho : own s n0) (h0 : n0 ≤ n) (hn : n ≤ n') (h : ∀ b, b < n → (∀ l c, s ≠ .slice (some ⟨b, 0, none⟩) l c) → H'.get b = H.get b) : Keep H n0 H' n' :=
  ⟨by omega, fun b hb => h b (by omega) fun l c e => by have := ho _ _ _ e; simp at this; omega⟩
end Go.Ab
