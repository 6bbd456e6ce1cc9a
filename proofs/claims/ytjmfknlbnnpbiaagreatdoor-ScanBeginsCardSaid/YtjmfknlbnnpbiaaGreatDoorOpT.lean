/- The types and functions of the seat, for the evaluator. -/
import Derived.Test.YtjmfknlbnnpbiaaGreatDoorProg
import Derived.KernelRfl
import Derived.Test.YtjmfknlbnnpbiaaGreatDoorOp2

set_option linter.all false

/- The program's types and functions, as the evaluator knows them. -/
namespace Go.Ab
open Go.Proofs
/-- What the package-level variables hold. -/
def gcells : Nat → List Value
  | 0 => [.int .i64 (-1), .int .i64 192, .int .i64 576, .int .i64 1152, .int .i64 2304, .int .i64 4608, .int .i64 (-2), .int .i64 (-2), .int .i64 256, .int .i64 512, .int .i64 1024, .int .i64 2048, .int .i64 4096, .int .i64 8192, .int .i64 16384, .int .i64 32768]
  | 1 => [.int .i64 0, .int .i64 88200, .int .i64 176400, .int .i64 192000, .int .i64 8000, .int .i64 16000, .int .i64 22050, .int .i64 24000, .int .i64 32000, .int .i64 44100, .int .i64 48000, .int .i64 96000, .int .i64 (-2), .int .i64 (-2), .int .i64 (-2), .int .i64 (-1)]
  | 2 => [.int .i64 0, .int .i64 8, .int .i64 12, .int .i64 (-1), .int .i64 16, .int .i64 20, .int .i64 24, .int .i64 32]
  | 3 => [.int .i64 0, .int .i64 128, .int .i64 2048, .int .i64 65536, .int .i64 2097152, .int .i64 67108864, .int .i64 2147483648, .int .i64 68719476736]
  | 4 => [.int .i64 0, .int .i64 0, .int .i64 0, .int .i64 0, .int .i64 1, .int .i64 0, .int .i64 0, .int .i64 0, .int .i64 2, .int .i64 (-1), .int .i64 0, .int .i64 0, .int .i64 3, .int .i64 (-3), .int .i64 1, .int .i64 0, .int .i64 4, .int .i64 (-6), .int .i64 4, .int .i64 (-1)]
  | 5 => [.int .u32 3614090360, .int .u32 3905402710, .int .u32 606105819, .int .u32 3250441966, .int .u32 4118548399, .int .u32 1200080426, .int .u32 2821735955, .int .u32 4249261313, .int .u32 1770035416, .int .u32 2336552879, .int .u32 4294925233, .int .u32 2304563134, .int .u32 1804603682, .int .u32 4254626195, .int .u32 2792965006, .int .u32 1236535329, .int .u32 4129170786, .int .u32 3225465664, .int .u32 643717713, .int .u32 3921069994, .int .u32 3593408605, .int .u32 38016083, .int .u32 3634488961, .int .u32 3889429448, .int .u32 568446438, .int .u32 3275163606, .int .u32 4107603335, .int .u32 1163531501, .int .u32 2850285829, .int .u32 4243563512, .int .u32 1735328473, .int .u32 2368359562, .int .u32 4294588738, .int .u32 2272392833, .int .u32 1839030562, .int .u32 4259657740, .int .u32 2763975236, .int .u32 1272893353, .int .u32 4139469664, .int .u32 3200236656, .int .u32 681279174, .int .u32 3936430074, .int .u32 3572445317, .int .u32 76029189, .int .u32 3654602809, .int .u32 3873151461, .int .u32 530742520, .int .u32 3299628645, .int .u32 4096336452, .int .u32 1126891415, .int .u32 2878612391, .int .u32 4237533241, .int .u32 1700485571, .int .u32 2399980690, .int .u32 4293915773, .int .u32 2240044497, .int .u32 1873313359, .int .u32 4264355552, .int .u32 2734768916, .int .u32 1309151649, .int .u32 4149444226, .int .u32 3174756917, .int .u32 718787259, .int .u32 3951481745]
  | 6 => [.int .i64 7, .int .i64 12, .int .i64 17, .int .i64 22, .int .i64 5, .int .i64 9, .int .i64 14, .int .i64 20, .int .i64 4, .int .i64 11, .int .i64 16, .int .i64 23, .int .i64 6, .int .i64 10, .int .i64 15, .int .i64 21]
  | _ => []
def gtype : Nat → TypeId
  | 0 => 143 | 1 => 143 | 2 => 144 | 3 => 144 | 4 => 289 | 5 => 294 | _ => 297
def isRo : Kind → Bool
  | .ro => true
  | _ => false
/-- Does a heap hold them? -/
noncomputable def gchk1 (H : Hp) (i : Nat) : Bool :=
  match H.get i with
  | some (.cells c e k) => veqs c (gcells i) && (e.beq (gtype i) && isRo k)
  | _ => false
noncomputable def gchk (H : Hp) : Bool := gchk1 H 0 && (gchk1 H 1 && (gchk1 H 2 && (gchk1 H 3 && (gchk1 H 4 && (gchk1 H 5 && gchk1 H 6)))))
/-- The call that is answered at once: the chapter's example. -/
noncomputable def awakeF (g : FuncId) (args : List Value) (H : Hp) : Option Value := cnd (Nat.beq g 9 && (args.isEmpty && gchk H)) (some (.bool true)) none
noncomputable instance awakeOrc : HasOrc Tryz.prog := ⟨awakeF⟩
noncomputable def TE : Env := envOf Tryz.prog
/-- One cell. -/
noncomputable def ldS (H : Hp) (a : Addr) : Option Value :=
  match H.get a.block with
  | some (.cells c _ _) => c[a.off]?
  | _ => none
/-- Several cells. -/
noncomputable def ldA (H : Hp) (a : Addr) (m : Nat) : Option Value :=
  match readC H a m with
  | some l => some (.agg l.toArray)
  | none => none
theorem loadV_s {E : Env} {H : Hp} {t : TypeId} {a : Addr} {sz : Nat} {z : List Value} {d : TypeDesc} {b : Nat} (h : E.types t = some ⟨sz, false, z, d, b⟩) : loadV E H t a = ldS H a := by
  unfold loadV ldS; rw [h]; rfl
theorem loadV_a {E : Env} {H : Hp} {t : TypeId} {a : Addr} {sz : Nat} {z : List Value} {d : TypeDesc} {b : Nat} (h : E.types t = some ⟨sz, true, z, d, b⟩) : loadV E H t a = ldA H a sz := by
  unfold loadV ldA; rw [h]; rfl
theorem indexPl_s {E : Env} {t e : TypeId} {sz : Nat} {z : List Value} {g : Bool} {b : Nat} {te : TI} (h : E.types t = some ⟨sz, g, z, .slice e, b⟩) (he : E.types e = some te) (a : Addr) (len cap : Nat) (k : IntKind) (i : Int) :
    indexPl E t (.slice (some a) len cap) (.int k i) = cnd (decide (0 ≤ i) && decide (i < len)) (some (a.add (i.toNat * te.size))) none := by
  unfold indexPl; simp only [h, he]
theorem indexPl_a {E : Env} {t e : TypeId} {sz : Nat} {z : List Value} {g : Bool} {b m : Nat} {te : TI} (h : E.types t = some ⟨sz, g, z, .array m e, b⟩) (he : E.types e = some te) (a : Addr) (k : IntKind) (i : Int) :
    indexPl E t (.pointer (some a)) (.int k i) = cnd (decide (0 ≤ i) && decide (i < m)) (some (a.add (i.toNat * te.size))) none := by
  unfold indexPl; simp only [h, he]
theorem storeV_sz {E : Env} {H : Hp} {t : TypeId} {a : Addr} {v : Value} {sz : Nat} {z : List Value} {d : TypeDesc} {b : Nat} {g : Bool} (h : E.types t = some ⟨sz, g, z, d, b⟩) : storeV E H t a v = cnd (v.cells.size.beq sz) (writeC H a v.cells.toList) none := by
  unfold storeV; rw [h]
@[simp] theorem ty1 : TE.types 1 = (some ⟨1, false, [.nilFunc], (.func #[] #[] false), 8⟩) := by kernel_rfl
@[simp] theorem ld1 (H : Hp) (a : Addr) : loadV TE H 1 a = ldS H a := loadV_s ty1
@[simp] theorem st1 (H : Hp) (a : Addr) (v : Value) : storeV TE H 1 a v = cnd (v.cells.size.beq 1) (writeC H a v.cells.toList) none := storeV_sz ty1
@[simp] theorem ty2 : TE.types 2 = (some ⟨1, false, [(.int .i64 0)], (.int .i64), 8⟩) := by kernel_rfl
@[simp] theorem ld2 (H : Hp) (a : Addr) : loadV TE H 2 a = ldS H a := loadV_s ty2
@[simp] theorem st2 (H : Hp) (a : Addr) (v : Value) : storeV TE H 2 a v = cnd (v.cells.size.beq 1) (writeC H a v.cells.toList) none := storeV_sz ty2
@[simp] theorem ty3 : TE.types 3 = (some ⟨1, false, [(.int .i64 0)], (.int .i64), 8⟩) := by kernel_rfl
@[simp] theorem ld3 (H : Hp) (a : Addr) : loadV TE H 3 a = ldS H a := loadV_s ty3
@[simp] theorem st3 (H : Hp) (a : Addr) (v : Value) : storeV TE H 3 a v = cnd (v.cells.size.beq 1) (writeC H a v.cells.toList) none := storeV_sz ty3
@[simp] theorem ty4 : TE.types 4 = (some ⟨1, false, [(.bool false)], .bool, 1⟩) := by kernel_rfl
@[simp] theorem ld4 (H : Hp) (a : Addr) : loadV TE H 4 a = ldS H a := loadV_s ty4
@[simp] theorem st4 (H : Hp) (a : Addr) (v : Value) : storeV TE H 4 a v = cnd (v.cells.size.beq 1) (writeC H a v.cells.toList) none := storeV_sz ty4
@[simp] theorem ty5 : TE.types 5 = (some ⟨1, false, [(.int .u8 0)], (.int .u8), 1⟩) := by kernel_rfl
@[simp] theorem ld5 (H : Hp) (a : Addr) : loadV TE H 5 a = ldS H a := loadV_s ty5
@[simp] theorem st5 (H : Hp) (a : Addr) (v : Value) : storeV TE H 5 a v = cnd (v.cells.size.beq 1) (writeC H a v.cells.toList) none := storeV_sz ty5
@[simp] theorem ty6 : TE.types 6 = (some ⟨1, false, [(.int .u8 0)], (.int .u8), 1⟩) := by kernel_rfl
@[simp] theorem ld6 (H : Hp) (a : Addr) : loadV TE H 6 a = ldS H a := loadV_s ty6
@[simp] theorem st6 (H : Hp) (a : Addr) (v : Value) : storeV TE H 6 a v = cnd (v.cells.size.beq 1) (writeC H a v.cells.toList) none := storeV_sz ty6
@[simp] theorem ty7 : TE.types 7 = (some ⟨4, true, [(.int .i64 0), (.int .i64 0), (.bool false), (.int .u8 0)], (.struct #[(Field.mk "x" 2 0 false "" "runtime" 0), (Field.mk "y" 3 1 false "" "runtime" 8), (Field.mk "signed" 4 2 false "" "runtime" 16), (Field.mk "code" 6 3 false "" "runtime" 17)]), 24⟩) := by kernel_rfl
@[simp] theorem ld7 (H : Hp) (a : Addr) : loadV TE H 7 a = ldA H a 4 := loadV_a ty7
@[simp] theorem st7 (H : Hp) (a : Addr) (v : Value) : storeV TE H 7 a v = cnd (v.cells.size.beq 4) (writeC H a v.cells.toList) none := storeV_sz ty7
@[simp] theorem ty8 : TE.types 8 = (some ⟨4, true, [(.int .i64 0), (.int .i64 0), (.bool false), (.int .u8 0)], (.struct #[(Field.mk "x" 2 0 false "" "runtime" 0), (Field.mk "y" 3 1 false "" "runtime" 8), (Field.mk "signed" 4 2 false "" "runtime" 16), (Field.mk "code" 6 3 false "" "runtime" 17)]), 24⟩) := by kernel_rfl
@[simp] theorem ld8 (H : Hp) (a : Addr) : loadV TE H 8 a = ldA H a 4 := loadV_a ty8
@[simp] theorem st8 (H : Hp) (a : Addr) (v : Value) : storeV TE H 8 a v = cnd (v.cells.size.beq 4) (writeC H a v.cells.toList) none := storeV_sz ty8
@[simp] theorem ty9 : TE.types 9 = (some ⟨1, false, [(.string (ByteArray.mk #[]))], .string, 16⟩) := by kernel_rfl
@[simp] theorem ld9 (H : Hp) (a : Addr) : loadV TE H 9 a = ldS H a := loadV_s ty9
@[simp] theorem st9 (H : Hp) (a : Addr) (v : Value) : storeV TE H 9 a v = cnd (v.cells.size.beq 1) (writeC H a v.cells.toList) none := storeV_sz ty9
@[simp] theorem ty10 : TE.types 10 = (some ⟨1, false, [(.string (ByteArray.mk #[]))], .string, 16⟩) := by kernel_rfl
@[simp] theorem ld10 (H : Hp) (a : Addr) : loadV TE H 10 a = ldS H a := loadV_s ty10
@[simp] theorem st10 (H : Hp) (a : Addr) (v : Value) : storeV TE H 10 a v = cnd (v.cells.size.beq 1) (writeC H a v.cells.toList) none := storeV_sz ty10
@[simp] theorem ty11 : TE.types 11 = (some ⟨1, false, [(.string (ByteArray.mk #[]))], .string, 16⟩) := by kernel_rfl
@[simp] theorem ld11 (H : Hp) (a : Addr) : loadV TE H 11 a = ldS H a := loadV_s ty11
@[simp] theorem st11 (H : Hp) (a : Addr) (v : Value) : storeV TE H 11 a v = cnd (v.cells.size.beq 1) (writeC H a v.cells.toList) none := storeV_sz ty11
@[simp] theorem ty12 : TE.types 12 = (some ⟨1, false, [(.int .u64 0)], (.int .u64), 8⟩) := by kernel_rfl
@[simp] theorem ld12 (H : Hp) (a : Addr) : loadV TE H 12 a = ldS H a := loadV_s ty12
@[simp] theorem st12 (H : Hp) (a : Addr) (v : Value) : storeV TE H 12 a v = cnd (v.cells.size.beq 1) (writeC H a v.cells.toList) none := storeV_sz ty12
@[simp] theorem ty13 : TE.types 13 = (some ⟨2, true, [(.string (ByteArray.mk #[])), (.int .u64 0)], (.struct #[(Field.mk "msg" 9 0 false "" "runtime" 0), (Field.mk "addr" 12 1 false "" "runtime" 16)]), 24⟩) := by kernel_rfl
@[simp] theorem ld13 (H : Hp) (a : Addr) : loadV TE H 13 a = ldA H a 2 := loadV_a ty13
@[simp] theorem st13 (H : Hp) (a : Addr) (v : Value) : storeV TE H 13 a v = cnd (v.cells.size.beq 2) (writeC H a v.cells.toList) none := storeV_sz ty13
@[simp] theorem ty14 : TE.types 14 = (some ⟨2, true, [(.string (ByteArray.mk #[])), (.int .u64 0)], (.struct #[(Field.mk "msg" 9 0 false "" "runtime" 0), (Field.mk "addr" 12 1 false "" "runtime" 16)]), 24⟩) := by kernel_rfl
@[simp] theorem ld14 (H : Hp) (a : Addr) : loadV TE H 14 a = ldA H a 2 := loadV_a ty14
@[simp] theorem st14 (H : Hp) (a : Addr) (v : Value) : storeV TE H 14 a v = cnd (v.cells.size.beq 2) (writeC H a v.cells.toList) none := storeV_sz ty14
@[simp] theorem ty15 : TE.types 15 = (some ⟨1, false, [(.pointer none)], (.pointer 301), 8⟩) := by kernel_rfl
@[simp] theorem ld15 (H : Hp) (a : Addr) : loadV TE H 15 a = ldS H a := loadV_s ty15
@[simp] theorem st15 (H : Hp) (a : Addr) (v : Value) : storeV TE H 15 a v = cnd (v.cells.size.beq 1) (writeC H a v.cells.toList) none := storeV_sz ty15
@[simp] theorem ty16 : TE.types 16 = (some ⟨1, false, [(.pointer none)], (.pointer 304), 8⟩) := by kernel_rfl
@[simp] theorem ld16 (H : Hp) (a : Addr) : loadV TE H 16 a = ldS H a := loadV_s ty16
@[simp] theorem st16 (H : Hp) (a : Addr) (v : Value) : storeV TE H 16 a v = cnd (v.cells.size.beq 1) (writeC H a v.cells.toList) none := storeV_sz ty16
@[simp] theorem ty17 : TE.types 17 = (some ⟨1, false, [(.pointer none)], (.pointer 312), 8⟩) := by kernel_rfl
@[simp] theorem ld17 (H : Hp) (a : Addr) : loadV TE H 17 a = ldS H a := loadV_s ty17
@[simp] theorem st17 (H : Hp) (a : Addr) (v : Value) : storeV TE H 17 a v = cnd (v.cells.size.beq 1) (writeC H a v.cells.toList) none := storeV_sz ty17
@[simp] theorem ty18 : TE.types 18 = (some ⟨1, true, [(.pointer none)], (.struct #[(Field.mk "typ" 17 0 false "" "internal/runtime/maps" 0)]), 8⟩) := by kernel_rfl
@[simp] theorem ld18 (H : Hp) (a : Addr) : loadV TE H 18 a = ldA H a 1 := loadV_a ty18
@[simp] theorem st18 (H : Hp) (a : Addr) (v : Value) : storeV TE H 18 a v = cnd (v.cells.size.beq 1) (writeC H a v.cells.toList) none := storeV_sz ty18
@[simp] theorem ty19 : TE.types 19 = (some ⟨1, true, [(.pointer none)], (.struct #[(Field.mk "typ" 17 0 false "" "internal/runtime/maps" 0)]), 8⟩) := by kernel_rfl
@[simp] theorem ld19 (H : Hp) (a : Addr) : loadV TE H 19 a = ldA H a 1 := loadV_a ty19
@[simp] theorem st19 (H : Hp) (a : Addr) (v : Value) : storeV TE H 19 a v = cnd (v.cells.size.beq 1) (writeC H a v.cells.toList) none := storeV_sz ty19
@[simp] theorem ty20 : TE.types 20 = (some ⟨1, false, [.nilIface], (.interface #[]), 16⟩) := by kernel_rfl
@[simp] theorem ld20 (H : Hp) (a : Addr) : loadV TE H 20 a = ldS H a := loadV_s ty20
@[simp] theorem st20 (H : Hp) (a : Addr) (v : Value) : storeV TE H 20 a v = cnd (v.cells.size.beq 1) (writeC H a v.cells.toList) none := storeV_sz ty20
@[simp] theorem ty21 : TE.types 21 = (some ⟨1, false, [(.int .i32 0)], (.int .i32), 4⟩) := by kernel_rfl
@[simp] theorem ld21 (H : Hp) (a : Addr) : loadV TE H 21 a = ldS H a := loadV_s ty21
@[simp] theorem st21 (H : Hp) (a : Addr) (v : Value) : storeV TE H 21 a v = cnd (v.cells.size.beq 1) (writeC H a v.cells.toList) none := storeV_sz ty21
@[simp] theorem ty22 : TE.types 22 = (some ⟨1, false, [(.slice none 0 0)], (.slice 5), 24⟩) := by kernel_rfl
@[simp] theorem ld22 (H : Hp) (a : Addr) : loadV TE H 22 a = ldS H a := loadV_s ty22
@[simp] theorem st22 (H : Hp) (a : Addr) (v : Value) : storeV TE H 22 a v = cnd (v.cells.size.beq 1) (writeC H a v.cells.toList) none := storeV_sz ty22
@[simp] theorem ty23 : TE.types 23 = (some ⟨1, false, [(.slice none 0 0)], (.slice 29), 24⟩) := by kernel_rfl
@[simp] theorem ld23 (H : Hp) (a : Addr) : loadV TE H 23 a = ldS H a := loadV_s ty23
@[simp] theorem st23 (H : Hp) (a : Addr) (v : Value) : storeV TE H 23 a v = cnd (v.cells.size.beq 1) (writeC H a v.cells.toList) none := storeV_sz ty23
@[simp] theorem ty24 : TE.types 24 = (some ⟨1, false, [.nilFunc], (.func #[] #[4] false), 8⟩) := by kernel_rfl
@[simp] theorem ld24 (H : Hp) (a : Addr) : loadV TE H 24 a = ldS H a := loadV_s ty24
@[simp] theorem st24 (H : Hp) (a : Addr) (v : Value) : storeV TE H 24 a v = cnd (v.cells.size.beq 1) (writeC H a v.cells.toList) none := storeV_sz ty24
@[simp] theorem ty25 : TE.types 25 = (some ⟨1, false, [(.slice none 0 0)], (.slice 31), 24⟩) := by kernel_rfl
@[simp] theorem ld25 (H : Hp) (a : Addr) : loadV TE H 25 a = ldS H a := loadV_s ty25
@[simp] theorem st25 (H : Hp) (a : Addr) (v : Value) : storeV TE H 25 a v = cnd (v.cells.size.beq 1) (writeC H a v.cells.toList) none := storeV_sz ty25
@[simp] theorem ty26 : TE.types 26 = (some ⟨1, false, [.nilFunc], (.func #[22, 3, 23] #[25] true), 8⟩) := by kernel_rfl
@[simp] theorem ld26 (H : Hp) (a : Addr) : loadV TE H 26 a = ldS H a := loadV_s ty26
@[simp] theorem st26 (H : Hp) (a : Addr) (v : Value) : storeV TE H 26 a v = cnd (v.cells.size.beq 1) (writeC H a v.cells.toList) none := storeV_sz ty26
@[simp] theorem ty27 : TE.types 27 = (some ⟨1, false, [.nilFunc], (.func #[22, 3, 23] #[25] false), 8⟩) := by kernel_rfl
@[simp] theorem ld27 (H : Hp) (a : Addr) : loadV TE H 27 a = ldS H a := loadV_s ty27
@[simp] theorem st27 (H : Hp) (a : Addr) (v : Value) : storeV TE H 27 a v = cnd (v.cells.size.beq 1) (writeC H a v.cells.toList) none := storeV_sz ty27
@[simp] theorem ty28 : TE.types 28 = (some ⟨3, true, [(.int .i64 0), (.int .i64 0), (.int .i64 0)], (.struct #[(Field.mk "Rate" 3 0 false "" "" 0), (Field.mk "Channels" 3 1 false "" "" 8), (Field.mk "Depth" 3 2 false "" "" 16)]), 24⟩) := by kernel_rfl
@[simp] theorem ld28 (H : Hp) (a : Addr) : loadV TE H 28 a = ldA H a 3 := loadV_a ty28
@[simp] theorem st28 (H : Hp) (a : Addr) (v : Value) : storeV TE H 28 a v = cnd (v.cells.size.beq 3) (writeC H a v.cells.toList) none := storeV_sz ty28
@[simp] theorem ty29 : TE.types 29 = (some ⟨3, true, [(.int .i64 0), (.int .i64 0), (.int .i64 0)], (.struct #[(Field.mk "Rate" 3 0 false "" "" 0), (Field.mk "Channels" 3 1 false "" "" 8), (Field.mk "Depth" 3 2 false "" "" 16)]), 24⟩) := by kernel_rfl
@[simp] theorem ld29 (H : Hp) (a : Addr) : loadV TE H 29 a = ldA H a 3 := loadV_a ty29
@[simp] theorem st29 (H : Hp) (a : Addr) (v : Value) : storeV TE H 29 a v = cnd (v.cells.size.beq 3) (writeC H a v.cells.toList) none := storeV_sz ty29
@[simp] theorem ty30 : TE.types 30 = (some ⟨8, true, [(.int .i64 0), (.int .i64 0), (.int .i64 0), (.int .i64 0), (.int .i64 0), (.int .i64 0), (.int .i64 0), (.bool false)], (.struct #[(Field.mk "Params" 29 0 true "" "" 0), (Field.mk "Offset" 3 3 false "" "" 24), (Field.mk "Size" 3 4 false "" "" 32), (Field.mk "Number" 3 5 false "" "" 40), (Field.mk "Block" 3 6 false "" "" 48), (Field.mk "Variable" 4 7 false "" "" 56)]), 64⟩) := by kernel_rfl
@[simp] theorem ld30 (H : Hp) (a : Addr) : loadV TE H 30 a = ldA H a 8 := loadV_a ty30
@[simp] theorem st30 (H : Hp) (a : Addr) (v : Value) : storeV TE H 30 a v = cnd (v.cells.size.beq 8) (writeC H a v.cells.toList) none := storeV_sz ty30
@[simp] theorem ty31 : TE.types 31 = (some ⟨8, true, [(.int .i64 0), (.int .i64 0), (.int .i64 0), (.int .i64 0), (.int .i64 0), (.int .i64 0), (.int .i64 0), (.bool false)], (.struct #[(Field.mk "Params" 29 0 true "" "" 0), (Field.mk "Offset" 3 3 false "" "" 24), (Field.mk "Size" 3 4 false "" "" 32), (Field.mk "Number" 3 5 false "" "" 40), (Field.mk "Block" 3 6 false "" "" 48), (Field.mk "Variable" 4 7 false "" "" 56)]), 64⟩) := by kernel_rfl
@[simp] theorem ld31 (H : Hp) (a : Addr) : loadV TE H 31 a = ldA H a 8 := loadV_a ty31
@[simp] theorem st31 (H : Hp) (a : Addr) (v : Value) : storeV TE H 31 a v = cnd (v.cells.size.beq 8) (writeC H a v.cells.toList) none := storeV_sz ty31
@[simp] theorem ty32 : TE.types 32 = (some ⟨1, false, [.nilFunc], (.func #[31, 31] #[3] false), 8⟩) := by kernel_rfl
@[simp] theorem ld32 (H : Hp) (a : Addr) : loadV TE H 32 a = ldS H a := loadV_s ty32
@[simp] theorem st32 (H : Hp) (a : Addr) (v : Value) : storeV TE H 32 a v = cnd (v.cells.size.beq 1) (writeC H a v.cells.toList) none := storeV_sz ty32
@[simp] theorem ty33 : TE.types 33 = (some ⟨1, false, [.nilFunc], (.func #[22, 3, 23] #[4] false), 8⟩) := by kernel_rfl
@[simp] theorem ld33 (H : Hp) (a : Addr) : loadV TE H 33 a = ldS H a := loadV_s ty33
@[simp] theorem st33 (H : Hp) (a : Addr) (v : Value) : storeV TE H 33 a v = cnd (v.cells.size.beq 1) (writeC H a v.cells.toList) none := storeV_sz ty33
@[simp] theorem ty34 : TE.types 34 = (some ⟨1, false, [.nilFunc], (.func #[22, 23] #[25] true), 8⟩) := by kernel_rfl
@[simp] theorem ld34 (H : Hp) (a : Addr) : loadV TE H 34 a = ldS H a := loadV_s ty34
@[simp] theorem st34 (H : Hp) (a : Addr) (v : Value) : storeV TE H 34 a v = cnd (v.cells.size.beq 1) (writeC H a v.cells.toList) none := storeV_sz ty34
@[simp] theorem ty35 : TE.types 35 = (some ⟨1, false, [.nilFunc], (.func #[25, 25] #[4] false), 8⟩) := by kernel_rfl
@[simp] theorem ld35 (H : Hp) (a : Addr) : loadV TE H 35 a = ldS H a := loadV_s ty35
@[simp] theorem st35 (H : Hp) (a : Addr) (v : Value) : storeV TE H 35 a v = cnd (v.cells.size.beq 1) (writeC H a v.cells.toList) none := storeV_sz ty35
@[simp] theorem ty36 : TE.types 36 = (some ⟨1, false, [.nilFunc], (.func #[22, 22, 23] #[4] false), 8⟩) := by kernel_rfl
@[simp] theorem ld36 (H : Hp) (a : Addr) : loadV TE H 36 a = ldS H a := loadV_s ty36
@[simp] theorem st36 (H : Hp) (a : Addr) (v : Value) : storeV TE H 36 a v = cnd (v.cells.size.beq 1) (writeC H a v.cells.toList) none := storeV_sz ty36
@[simp] theorem ty37 : TE.types 37 = (some ⟨1, false, [.nilFunc], (.func #[22] #[25] false), 8⟩) := by kernel_rfl
@[simp] theorem ld37 (H : Hp) (a : Addr) : loadV TE H 37 a = ldS H a := loadV_s ty37
@[simp] theorem st37 (H : Hp) (a : Addr) (v : Value) : storeV TE H 37 a v = cnd (v.cells.size.beq 1) (writeC H a v.cells.toList) none := storeV_sz ty37
@[simp] theorem ty38 : TE.types 38 = (some ⟨16, true, [(.int .u8 0), (.int .u8 0), (.int .u8 0), (.int .u8 0), (.int .u8 0), (.int .u8 0), (.int .u8 0), (.int .u8 0), (.int .u8 0), (.int .u8 0), (.int .u8 0), (.int .u8 0), (.int .u8 0), (.int .u8 0), (.int .u8 0), (.int .u8 0)], (.array 16 5), 16⟩) := by kernel_rfl
@[simp] theorem ld38 (H : Hp) (a : Addr) : loadV TE H 38 a = ldA H a 16 := loadV_a ty38
@[simp] theorem st38 (H : Hp) (a : Addr) (v : Value) : storeV TE H 38 a v = cnd (v.cells.size.beq 16) (writeC H a v.cells.toList) none := storeV_sz ty38
@[simp] theorem ty39 : TE.types 39 = (some ⟨24, true, [(.int .i64 0), (.int .i64 0), (.int .i64 0), (.int .i64 0), (.int .i64 0), (.int .i64 0), (.int .i64 0), (.int .i64 0), (.int .u8 0), (.int .u8 0), (.int .u8 0), (.int .u8 0), (.int .u8 0), (.int .u8 0), (.int .u8 0), (.int .u8 0), (.int .u8 0), (.int .u8 0), (.int .u8 0), (.int .u8 0), (.int .u8 0), (.int .u8 0), (.int .u8 0), (.int .u8 0)], (.struct #[(Field.mk "Params" 29 0 true "" "" 0), (Field.mk "MinBlock" 3 3 false "" "" 24), (Field.mk "MaxBlock" 3 4 false "" "" 32), (Field.mk "MinFrame" 3 5 false "" "" 40), (Field.mk "MaxFrame" 3 6 false "" "" 48), (Field.mk "Total" 3 7 false "" "" 56), (Field.mk "Sum" 38 8 false "" "" 64)]), 80⟩) := by kernel_rfl
@[simp] theorem ld39 (H : Hp) (a : Addr) : loadV TE H 39 a = ldA H a 24 := loadV_a ty39
@[simp] theorem st39 (H : Hp) (a : Addr) (v : Value) : storeV TE H 39 a v = cnd (v.cells.size.beq 24) (writeC H a v.cells.toList) none := storeV_sz ty39
@[simp] theorem ty40 : TE.types 40 = (some ⟨24, true, [(.int .i64 0), (.int .i64 0), (.int .i64 0), (.int .i64 0), (.int .i64 0), (.int .i64 0), (.int .i64 0), (.int .i64 0), (.int .u8 0), (.int .u8 0), (.int .u8 0), (.int .u8 0), (.int .u8 0), (.int .u8 0), (.int .u8 0), (.int .u8 0), (.int .u8 0), (.int .u8 0), (.int .u8 0), (.int .u8 0), (.int .u8 0), (.int .u8 0), (.int .u8 0), (.int .u8 0)], (.struct #[(Field.mk "Params" 29 0 true "" "" 0), (Field.mk "MinBlock" 3 3 false "" "" 24), (Field.mk "MaxBlock" 3 4 false "" "" 32), (Field.mk "MinFrame" 3 5 false "" "" 40), (Field.mk "MaxFrame" 3 6 false "" "" 48), (Field.mk "Total" 3 7 false "" "" 56), (Field.mk "Sum" 38 8 false "" "" 64)]), 80⟩) := by kernel_rfl
@[simp] theorem ld40 (H : Hp) (a : Addr) : loadV TE H 40 a = ldA H a 24 := loadV_a ty40
@[simp] theorem st40 (H : Hp) (a : Addr) (v : Value) : storeV TE H 40 a v = cnd (v.cells.size.beq 24) (writeC H a v.cells.toList) none := storeV_sz ty40
@[simp] theorem ty42 : TE.types 42 = (some ⟨1, false, [.nilFunc], (.func #[22] #[40, 4] false), 8⟩) := by kernel_rfl
@[simp] theorem ld42 (H : Hp) (a : Addr) : loadV TE H 42 a = ldS H a := loadV_s ty42
@[simp] theorem st42 (H : Hp) (a : Addr) (v : Value) : storeV TE H 42 a v = cnd (v.cells.size.beq 1) (writeC H a v.cells.toList) none := storeV_sz ty42
@[simp] theorem ty43 : TE.types 43 = (some ⟨1, false, [.nilFunc], (.func #[23] #[23] false), 8⟩) := by kernel_rfl
@[simp] theorem ld43 (H : Hp) (a : Addr) : loadV TE H 43 a = ldS H a := loadV_s ty43
@[simp] theorem st43 (H : Hp) (a : Addr) (v : Value) : storeV TE H 43 a v = cnd (v.cells.size.beq 1) (writeC H a v.cells.toList) none := storeV_sz ty43
@[simp] theorem ty44 : TE.types 44 = (some ⟨1, false, [.nilFunc], (.func #[23, 23] #[4] false), 8⟩) := by kernel_rfl
@[simp] theorem ld44 (H : Hp) (a : Addr) : loadV TE H 44 a = ldS H a := loadV_s ty44
@[simp] theorem st44 (H : Hp) (a : Addr) (v : Value) : storeV TE H 44 a v = cnd (v.cells.size.beq 1) (writeC H a v.cells.toList) none := storeV_sz ty44
@[simp] theorem ty45 : TE.types 45 = (some ⟨1, false, [.nilFunc], (.func #[22] #[23] false), 8⟩) := by kernel_rfl
@[simp] theorem ld45 (H : Hp) (a : Addr) : loadV TE H 45 a = ldS H a := loadV_s ty45
@[simp] theorem st45 (H : Hp) (a : Addr) (v : Value) : storeV TE H 45 a v = cnd (v.cells.size.beq 1) (writeC H a v.cells.toList) none := storeV_sz ty45
@[simp] theorem ty46 : TE.types 46 = (some ⟨9, true, [(.bool false), (.int .i64 0), (.int .i64 0), (.int .i64 0), (.int .i64 0), (.int .i64 0), (.int .i64 0), (.int .i64 0), (.int .i64 0)], (.struct #[(Field.mk "Variable" 4 0 false "" "" 0), (Field.mk "BlockCode" 3 1 false "" "" 8), (Field.mk "RateCode" 3 2 false "" "" 16), (Field.mk "Mode" 3 3 false "" "" 24), (Field.mk "DepthCode" 3 4 false "" "" 32), (Field.mk "Number" 3 5 false "" "" 40), (Field.mk "Block" 3 6 false "" "" 48), (Field.mk "Rate" 3 7 false "" "" 56), (Field.mk "Depth" 3 8 false "" "" 64)]), 72⟩) := by kernel_rfl
@[simp] theorem ld46 (H : Hp) (a : Addr) : loadV TE H 46 a = ldA H a 9 := loadV_a ty46
@[simp] theorem st46 (H : Hp) (a : Addr) (v : Value) : storeV TE H 46 a v = cnd (v.cells.size.beq 9) (writeC H a v.cells.toList) none := storeV_sz ty46
@[simp] theorem ty47 : TE.types 47 = (some ⟨9, true, [(.bool false), (.int .i64 0), (.int .i64 0), (.int .i64 0), (.int .i64 0), (.int .i64 0), (.int .i64 0), (.int .i64 0), (.int .i64 0)], (.struct #[(Field.mk "Variable" 4 0 false "" "" 0), (Field.mk "BlockCode" 3 1 false "" "" 8), (Field.mk "RateCode" 3 2 false "" "" 16), (Field.mk "Mode" 3 3 false "" "" 24), (Field.mk "DepthCode" 3 4 false "" "" 32), (Field.mk "Number" 3 5 false "" "" 40), (Field.mk "Block" 3 6 false "" "" 48), (Field.mk "Rate" 3 7 false "" "" 56), (Field.mk "Depth" 3 8 false "" "" 64)]), 72⟩) := by kernel_rfl
@[simp] theorem ld47 (H : Hp) (a : Addr) : loadV TE H 47 a = ldA H a 9 := loadV_a ty47
@[simp] theorem st47 (H : Hp) (a : Addr) (v : Value) : storeV TE H 47 a v = cnd (v.cells.size.beq 9) (writeC H a v.cells.toList) none := storeV_sz ty47
@[simp] theorem ty48 : TE.types 48 = (some ⟨1, false, [(.slice none 0 0)], (.slice 108), 24⟩) := by kernel_rfl
@[simp] theorem ld48 (H : Hp) (a : Addr) : loadV TE H 48 a = ldS H a := loadV_s ty48
@[simp] theorem st48 (H : Hp) (a : Addr) (v : Value) : storeV TE H 48 a v = cnd (v.cells.size.beq 1) (writeC H a v.cells.toList) none := storeV_sz ty48
@[simp] theorem ty49 : TE.types 49 = (some ⟨1, false, [(.slice none 0 0)], (.slice 64), 24⟩) := by kernel_rfl
@[simp] theorem ld49 (H : Hp) (a : Addr) : loadV TE H 49 a = ldS H a := loadV_s ty49
@[simp] theorem st49 (H : Hp) (a : Addr) (v : Value) : storeV TE H 49 a v = cnd (v.cells.size.beq 1) (writeC H a v.cells.toList) none := storeV_sz ty49
@[simp] theorem ty50 : TE.types 50 = (some ⟨11, true, [(.bool false), (.int .i64 0), (.int .i64 0), (.int .i64 0), (.int .i64 0), (.int .i64 0), (.int .i64 0), (.int .i64 0), (.int .i64 0), (.slice none 0 0), (.slice none 0 0)], (.struct #[(Field.mk "Header" 47 0 true "" "" 0), (Field.mk "Plans" 48 9 false "" "" 72), (Field.mk "Samples" 49 10 false "" "" 96)]), 120⟩) := by kernel_rfl
@[simp] theorem ld50 (H : Hp) (a : Addr) : loadV TE H 50 a = ldA H a 11 := loadV_a ty50
@[simp] theorem st50 (H : Hp) (a : Addr) (v : Value) : storeV TE H 50 a v = cnd (v.cells.size.beq 11) (writeC H a v.cells.toList) none := storeV_sz ty50
@[simp] theorem ty51 : TE.types 51 = (some ⟨11, true, [(.bool false), (.int .i64 0), (.int .i64 0), (.int .i64 0), (.int .i64 0), (.int .i64 0), (.int .i64 0), (.int .i64 0), (.int .i64 0), (.slice none 0 0), (.slice none 0 0)], (.struct #[(Field.mk "Header" 47 0 true "" "" 0), (Field.mk "Plans" 48 9 false "" "" 72), (Field.mk "Samples" 49 10 false "" "" 96)]), 120⟩) := by kernel_rfl
@[simp] theorem ld51 (H : Hp) (a : Addr) : loadV TE H 51 a = ldA H a 11 := loadV_a ty51
@[simp] theorem st51 (H : Hp) (a : Addr) (v : Value) : storeV TE H 51 a v = cnd (v.cells.size.beq 11) (writeC H a v.cells.toList) none := storeV_sz ty51
@[simp] theorem ty52 : TE.types 52 = (some ⟨1, false, [(.int .i64 0)], (.int .i64), 8⟩) := by kernel_rfl
@[simp] theorem ld52 (H : Hp) (a : Addr) : loadV TE H 52 a = ldS H a := loadV_s ty52
@[simp] theorem st52 (H : Hp) (a : Addr) (v : Value) : storeV TE H 52 a v = cnd (v.cells.size.beq 1) (writeC H a v.cells.toList) none := storeV_sz ty52
@[simp] theorem ty54 : TE.types 54 = (some ⟨1, false, [.nilFunc], (.func #[22, 31] #[51, 52] false), 8⟩) := by kernel_rfl
@[simp] theorem ld54 (H : Hp) (a : Addr) : loadV TE H 54 a = ldS H a := loadV_s ty54
@[simp] theorem st54 (H : Hp) (a : Addr) (v : Value) : storeV TE H 54 a v = cnd (v.cells.size.beq 1) (writeC H a v.cells.toList) none := storeV_sz ty54
@[simp] theorem ty56 : TE.types 56 = (some ⟨1, false, [.nilFunc], (.func #[22, 31] #[22, 52] false), 8⟩) := by kernel_rfl
@[simp] theorem ld56 (H : Hp) (a : Addr) : loadV TE H 56 a = ldS H a := loadV_s ty56
@[simp] theorem st56 (H : Hp) (a : Addr) (v : Value) : storeV TE H 56 a v = cnd (v.cells.size.beq 1) (writeC H a v.cells.toList) none := storeV_sz ty56
@[simp] theorem ty57 : TE.types 57 = (some ⟨1, false, [.nilFunc], (.func #[22, 23] #[4] false), 8⟩) := by kernel_rfl
@[simp] theorem ld57 (H : Hp) (a : Addr) : loadV TE H 57 a = ldS H a := loadV_s ty57
@[simp] theorem st57 (H : Hp) (a : Addr) (v : Value) : storeV TE H 57 a v = cnd (v.cells.size.beq 1) (writeC H a v.cells.toList) none := storeV_sz ty57
@[simp] theorem ty58 : TE.types 58 = (some ⟨1, false, [.nilFunc], (.func #[22] #[4] false), 8⟩) := by kernel_rfl
@[simp] theorem ld58 (H : Hp) (a : Addr) : loadV TE H 58 a = ldS H a := loadV_s ty58
@[simp] theorem st58 (H : Hp) (a : Addr) (v : Value) : storeV TE H 58 a v = cnd (v.cells.size.beq 1) (writeC H a v.cells.toList) none := storeV_sz ty58
@[simp] theorem ty60 : TE.types 60 = (some ⟨1, false, [.nilFunc], (.func #[22] #[40, 52] false), 8⟩) := by kernel_rfl
@[simp] theorem ld60 (H : Hp) (a : Addr) : loadV TE H 60 a = ldS H a := loadV_s ty60
@[simp] theorem st60 (H : Hp) (a : Addr) (v : Value) : storeV TE H 60 a v = cnd (v.cells.size.beq 1) (writeC H a v.cells.toList) none := storeV_sz ty60
@[simp] theorem ty61 : TE.types 61 = (some ⟨1, false, [(.slice none 0 0)], (.slice 69), 24⟩) := by kernel_rfl
@[simp] theorem ld61 (H : Hp) (a : Addr) : loadV TE H 61 a = ldS H a := loadV_s ty61
@[simp] theorem st61 (H : Hp) (a : Addr) (v : Value) : storeV TE H 61 a v = cnd (v.cells.size.beq 1) (writeC H a v.cells.toList) none := storeV_sz ty61
@[simp] theorem ty63 : TE.types 63 = (some ⟨1, false, [.nilFunc], (.func #[22] #[61, 3] false), 8⟩) := by kernel_rfl
@[simp] theorem ld63 (H : Hp) (a : Addr) : loadV TE H 63 a = ldS H a := loadV_s ty63
@[simp] theorem st63 (H : Hp) (a : Addr) (v : Value) : storeV TE H 63 a v = cnd (v.cells.size.beq 1) (writeC H a v.cells.toList) none := storeV_sz ty63
@[simp] theorem ty64 : TE.types 64 = (some ⟨1, false, [(.slice none 0 0)], (.slice 3), 24⟩) := by kernel_rfl
@[simp] theorem ld64 (H : Hp) (a : Addr) : loadV TE H 64 a = ldS H a := loadV_s ty64
@[simp] theorem st64 (H : Hp) (a : Addr) (v : Value) : storeV TE H 64 a v = cnd (v.cells.size.beq 1) (writeC H a v.cells.toList) none := storeV_sz ty64
@[simp] theorem ty65 : TE.types 65 = (some ⟨1, false, [(.slice none 0 0)], (.slice 71), 24⟩) := by kernel_rfl
@[simp] theorem ld65 (H : Hp) (a : Addr) : loadV TE H 65 a = ldS H a := loadV_s ty65
@[simp] theorem st65 (H : Hp) (a : Addr) (v : Value) : storeV TE H 65 a v = cnd (v.cells.size.beq 1) (writeC H a v.cells.toList) none := storeV_sz ty65
@[simp] theorem ty67 : TE.types 67 = (some ⟨1, false, [.nilFunc], (.func #[22] #[3, 64, 65] false), 8⟩) := by kernel_rfl
@[simp] theorem ld67 (H : Hp) (a : Addr) : loadV TE H 67 a = ldS H a := loadV_s ty67
@[simp] theorem st67 (H : Hp) (a : Addr) (v : Value) : storeV TE H 67 a v = cnd (v.cells.size.beq 1) (writeC H a v.cells.toList) none := storeV_sz ty67
@[simp] theorem ty68 : TE.types 68 = (some ⟨2, true, [(.int .i64 0), (.slice none 0 0)], (.struct #[(Field.mk "Type" 3 0 false "" "" 0), (Field.mk "Data" 22 1 false "" "" 8)]), 32⟩) := by kernel_rfl
@[simp] theorem ld68 (H : Hp) (a : Addr) : loadV TE H 68 a = ldA H a 2 := loadV_a ty68
@[simp] theorem st68 (H : Hp) (a : Addr) (v : Value) : storeV TE H 68 a v = cnd (v.cells.size.beq 2) (writeC H a v.cells.toList) none := storeV_sz ty68
@[simp] theorem ty69 : TE.types 69 = (some ⟨2, true, [(.int .i64 0), (.slice none 0 0)], (.struct #[(Field.mk "Type" 3 0 false "" "" 0), (Field.mk "Data" 22 1 false "" "" 8)]), 32⟩) := by kernel_rfl
@[simp] theorem ld69 (H : Hp) (a : Addr) : loadV TE H 69 a = ldA H a 2 := loadV_a ty69
@[simp] theorem st69 (H : Hp) (a : Addr) (v : Value) : storeV TE H 69 a v = cnd (v.cells.size.beq 2) (writeC H a v.cells.toList) none := storeV_sz ty69
@[simp] theorem ty70 : TE.types 70 = (some ⟨1, false, [.nilFunc], (.func #[22, 22] #[4] false), 8⟩) := by kernel_rfl
@[simp] theorem ld70 (H : Hp) (a : Addr) : loadV TE H 70 a = ldS H a := loadV_s ty70
@[simp] theorem st70 (H : Hp) (a : Addr) (v : Value) : storeV TE H 70 a v = cnd (v.cells.size.beq 1) (writeC H a v.cells.toList) none := storeV_sz ty70
@[simp] theorem ty71 : TE.types 71 = (some ⟨2, true, [(.int .i64 0), (.int .i64 0)], (.array 2 3), 16⟩) := by kernel_rfl
@[simp] theorem ld71 (H : Hp) (a : Addr) : loadV TE H 71 a = ldA H a 2 := loadV_a ty71
@[simp] theorem st71 (H : Hp) (a : Addr) (v : Value) : storeV TE H 71 a v = cnd (v.cells.size.beq 2) (writeC H a v.cells.toList) none := storeV_sz ty71
@[simp] theorem ty73 : TE.types 73 = (some ⟨1, false, [.nilFunc], (.func #[22, 29] #[51, 3, 52] false), 8⟩) := by kernel_rfl
@[simp] theorem ld73 (H : Hp) (a : Addr) : loadV TE H 73 a = ldS H a := loadV_s ty73
@[simp] theorem st73 (H : Hp) (a : Addr) (v : Value) : storeV TE H 73 a v = cnd (v.cells.size.beq 1) (writeC H a v.cells.toList) none := storeV_sz ty73
@[simp] theorem ty74 : TE.types 74 = (some ⟨1, false, [.nilFunc], (.func #[51, 51] #[4] false), 8⟩) := by kernel_rfl
@[simp] theorem ld74 (H : Hp) (a : Addr) : loadV TE H 74 a = ldS H a := loadV_s ty74
@[simp] theorem st74 (H : Hp) (a : Addr) (v : Value) : storeV TE H 74 a v = cnd (v.cells.size.beq 1) (writeC H a v.cells.toList) none := storeV_sz ty74
@[simp] theorem ty75 : TE.types 75 = (some ⟨1, false, [.nilFunc], (.func #[22, 31] #[4] false), 8⟩) := by kernel_rfl
@[simp] theorem ld75 (H : Hp) (a : Addr) : loadV TE H 75 a = ldS H a := loadV_s ty75
@[simp] theorem st75 (H : Hp) (a : Addr) (v : Value) : storeV TE H 75 a v = cnd (v.cells.size.beq 1) (writeC H a v.cells.toList) none := storeV_sz ty75
@[simp] theorem ty76 : TE.types 76 = (some ⟨1, false, [.nilFunc], (.func #[29, 4, 64, 49] #[22, 52] true), 8⟩) := by kernel_rfl
@[simp] theorem ld76 (H : Hp) (a : Addr) : loadV TE H 76 a = ldS H a := loadV_s ty76
@[simp] theorem st76 (H : Hp) (a : Addr) (v : Value) : storeV TE H 76 a v = cnd (v.cells.size.beq 1) (writeC H a v.cells.toList) none := storeV_sz ty76
@[simp] theorem ty78 : TE.types 78 = (some ⟨1, false, [.nilFunc], (.func #[22] #[47, 3, 52] false), 8⟩) := by kernel_rfl
@[simp] theorem ld78 (H : Hp) (a : Addr) : loadV TE H 78 a = ldS H a := loadV_s ty78
@[simp] theorem st78 (H : Hp) (a : Addr) (v : Value) : storeV TE H 78 a v = cnd (v.cells.size.beq 1) (writeC H a v.cells.toList) none := storeV_sz ty78
@[simp] theorem ty80 : TE.types 80 = (some ⟨1, false, [.nilFunc], (.func #[47, 29] #[29, 4] false), 8⟩) := by kernel_rfl
@[simp] theorem ld80 (H : Hp) (a : Addr) : loadV TE H 80 a = ldS H a := loadV_s ty80
@[simp] theorem st80 (H : Hp) (a : Addr) (v : Value) : storeV TE H 80 a v = cnd (v.cells.size.beq 1) (writeC H a v.cells.toList) none := storeV_sz ty80
@[simp] theorem ty81 : TE.types 81 = (some ⟨1, false, [.nilFunc], (.func #[25, 82] #[4] false), 8⟩) := by kernel_rfl
@[simp] theorem ld81 (H : Hp) (a : Addr) : loadV TE H 81 a = ldS H a := loadV_s ty81
@[simp] theorem st81 (H : Hp) (a : Addr) (v : Value) : storeV TE H 81 a v = cnd (v.cells.size.beq 1) (writeC H a v.cells.toList) none := storeV_sz ty81
@[simp] theorem ty82 : TE.types 82 = (some ⟨1, false, [.nilFunc], (.func #[31] #[4] false), 8⟩) := by kernel_rfl
@[simp] theorem ld82 (H : Hp) (a : Addr) : loadV TE H 82 a = ldS H a := loadV_s ty82
@[simp] theorem st82 (H : Hp) (a : Addr) (v : Value) : storeV TE H 82 a v = cnd (v.cells.size.beq 1) (writeC H a v.cells.toList) none := storeV_sz ty82
@[simp] theorem ty83 : TE.types 83 = (some ⟨1, false, [.nilFunc], (.func #[25, 32] #[] false), 8⟩) := by kernel_rfl
@[simp] theorem ld83 (H : Hp) (a : Addr) : loadV TE H 83 a = ldS H a := loadV_s ty83
@[simp] theorem st83 (H : Hp) (a : Addr) (v : Value) : storeV TE H 83 a v = cnd (v.cells.size.beq 1) (writeC H a v.cells.toList) none := storeV_sz ty83
@[simp] theorem ty85 : TE.types 85 = (some ⟨1, false, [.nilFunc], (.func #[3] #[3, 52] false), 8⟩) := by kernel_rfl
@[simp] theorem ld85 (H : Hp) (a : Addr) : loadV TE H 85 a = ldS H a := loadV_s ty85
@[simp] theorem st85 (H : Hp) (a : Addr) (v : Value) : storeV TE H 85 a v = cnd (v.cells.size.beq 1) (writeC H a v.cells.toList) none := storeV_sz ty85
@[simp] theorem ty86 : TE.types 86 = (some ⟨1, false, [.nilFunc], (.func #[64] #[3] true), 8⟩) := by kernel_rfl
@[simp] theorem ld86 (H : Hp) (a : Addr) : loadV TE H 86 a = ldS H a := loadV_s ty86
@[simp] theorem st86 (H : Hp) (a : Addr) (v : Value) : storeV TE H 86 a v = cnd (v.cells.size.beq 1) (writeC H a v.cells.toList) none := storeV_sz ty86
@[simp] theorem ty87 : TE.types 87 = (some ⟨1, false, [.nilFunc], (.func #[3, 3] #[3] false), 8⟩) := by kernel_rfl
@[simp] theorem ld87 (H : Hp) (a : Addr) : loadV TE H 87 a = ldS H a := loadV_s ty87
@[simp] theorem st87 (H : Hp) (a : Addr) (v : Value) : storeV TE H 87 a v = cnd (v.cells.size.beq 1) (writeC H a v.cells.toList) none := storeV_sz ty87
@[simp] theorem ty88 : TE.types 88 = (some ⟨1, false, [.nilFunc], (.func #[4] #[3] false), 8⟩) := by kernel_rfl
@[simp] theorem ld88 (H : Hp) (a : Addr) : loadV TE H 88 a = ldS H a := loadV_s ty88
@[simp] theorem st88 (H : Hp) (a : Addr) (v : Value) : storeV TE H 88 a v = cnd (v.cells.size.beq 1) (writeC H a v.cells.toList) none := storeV_sz ty88
@[simp] theorem ty89 : TE.types 89 = (some ⟨1, false, [.nilFunc], (.func #[29, 29] #[3] false), 8⟩) := by kernel_rfl
@[simp] theorem ld89 (H : Hp) (a : Addr) : loadV TE H 89 a = ldS H a := loadV_s ty89
@[simp] theorem st89 (H : Hp) (a : Addr) (v : Value) : storeV TE H 89 a v = cnd (v.cells.size.beq 1) (writeC H a v.cells.toList) none := storeV_sz ty89
@[simp] theorem ty91 : TE.types 91 = (some ⟨1, false, [.nilFunc], (.func #[22, 22] #[22, 4] false), 8⟩) := by kernel_rfl
@[simp] theorem ld91 (H : Hp) (a : Addr) : loadV TE H 91 a = ldS H a := loadV_s ty91
@[simp] theorem st91 (H : Hp) (a : Addr) (v : Value) : storeV TE H 91 a v = cnd (v.cells.size.beq 1) (writeC H a v.cells.toList) none := storeV_sz ty91
@[simp] theorem ty92 : TE.types 92 = (some ⟨3, true, [(.int .i64 0), (.int .i64 0), (.int .i64 0)], (.array 3 3), 24⟩) := by kernel_rfl
@[simp] theorem ld92 (H : Hp) (a : Addr) : loadV TE H 92 a = ldA H a 3 := loadV_a ty92
@[simp] theorem st92 (H : Hp) (a : Addr) (v : Value) : storeV TE H 92 a v = cnd (v.cells.size.beq 3) (writeC H a v.cells.toList) none := storeV_sz ty92
@[simp] theorem ty93 : TE.types 93 = (some ⟨1, false, [.nilFunc], (.func #[92, 92] #[4] false), 8⟩) := by kernel_rfl
@[simp] theorem ld93 (H : Hp) (a : Addr) : loadV TE H 93 a = ldS H a := loadV_s ty93
@[simp] theorem st93 (H : Hp) (a : Addr) (v : Value) : storeV TE H 93 a v = cnd (v.cells.size.beq 1) (writeC H a v.cells.toList) none := storeV_sz ty93
@[simp] theorem ty94 : TE.types 94 = (some ⟨1, false, [.nilFunc], (.func #[23, 89] #[] false), 8⟩) := by kernel_rfl
@[simp] theorem ld94 (H : Hp) (a : Addr) : loadV TE H 94 a = ldS H a := loadV_s ty94
@[simp] theorem st94 (H : Hp) (a : Addr) (v : Value) : storeV TE H 94 a v = cnd (v.cells.size.beq 1) (writeC H a v.cells.toList) none := storeV_sz ty94
@[simp] theorem ty95 : TE.types 95 = (some ⟨1, false, [.nilFunc], (.func #[22] #[22] false), 8⟩) := by kernel_rfl
@[simp] theorem ld95 (H : Hp) (a : Addr) : loadV TE H 95 a = ldS H a := loadV_s ty95
@[simp] theorem st95 (H : Hp) (a : Addr) (v : Value) : storeV TE H 95 a v = cnd (v.cells.size.beq 1) (writeC H a v.cells.toList) none := storeV_sz ty95
@[simp] theorem ty96 : TE.types 96 = (some ⟨1, false, [.nilFunc], (.func #[22] #[3] false), 8⟩) := by kernel_rfl
@[simp] theorem ld96 (H : Hp) (a : Addr) : loadV TE H 96 a = ldS H a := loadV_s ty96
@[simp] theorem st96 (H : Hp) (a : Addr) (v : Value) : storeV TE H 96 a v = cnd (v.cells.size.beq 1) (writeC H a v.cells.toList) none := storeV_sz ty96
@[simp] theorem ty97 : TE.types 97 = (some ⟨1, false, [(.int .u64 0)], (.int .u64), 8⟩) := by kernel_rfl
@[simp] theorem ld97 (H : Hp) (a : Addr) : loadV TE H 97 a = ldS H a := loadV_s ty97
@[simp] theorem st97 (H : Hp) (a : Addr) (v : Value) : storeV TE H 97 a v = cnd (v.cells.size.beq 1) (writeC H a v.cells.toList) none := storeV_sz ty97
@[simp] theorem ty98 : TE.types 98 = (some ⟨1, false, [.nilFunc], (.func #[40] #[52] false), 8⟩) := by kernel_rfl
@[simp] theorem ld98 (H : Hp) (a : Addr) : loadV TE H 98 a = ldS H a := loadV_s ty98
@[simp] theorem st98 (H : Hp) (a : Addr) (v : Value) : storeV TE H 98 a v = cnd (v.cells.size.beq 1) (writeC H a v.cells.toList) none := storeV_sz ty98
@[simp] theorem ty99 : TE.types 99 = (some ⟨1, false, [.nilFunc], (.func #[47, 29] #[3, 52] false), 8⟩) := by kernel_rfl
@[simp] theorem ld99 (H : Hp) (a : Addr) : loadV TE H 99 a = ldS H a := loadV_s ty99
@[simp] theorem st99 (H : Hp) (a : Addr) (v : Value) : storeV TE H 99 a v = cnd (v.cells.size.beq 1) (writeC H a v.cells.toList) none := storeV_sz ty99
@[simp] theorem ty100 : TE.types 100 = (some ⟨1, false, [(.pointer none)], (.pointer 159), 8⟩) := by kernel_rfl
@[simp] theorem ld100 (H : Hp) (a : Addr) : loadV TE H 100 a = ldS H a := loadV_s ty100
@[simp] theorem st100 (H : Hp) (a : Addr) (v : Value) : storeV TE H 100 a v = cnd (v.cells.size.beq 1) (writeC H a v.cells.toList) none := storeV_sz ty100
@[simp] theorem ty101 : TE.types 101 = (some ⟨1, false, [.nilFunc], (.func #[22] #[100] false), 8⟩) := by kernel_rfl
@[simp] theorem ld101 (H : Hp) (a : Addr) : loadV TE H 101 a = ldS H a := loadV_s ty101
@[simp] theorem st101 (H : Hp) (a : Addr) (v : Value) : storeV TE H 101 a v = cnd (v.cells.size.beq 1) (writeC H a v.cells.toList) none := storeV_sz ty101
@[simp] theorem ty102 : TE.types 102 = (some ⟨1, false, [.nilFunc], (.func #[3] #[52] false), 8⟩) := by kernel_rfl
@[simp] theorem ld102 (H : Hp) (a : Addr) : loadV TE H 102 a = ldS H a := loadV_s ty102
@[simp] theorem st102 (H : Hp) (a : Addr) (v : Value) : storeV TE H 102 a v = cnd (v.cells.size.beq 1) (writeC H a v.cells.toList) none := storeV_sz ty102
@[simp] theorem ty103 : TE.types 103 = (some ⟨3, true, [(.int .i64 0), (.int .i64 0), (.slice none 0 0)], (.struct #[(Field.mk "Precision" 3 0 false "" "" 0), (Field.mk "Shift" 3 1 false "" "" 8), (Field.mk "Coefs" 64 2 false "" "" 16)]), 40⟩) := by kernel_rfl
@[simp] theorem ld103 (H : Hp) (a : Addr) : loadV TE H 103 a = ldA H a 3 := loadV_a ty103
@[simp] theorem st103 (H : Hp) (a : Addr) (v : Value) : storeV TE H 103 a v = cnd (v.cells.size.beq 3) (writeC H a v.cells.toList) none := storeV_sz ty103
@[simp] theorem ty104 : TE.types 104 = (some ⟨3, true, [(.int .i64 0), (.int .i64 0), (.slice none 0 0)], (.struct #[(Field.mk "Precision" 3 0 false "" "" 0), (Field.mk "Shift" 3 1 false "" "" 8), (Field.mk "Coefs" 64 2 false "" "" 16)]), 40⟩) := by kernel_rfl
@[simp] theorem ld104 (H : Hp) (a : Addr) : loadV TE H 104 a = ldA H a 3 := loadV_a ty104
@[simp] theorem st104 (H : Hp) (a : Addr) (v : Value) : storeV TE H 104 a v = cnd (v.cells.size.beq 3) (writeC H a v.cells.toList) none := storeV_sz ty104
@[simp] theorem ty105 : TE.types 105 = (some ⟨4, true, [(.int .i64 0), (.int .i64 0), (.slice none 0 0), (.slice none 0 0)], (.struct #[(Field.mk "Method" 3 0 false "" "" 0), (Field.mk "Order" 3 1 false "" "" 8), (Field.mk "Params" 64 2 false "" "" 16), (Field.mk "Bits" 64 3 false "" "" 40)]), 64⟩) := by kernel_rfl
@[simp] theorem ld105 (H : Hp) (a : Addr) : loadV TE H 105 a = ldA H a 4 := loadV_a ty105
@[simp] theorem st105 (H : Hp) (a : Addr) (v : Value) : storeV TE H 105 a v = cnd (v.cells.size.beq 4) (writeC H a v.cells.toList) none := storeV_sz ty105
@[simp] theorem ty106 : TE.types 106 = (some ⟨4, true, [(.int .i64 0), (.int .i64 0), (.slice none 0 0), (.slice none 0 0)], (.struct #[(Field.mk "Method" 3 0 false "" "" 0), (Field.mk "Order" 3 1 false "" "" 8), (Field.mk "Params" 64 2 false "" "" 16), (Field.mk "Bits" 64 3 false "" "" 40)]), 64⟩) := by kernel_rfl
@[simp] theorem ld106 (H : Hp) (a : Addr) : loadV TE H 106 a = ldA H a 4 := loadV_a ty106
@[simp] theorem st106 (H : Hp) (a : Addr) (v : Value) : storeV TE H 106 a v = cnd (v.cells.size.beq 4) (writeC H a v.cells.toList) none := storeV_sz ty106
@[simp] theorem ty107 : TE.types 107 = (some ⟨10, true, [(.int .i64 0), (.int .i64 0), (.int .i64 0), (.int .i64 0), (.int .i64 0), (.slice none 0 0), (.int .i64 0), (.int .i64 0), (.slice none 0 0), (.slice none 0 0)], (.struct #[(Field.mk "Kind" 3 0 false "" "" 0), (Field.mk "Order" 3 1 false "" "" 8), (Field.mk "Wasted" 3 2 false "" "" 16), (Field.mk "Linear" 104 3 false "" "" 24), (Field.mk "Rice" 106 6 false "" "" 64)]), 128⟩) := by kernel_rfl
@[simp] theorem ld107 (H : Hp) (a : Addr) : loadV TE H 107 a = ldA H a 10 := loadV_a ty107
@[simp] theorem st107 (H : Hp) (a : Addr) (v : Value) : storeV TE H 107 a v = cnd (v.cells.size.beq 10) (writeC H a v.cells.toList) none := storeV_sz ty107
@[simp] theorem ty108 : TE.types 108 = (some ⟨10, true, [(.int .i64 0), (.int .i64 0), (.int .i64 0), (.int .i64 0), (.int .i64 0), (.slice none 0 0), (.int .i64 0), (.int .i64 0), (.slice none 0 0), (.slice none 0 0)], (.struct #[(Field.mk "Kind" 3 0 false "" "" 0), (Field.mk "Order" 3 1 false "" "" 8), (Field.mk "Wasted" 3 2 false "" "" 16), (Field.mk "Linear" 104 3 false "" "" 24), (Field.mk "Rice" 106 6 false "" "" 64)]), 128⟩) := by kernel_rfl
@[simp] theorem ld108 (H : Hp) (a : Addr) : loadV TE H 108 a = ldA H a 10 := loadV_a ty108
@[simp] theorem st108 (H : Hp) (a : Addr) (v : Value) : storeV TE H 108 a v = cnd (v.cells.size.beq 10) (writeC H a v.cells.toList) none := storeV_sz ty108
@[simp] theorem ty110 : TE.types 110 = (some ⟨1, false, [.nilFunc], (.func #[100, 3, 3] #[64, 108, 52] false), 8⟩) := by kernel_rfl
@[simp] theorem ld110 (H : Hp) (a : Addr) : loadV TE H 110 a = ldS H a := loadV_s ty110
@[simp] theorem st110 (H : Hp) (a : Addr) (v : Value) : storeV TE H 110 a v = cnd (v.cells.size.beq 1) (writeC H a v.cells.toList) none := storeV_sz ty110
@[simp] theorem ty111 : TE.types 111 = (some ⟨1, false, [.nilFunc], (.func #[] #[3, 52] false), 8⟩) := by kernel_rfl
@[simp] theorem ld111 (H : Hp) (a : Addr) : loadV TE H 111 a = ldS H a := loadV_s ty111
@[simp] theorem st111 (H : Hp) (a : Addr) (v : Value) : storeV TE H 111 a v = cnd (v.cells.size.beq 1) (writeC H a v.cells.toList) none := storeV_sz ty111
@[simp] theorem ty112 : TE.types 112 = (some ⟨1, false, [.nilFunc], (.func #[] #[3] false), 8⟩) := by kernel_rfl
@[simp] theorem ld112 (H : Hp) (a : Addr) : loadV TE H 112 a = ldS H a := loadV_s ty112
@[simp] theorem st112 (H : Hp) (a : Addr) (v : Value) : storeV TE H 112 a v = cnd (v.cells.size.beq 1) (writeC H a v.cells.toList) none := storeV_sz ty112
@[simp] theorem ty113 : TE.types 113 = (some ⟨1, false, [.nilFunc], (.func #[124] #[3] true), 8⟩) := by kernel_rfl
@[simp] theorem ld113 (H : Hp) (a : Addr) : loadV TE H 113 a = ldS H a := loadV_s ty113
@[simp] theorem st113 (H : Hp) (a : Addr) (v : Value) : storeV TE H 113 a v = cnd (v.cells.size.beq 1) (writeC H a v.cells.toList) none := storeV_sz ty113
@[simp] theorem ty115 : TE.types 115 = (some ⟨1, false, [.nilFunc], (.func #[3, 64, 64] #[64, 64, 52] false), 8⟩) := by kernel_rfl
@[simp] theorem ld115 (H : Hp) (a : Addr) : loadV TE H 115 a = ldS H a := loadV_s ty115
@[simp] theorem st115 (H : Hp) (a : Addr) (v : Value) : storeV TE H 115 a v = cnd (v.cells.size.beq 1) (writeC H a v.cells.toList) none := storeV_sz ty115
@[simp] theorem ty116 : TE.types 116 = (some ⟨1, false, [.nilFunc], (.func #[3, 49] #[4] false), 8⟩) := by kernel_rfl
@[simp] theorem ld116 (H : Hp) (a : Addr) : loadV TE H 116 a = ldS H a := loadV_s ty116
@[simp] theorem st116 (H : Hp) (a : Addr) (v : Value) : storeV TE H 116 a v = cnd (v.cells.size.beq 1) (writeC H a v.cells.toList) none := storeV_sz ty116
@[simp] theorem ty117 : TE.types 117 = (some ⟨1, false, [.nilFunc], (.func #[48, 48, 118] #[4] false), 8⟩) := by kernel_rfl
@[simp] theorem ld117 (H : Hp) (a : Addr) : loadV TE H 117 a = ldS H a := loadV_s ty117
@[simp] theorem st117 (H : Hp) (a : Addr) (v : Value) : storeV TE H 117 a v = cnd (v.cells.size.beq 1) (writeC H a v.cells.toList) none := storeV_sz ty117
@[simp] theorem ty118 : TE.types 118 = (some ⟨1, false, [.nilFunc], (.func #[108, 108] #[4] false), 8⟩) := by kernel_rfl
@[simp] theorem ld118 (H : Hp) (a : Addr) : loadV TE H 118 a = ldS H a := loadV_s ty118
@[simp] theorem st118 (H : Hp) (a : Addr) (v : Value) : storeV TE H 118 a v = cnd (v.cells.size.beq 1) (writeC H a v.cells.toList) none := storeV_sz ty118
@[simp] theorem ty119 : TE.types 119 = (some ⟨1, false, [.nilFunc], (.func #[49, 49, 120] #[4] false), 8⟩) := by kernel_rfl
@[simp] theorem ld119 (H : Hp) (a : Addr) : loadV TE H 119 a = ldS H a := loadV_s ty119
@[simp] theorem st119 (H : Hp) (a : Addr) (v : Value) : storeV TE H 119 a v = cnd (v.cells.size.beq 1) (writeC H a v.cells.toList) none := storeV_sz ty119
@[simp] theorem ty120 : TE.types 120 = (some ⟨1, false, [.nilFunc], (.func #[64, 64] #[4] false), 8⟩) := by kernel_rfl
@[simp] theorem ld120 (H : Hp) (a : Addr) : loadV TE H 120 a = ldS H a := loadV_s ty120
@[simp] theorem st120 (H : Hp) (a : Addr) (v : Value) : storeV TE H 120 a v = cnd (v.cells.size.beq 1) (writeC H a v.cells.toList) none := storeV_sz ty120
@[simp] theorem ty121 : TE.types 121 = (some ⟨1, false, [.nilFunc], (.func #[4, 64, 3] #[4] false), 8⟩) := by kernel_rfl
@[simp] theorem ld121 (H : Hp) (a : Addr) : loadV TE H 121 a = ldS H a := loadV_s ty121
@[simp] theorem st121 (H : Hp) (a : Addr) (v : Value) : storeV TE H 121 a v = cnd (v.cells.size.beq 1) (writeC H a v.cells.toList) none := storeV_sz ty121
@[simp] theorem ty122 : TE.types 122 = (some ⟨1, false, [.nilFunc], (.func #[49, 123] #[4] false), 8⟩) := by kernel_rfl
@[simp] theorem ld122 (H : Hp) (a : Addr) : loadV TE H 122 a = ldS H a := loadV_s ty122
@[simp] theorem st122 (H : Hp) (a : Addr) (v : Value) : storeV TE H 122 a v = cnd (v.cells.size.beq 1) (writeC H a v.cells.toList) none := storeV_sz ty122
@[simp] theorem ty123 : TE.types 123 = (some ⟨1, false, [.nilFunc], (.func #[64] #[4] false), 8⟩) := by kernel_rfl
@[simp] theorem ld123 (H : Hp) (a : Addr) : loadV TE H 123 a = ldS H a := loadV_s ty123
@[simp] theorem st123 (H : Hp) (a : Addr) (v : Value) : storeV TE H 123 a v = cnd (v.cells.size.beq 1) (writeC H a v.cells.toList) none := storeV_sz ty123
@[simp] theorem ty124 : TE.types 124 = (some ⟨1, false, [(.slice none 0 0)], (.slice 22), 24⟩) := by kernel_rfl
@[simp] theorem ld124 (H : Hp) (a : Addr) : loadV TE H 124 a = ldS H a := loadV_s ty124
@[simp] theorem st124 (H : Hp) (a : Addr) (v : Value) : storeV TE H 124 a v = cnd (v.cells.size.beq 1) (writeC H a v.cells.toList) none := storeV_sz ty124
@[simp] theorem ty125 : TE.types 125 = (some ⟨1, false, [(.slice none 0 0)], (.slice 129), 24⟩) := by kernel_rfl
@[simp] theorem ld125 (H : Hp) (a : Addr) : loadV TE H 125 a = ldS H a := loadV_s ty125
@[simp] theorem st125 (H : Hp) (a : Addr) (v : Value) : storeV TE H 125 a v = cnd (v.cells.size.beq 1) (writeC H a v.cells.toList) none := storeV_sz ty125
@[simp] theorem ty126 : TE.types 126 = (some ⟨1, false, [.nilFunc], (.func #[4, 3, 29, 49] #[51, 52] true), 8⟩) := by kernel_rfl
@[simp] theorem ld126 (H : Hp) (a : Addr) : loadV TE H 126 a = ldS H a := loadV_s ty126
@[simp] theorem st126 (H : Hp) (a : Addr) (v : Value) : storeV TE H 126 a v = cnd (v.cells.size.beq 1) (writeC H a v.cells.toList) none := storeV_sz ty126
@[simp] theorem ty127 : TE.types 127 = (some ⟨1, false, [.nilFunc], (.func #[51, 29] #[22, 52] false), 8⟩) := by kernel_rfl
@[simp] theorem ld127 (H : Hp) (a : Addr) : loadV TE H 127 a = ldS H a := loadV_s ty127
@[simp] theorem st127 (H : Hp) (a : Addr) (v : Value) : storeV TE H 127 a v = cnd (v.cells.size.beq 1) (writeC H a v.cells.toList) none := storeV_sz ty127
@[simp] theorem ty128 : TE.types 128 = (some ⟨2, true, [(.int .i64 0), (.int .i64 0)], (.struct #[(Field.mk "Block" 3 0 false "" "" 0), (Field.mk "Bytes" 3 1 false "" "" 8)]), 16⟩) := by kernel_rfl
@[simp] theorem ld128 (H : Hp) (a : Addr) : loadV TE H 128 a = ldA H a 2 := loadV_a ty128
@[simp] theorem st128 (H : Hp) (a : Addr) (v : Value) : storeV TE H 128 a v = cnd (v.cells.size.beq 2) (writeC H a v.cells.toList) none := storeV_sz ty128
@[simp] theorem ty129 : TE.types 129 = (some ⟨2, true, [(.int .i64 0), (.int .i64 0)], (.struct #[(Field.mk "Block" 3 0 false "" "" 0), (Field.mk "Bytes" 3 1 false "" "" 8)]), 16⟩) := by kernel_rfl
@[simp] theorem ld129 (H : Hp) (a : Addr) : loadV TE H 129 a = ldA H a 2 := loadV_a ty129
@[simp] theorem st129 (H : Hp) (a : Addr) (v : Value) : storeV TE H 129 a v = cnd (v.cells.size.beq 2) (writeC H a v.cells.toList) none := storeV_sz ty129
@[simp] theorem ty131 : TE.types 131 = (some ⟨1, false, [.nilFunc], (.func #[3, 49] #[38, 52] true), 8⟩) := by kernel_rfl
@[simp] theorem ld131 (H : Hp) (a : Addr) : loadV TE H 131 a = ldS H a := loadV_s ty131
@[simp] theorem st131 (H : Hp) (a : Addr) (v : Value) : storeV TE H 131 a v = cnd (v.cells.size.beq 1) (writeC H a v.cells.toList) none := storeV_sz ty131
@[simp] theorem ty132 : TE.types 132 = (some ⟨1, false, [.nilFunc], (.func #[40] #[22, 52] false), 8⟩) := by kernel_rfl
@[simp] theorem ld132 (H : Hp) (a : Addr) : loadV TE H 132 a = ldS H a := loadV_s ty132
@[simp] theorem st132 (H : Hp) (a : Addr) (v : Value) : storeV TE H 132 a v = cnd (v.cells.size.beq 1) (writeC H a v.cells.toList) none := storeV_sz ty132
@[simp] theorem ty133 : TE.types 133 = (some ⟨1, false, [.nilFunc], (.func #[29, 38, 125] #[40] true), 8⟩) := by kernel_rfl
@[simp] theorem ld133 (H : Hp) (a : Addr) : loadV TE H 133 a = ldS H a := loadV_s ty133
@[simp] theorem st133 (H : Hp) (a : Addr) (v : Value) : storeV TE H 133 a v = cnd (v.cells.size.beq 1) (writeC H a v.cells.toList) none := storeV_sz ty133
@[simp] theorem ty134 : TE.types 134 = (some ⟨1, false, [.nilFunc], (.func #[61, 124] #[22, 52] true), 8⟩) := by kernel_rfl
@[simp] theorem ld134 (H : Hp) (a : Addr) : loadV TE H 134 a = ldS H a := loadV_s ty134
@[simp] theorem st134 (H : Hp) (a : Addr) (v : Value) : storeV TE H 134 a v = cnd (v.cells.size.beq 1) (writeC H a v.cells.toList) none := storeV_sz ty134
@[simp] theorem ty135 : TE.types 135 = (some ⟨1, false, [(.pointer none)], (.pointer 137), 8⟩) := by kernel_rfl
@[simp] theorem ld135 (H : Hp) (a : Addr) : loadV TE H 135 a = ldS H a := loadV_s ty135
@[simp] theorem st135 (H : Hp) (a : Addr) (v : Value) : storeV TE H 135 a v = cnd (v.cells.size.beq 1) (writeC H a v.cells.toList) none := storeV_sz ty135
@[simp] theorem ty136 : TE.types 136 = (some ⟨2, true, [(.pointer none), (.int .i64 0)], (.struct #[(Field.mk "Reader" 100 0 true "" "" 0), (Field.mk "e" 52 1 false "" "jetsam/header" 8)]), 16⟩) := by kernel_rfl
@[simp] theorem ld136 (H : Hp) (a : Addr) : loadV TE H 136 a = ldA H a 2 := loadV_a ty136
@[simp] theorem st136 (H : Hp) (a : Addr) (v : Value) : storeV TE H 136 a v = cnd (v.cells.size.beq 2) (writeC H a v.cells.toList) none := storeV_sz ty136
@[simp] theorem ty137 : TE.types 137 = (some ⟨2, true, [(.pointer none), (.int .i64 0)], (.struct #[(Field.mk "Reader" 100 0 true "" "" 0), (Field.mk "e" 52 1 false "" "jetsam/header" 8)]), 16⟩) := by kernel_rfl
@[simp] theorem ld137 (H : Hp) (a : Addr) : loadV TE H 137 a = ldA H a 2 := loadV_a ty137
@[simp] theorem st137 (H : Hp) (a : Addr) (v : Value) : storeV TE H 137 a v = cnd (v.cells.size.beq 2) (writeC H a v.cells.toList) none := storeV_sz ty137
@[simp] theorem ty138 : TE.types 138 = (some ⟨1, false, [.nilFunc], (.func #[] #[47] false), 8⟩) := by kernel_rfl
@[simp] theorem ld138 (H : Hp) (a : Addr) : loadV TE H 138 a = ldS H a := loadV_s ty138
@[simp] theorem st138 (H : Hp) (a : Addr) (v : Value) : storeV TE H 138 a v = cnd (v.cells.size.beq 1) (writeC H a v.cells.toList) none := storeV_sz ty138
@[simp] theorem ty140 : TE.types 140 = (some ⟨1, false, [.nilFunc], (.func #[22] #[3, 3, 52] false), 8⟩) := by kernel_rfl
@[simp] theorem ld140 (H : Hp) (a : Addr) : loadV TE H 140 a = ldS H a := loadV_s ty140
@[simp] theorem st140 (H : Hp) (a : Addr) (v : Value) : storeV TE H 140 a v = cnd (v.cells.size.beq 1) (writeC H a v.cells.toList) none := storeV_sz ty140
@[simp] theorem ty141 : TE.types 141 = (some ⟨1, false, [.nilFunc], (.func #[194] #[52] true), 8⟩) := by kernel_rfl
@[simp] theorem ld141 (H : Hp) (a : Addr) : loadV TE H 141 a = ldS H a := loadV_s ty141
@[simp] theorem st141 (H : Hp) (a : Addr) (v : Value) : storeV TE H 141 a v = cnd (v.cells.size.beq 1) (writeC H a v.cells.toList) none := storeV_sz ty141
@[simp] theorem ty142 : TE.types 142 = (some ⟨1, false, [.nilFunc], (.func #[4, 52] #[52] false), 8⟩) := by kernel_rfl
@[simp] theorem ld142 (H : Hp) (a : Addr) : loadV TE H 142 a = ldS H a := loadV_s ty142
@[simp] theorem st142 (H : Hp) (a : Addr) (v : Value) : storeV TE H 142 a v = cnd (v.cells.size.beq 1) (writeC H a v.cells.toList) none := storeV_sz ty142
@[simp] theorem ty143 : TE.types 143 = (some ⟨16, true, [(.int .i64 0), (.int .i64 0), (.int .i64 0), (.int .i64 0), (.int .i64 0), (.int .i64 0), (.int .i64 0), (.int .i64 0), (.int .i64 0), (.int .i64 0), (.int .i64 0), (.int .i64 0), (.int .i64 0), (.int .i64 0), (.int .i64 0), (.int .i64 0)], (.array 16 3), 128⟩) := by kernel_rfl
@[simp] theorem ld143 (H : Hp) (a : Addr) : loadV TE H 143 a = ldA H a 16 := loadV_a ty143
@[simp] theorem st143 (H : Hp) (a : Addr) (v : Value) : storeV TE H 143 a v = cnd (v.cells.size.beq 16) (writeC H a v.cells.toList) none := storeV_sz ty143
@[simp] theorem ty144 : TE.types 144 = (some ⟨8, true, [(.int .i64 0), (.int .i64 0), (.int .i64 0), (.int .i64 0), (.int .i64 0), (.int .i64 0), (.int .i64 0), (.int .i64 0)], (.array 8 3), 64⟩) := by kernel_rfl
@[simp] theorem ld144 (H : Hp) (a : Addr) : loadV TE H 144 a = ldA H a 8 := loadV_a ty144
@[simp] theorem st144 (H : Hp) (a : Addr) (v : Value) : storeV TE H 144 a v = cnd (v.cells.size.beq 8) (writeC H a v.cells.toList) none := storeV_sz ty144
@[simp] theorem ty145 : TE.types 145 = (some ⟨1, false, [.nilFunc], (.func #[3] #[3] false), 8⟩) := by kernel_rfl
@[simp] theorem ld145 (H : Hp) (a : Addr) : loadV TE H 145 a = ldS H a := loadV_s ty145
@[simp] theorem st145 (H : Hp) (a : Addr) (v : Value) : storeV TE H 145 a v = cnd (v.cells.size.beq 1) (writeC H a v.cells.toList) none := storeV_sz ty145
@[simp] theorem ty146 : TE.types 146 = (some ⟨1, false, [.nilFunc], (.func #[4, 52] #[] false), 8⟩) := by kernel_rfl
@[simp] theorem ld146 (H : Hp) (a : Addr) : loadV TE H 146 a = ldS H a := loadV_s ty146
@[simp] theorem st146 (H : Hp) (a : Addr) (v : Value) : storeV TE H 146 a v = cnd (v.cells.size.beq 1) (writeC H a v.cells.toList) none := storeV_sz ty146
@[simp] theorem ty148 : TE.types 148 = (some ⟨1, false, [.nilFunc], (.func #[3] #[3, 3] false), 8⟩) := by kernel_rfl
@[simp] theorem ld148 (H : Hp) (a : Addr) : loadV TE H 148 a = ldS H a := loadV_s ty148
@[simp] theorem st148 (H : Hp) (a : Addr) (v : Value) : storeV TE H 148 a v = cnd (v.cells.size.beq 1) (writeC H a v.cells.toList) none := storeV_sz ty148
@[simp] theorem ty149 : TE.types 149 = (some ⟨1, false, [.nilFunc], (.func #[25, 82] #[3] false), 8⟩) := by kernel_rfl
@[simp] theorem ld149 (H : Hp) (a : Addr) : loadV TE H 149 a = ldS H a := loadV_s ty149
@[simp] theorem st149 (H : Hp) (a : Addr) (v : Value) : storeV TE H 149 a v = cnd (v.cells.size.beq 1) (writeC H a v.cells.toList) none := storeV_sz ty149
@[simp] theorem ty150 : TE.types 150 = (some ⟨1, false, [.nilFunc], (.func #[25, 3, 3, 3, 32] #[] false), 8⟩) := by kernel_rfl
@[simp] theorem ld150 (H : Hp) (a : Addr) : loadV TE H 150 a = ldS H a := loadV_s ty150
@[simp] theorem st150 (H : Hp) (a : Addr) (v : Value) : storeV TE H 150 a v = cnd (v.cells.size.beq 1) (writeC H a v.cells.toList) none := storeV_sz ty150
@[simp] theorem ty151 : TE.types 151 = (some ⟨1, false, [.nilFunc], (.func #[97] #[3] false), 8⟩) := by kernel_rfl
@[simp] theorem ld151 (H : Hp) (a : Addr) : loadV TE H 151 a = ldS H a := loadV_s ty151
@[simp] theorem st151 (H : Hp) (a : Addr) (v : Value) : storeV TE H 151 a v = cnd (v.cells.size.beq 1) (writeC H a v.cells.toList) none := storeV_sz ty151
@[simp] theorem ty152 : TE.types 152 = (some ⟨1, false, [.nilFunc], (.func #[3] #[4] false), 8⟩) := by kernel_rfl
@[simp] theorem ld152 (H : Hp) (a : Addr) : loadV TE H 152 a = ldS H a := loadV_s ty152
@[simp] theorem st152 (H : Hp) (a : Addr) (v : Value) : storeV TE H 152 a v = cnd (v.cells.size.beq 1) (writeC H a v.cells.toList) none := storeV_sz ty152
@[simp] theorem ty153 : TE.types 153 = (some ⟨1, false, [.nilFunc], (.func #[23, 3, 3, 3, 89] #[] false), 8⟩) := by kernel_rfl
@[simp] theorem ld153 (H : Hp) (a : Addr) : loadV TE H 153 a = ldS H a := loadV_s ty153
@[simp] theorem st153 (H : Hp) (a : Addr) (v : Value) : storeV TE H 153 a v = cnd (v.cells.size.beq 1) (writeC H a v.cells.toList) none := storeV_sz ty153
@[simp] theorem ty154 : TE.types 154 = (some ⟨1, false, [.nilFunc], (.func #[3, 3, 3] #[4] false), 8⟩) := by kernel_rfl
@[simp] theorem ld154 (H : Hp) (a : Addr) : loadV TE H 154 a = ldS H a := loadV_s ty154
@[simp] theorem st154 (H : Hp) (a : Addr) (v : Value) : storeV TE H 154 a v = cnd (v.cells.size.beq 1) (writeC H a v.cells.toList) none := storeV_sz ty154
@[simp] theorem ty155 : TE.types 155 = (some ⟨1, false, [.nilFunc], (.func #[3, 3] #[4] false), 8⟩) := by kernel_rfl
@[simp] theorem ld155 (H : Hp) (a : Addr) : loadV TE H 155 a = ldS H a := loadV_s ty155
@[simp] theorem st155 (H : Hp) (a : Addr) (v : Value) : storeV TE H 155 a v = cnd (v.cells.size.beq 1) (writeC H a v.cells.toList) none := storeV_sz ty155
@[simp] theorem ty156 : TE.types 156 = (some ⟨1, true, [(.int .i64 0)], (.struct #[(Field.mk "at" 3 0 false "" "jetsam/bits" 0)]), 8⟩) := by kernel_rfl
@[simp] theorem ld156 (H : Hp) (a : Addr) : loadV TE H 156 a = ldA H a 1 := loadV_a ty156
@[simp] theorem st156 (H : Hp) (a : Addr) (v : Value) : storeV TE H 156 a v = cnd (v.cells.size.beq 1) (writeC H a v.cells.toList) none := storeV_sz ty156
@[simp] theorem ty157 : TE.types 157 = (some ⟨1, true, [(.int .i64 0)], (.struct #[(Field.mk "at" 3 0 false "" "jetsam/bits" 0)]), 8⟩) := by kernel_rfl
@[simp] theorem ld157 (H : Hp) (a : Addr) : loadV TE H 157 a = ldA H a 1 := loadV_a ty157
@[simp] theorem st157 (H : Hp) (a : Addr) (v : Value) : storeV TE H 157 a v = cnd (v.cells.size.beq 1) (writeC H a v.cells.toList) none := storeV_sz ty157
@[simp] theorem ty158 : TE.types 158 = (some ⟨2, true, [(.int .i64 0), (.slice none 0 0)], (.struct #[(Field.mk "place" 157 0 true "" "jetsam/bits" 0), (Field.mk "b" 22 1 false "" "jetsam/bits" 8)]), 32⟩) := by kernel_rfl
@[simp] theorem ld158 (H : Hp) (a : Addr) : loadV TE H 158 a = ldA H a 2 := loadV_a ty158
@[simp] theorem st158 (H : Hp) (a : Addr) (v : Value) : storeV TE H 158 a v = cnd (v.cells.size.beq 2) (writeC H a v.cells.toList) none := storeV_sz ty158
@[simp] theorem ty159 : TE.types 159 = (some ⟨2, true, [(.int .i64 0), (.slice none 0 0)], (.struct #[(Field.mk "place" 157 0 true "" "jetsam/bits" 0), (Field.mk "b" 22 1 false "" "jetsam/bits" 8)]), 32⟩) := by kernel_rfl
@[simp] theorem ld159 (H : Hp) (a : Addr) : loadV TE H 159 a = ldA H a 2 := loadV_a ty159
@[simp] theorem st159 (H : Hp) (a : Addr) (v : Value) : storeV TE H 159 a v = cnd (v.cells.size.beq 2) (writeC H a v.cells.toList) none := storeV_sz ty159
@[simp] theorem ty160 : TE.types 160 = (some ⟨1, false, [.nilFunc], (.func #[3, 3] #[52] false), 8⟩) := by kernel_rfl
@[simp] theorem ld160 (H : Hp) (a : Addr) : loadV TE H 160 a = ldS H a := loadV_s ty160
@[simp] theorem st160 (H : Hp) (a : Addr) (v : Value) : storeV TE H 160 a v = cnd (v.cells.size.beq 1) (writeC H a v.cells.toList) none := storeV_sz ty160
@[simp] theorem ty161 : TE.types 161 = (some ⟨1, false, [(.pointer none)], (.pointer 163), 8⟩) := by kernel_rfl
@[simp] theorem ld161 (H : Hp) (a : Addr) : loadV TE H 161 a = ldS H a := loadV_s ty161
@[simp] theorem st161 (H : Hp) (a : Addr) (v : Value) : storeV TE H 161 a v = cnd (v.cells.size.beq 1) (writeC H a v.cells.toList) none := storeV_sz ty161
@[simp] theorem ty162 : TE.types 162 = (some ⟨2, true, [(.pointer none), (.int .i64 0)], (.struct #[(Field.mk "Reader" 100 0 true "" "" 0), (Field.mk "e" 52 1 false "" "jetsam/subframe" 8)]), 16⟩) := by kernel_rfl
@[simp] theorem ld162 (H : Hp) (a : Addr) : loadV TE H 162 a = ldA H a 2 := loadV_a ty162
@[simp] theorem st162 (H : Hp) (a : Addr) (v : Value) : storeV TE H 162 a v = cnd (v.cells.size.beq 2) (writeC H a v.cells.toList) none := storeV_sz ty162
@[simp] theorem ty163 : TE.types 163 = (some ⟨2, true, [(.pointer none), (.int .i64 0)], (.struct #[(Field.mk "Reader" 100 0 true "" "" 0), (Field.mk "e" 52 1 false "" "jetsam/subframe" 8)]), 16⟩) := by kernel_rfl
@[simp] theorem ld163 (H : Hp) (a : Addr) : loadV TE H 163 a = ldA H a 2 := loadV_a ty163
@[simp] theorem st163 (H : Hp) (a : Addr) (v : Value) : storeV TE H 163 a v = cnd (v.cells.size.beq 2) (writeC H a v.cells.toList) none := storeV_sz ty163
@[simp] theorem ty165 : TE.types 165 = (some ⟨1, false, [.nilFunc], (.func #[3, 3] #[64, 108] false), 8⟩) := by kernel_rfl
@[simp] theorem ld165 (H : Hp) (a : Addr) : loadV TE H 165 a = ldS H a := loadV_s ty165
@[simp] theorem st165 (H : Hp) (a : Addr) (v : Value) : storeV TE H 165 a v = cnd (v.cells.size.beq 1) (writeC H a v.cells.toList) none := storeV_sz ty165
@[simp] theorem ty166 : TE.types 166 = (some ⟨2, true, [(.int .i64 0), (.int .i64 0)], (.struct #[(Field.mk "width" 3 0 false "" "jetsam/sums" 0), (Field.mk "poly" 3 1 false "" "jetsam/sums" 8)]), 16⟩) := by kernel_rfl
@[simp] theorem ld166 (H : Hp) (a : Addr) : loadV TE H 166 a = ldA H a 2 := loadV_a ty166
@[simp] theorem st166 (H : Hp) (a : Addr) (v : Value) : storeV TE H 166 a v = cnd (v.cells.size.beq 2) (writeC H a v.cells.toList) none := storeV_sz ty166
@[simp] theorem ty167 : TE.types 167 = (some ⟨2, true, [(.int .i64 0), (.int .i64 0)], (.struct #[(Field.mk "width" 3 0 false "" "jetsam/sums" 0), (Field.mk "poly" 3 1 false "" "jetsam/sums" 8)]), 16⟩) := by kernel_rfl
@[simp] theorem ld167 (H : Hp) (a : Addr) : loadV TE H 167 a = ldA H a 2 := loadV_a ty167
@[simp] theorem st167 (H : Hp) (a : Addr) (v : Value) : storeV TE H 167 a v = cnd (v.cells.size.beq 2) (writeC H a v.cells.toList) none := storeV_sz ty167
@[simp] theorem ty168 : TE.types 168 = (some ⟨1, false, [.nilFunc], (.func #[] #[167] false), 8⟩) := by kernel_rfl
@[simp] theorem ld168 (H : Hp) (a : Addr) : loadV TE H 168 a = ldS H a := loadV_s ty168
@[simp] theorem st168 (H : Hp) (a : Addr) (v : Value) : storeV TE H 168 a v = cnd (v.cells.size.beq 1) (writeC H a v.cells.toList) none := storeV_sz ty168
@[simp] theorem ty169 : TE.types 169 = (some ⟨1, false, [.nilFunc], (.func #[145, 124] #[3] true), 8⟩) := by kernel_rfl
@[simp] theorem ld169 (H : Hp) (a : Addr) : loadV TE H 169 a = ldS H a := loadV_s ty169
@[simp] theorem st169 (H : Hp) (a : Addr) (v : Value) : storeV TE H 169 a v = cnd (v.cells.size.beq 1) (writeC H a v.cells.toList) none := storeV_sz ty169
@[simp] theorem ty170 : TE.types 170 = (some ⟨1, false, [.nilFunc], (.func #[3, 49] #[52] true), 8⟩) := by kernel_rfl
@[simp] theorem ld170 (H : Hp) (a : Addr) : loadV TE H 170 a = ldS H a := loadV_s ty170
@[simp] theorem st170 (H : Hp) (a : Addr) (v : Value) : storeV TE H 170 a v = cnd (v.cells.size.beq 1) (writeC H a v.cells.toList) none := storeV_sz ty170
@[simp] theorem ty171 : TE.types 171 = (some ⟨1, false, [.nilFunc], (.func #[64, 64, 172] #[64, 64, 52] false), 8⟩) := by kernel_rfl
@[simp] theorem ld171 (H : Hp) (a : Addr) : loadV TE H 171 a = ldS H a := loadV_s ty171
@[simp] theorem st171 (H : Hp) (a : Addr) (v : Value) : storeV TE H 171 a v = cnd (v.cells.size.beq 1) (writeC H a v.cells.toList) none := storeV_sz ty171
@[simp] theorem ty172 : TE.types 172 = (some ⟨1, false, [.nilFunc], (.func #[3, 3] #[3, 3] false), 8⟩) := by kernel_rfl
@[simp] theorem ld172 (H : Hp) (a : Addr) : loadV TE H 172 a = ldS H a := loadV_s ty172
@[simp] theorem st172 (H : Hp) (a : Addr) (v : Value) : storeV TE H 172 a v = cnd (v.cells.size.beq 1) (writeC H a v.cells.toList) none := storeV_sz ty172
@[simp] theorem ty173 : TE.types 173 = (some ⟨1, false, [.nilFunc], (.func #[64, 152] #[4] false), 8⟩) := by kernel_rfl
@[simp] theorem ld173 (H : Hp) (a : Addr) : loadV TE H 173 a = ldS H a := loadV_s ty173
@[simp] theorem st173 (H : Hp) (a : Addr) (v : Value) : storeV TE H 173 a v = cnd (v.cells.size.beq 1) (writeC H a v.cells.toList) none := storeV_sz ty173
@[simp] theorem ty174 : TE.types 174 = (some ⟨1, false, [.nilFunc], (.func #[49, 123] #[3] false), 8⟩) := by kernel_rfl
@[simp] theorem ld174 (H : Hp) (a : Addr) : loadV TE H 174 a = ldS H a := loadV_s ty174
@[simp] theorem st174 (H : Hp) (a : Addr) (v : Value) : storeV TE H 174 a v = cnd (v.cells.size.beq 1) (writeC H a v.cells.toList) none := storeV_sz ty174
@[simp] theorem ty175 : TE.types 175 = (some ⟨1, false, [.nilFunc], (.func #[64, 64] #[3, 52] false), 8⟩) := by kernel_rfl
@[simp] theorem ld175 (H : Hp) (a : Addr) : loadV TE H 175 a = ldS H a := loadV_s ty175
@[simp] theorem st175 (H : Hp) (a : Addr) (v : Value) : storeV TE H 175 a v = cnd (v.cells.size.beq 1) (writeC H a v.cells.toList) none := storeV_sz ty175
@[simp] theorem ty177 : TE.types 177 = (some ⟨1, false, [.nilFunc], (.func #[4, 3, 3, 3, 29] #[47, 52] false), 8⟩) := by kernel_rfl
@[simp] theorem ld177 (H : Hp) (a : Addr) : loadV TE H 177 a = ldS H a := loadV_s ty177
@[simp] theorem st177 (H : Hp) (a : Addr) (v : Value) : storeV TE H 177 a v = cnd (v.cells.size.beq 1) (writeC H a v.cells.toList) none := storeV_sz ty177
@[simp] theorem ty178 : TE.types 178 = (some ⟨1, false, [.nilFunc], (.func #[3, 49] #[49] false), 8⟩) := by kernel_rfl
@[simp] theorem ld178 (H : Hp) (a : Addr) : loadV TE H 178 a = ldS H a := loadV_s ty178
@[simp] theorem st178 (H : Hp) (a : Addr) (v : Value) : storeV TE H 178 a v = cnd (v.cells.size.beq 1) (writeC H a v.cells.toList) none := storeV_sz ty178
@[simp] theorem ty180 : TE.types 180 = (some ⟨1, false, [.nilFunc], (.func #[3, 64] #[108, 52] true), 8⟩) := by kernel_rfl
@[simp] theorem ld180 (H : Hp) (a : Addr) : loadV TE H 180 a = ldS H a := loadV_s ty180
@[simp] theorem st180 (H : Hp) (a : Addr) (v : Value) : storeV TE H 180 a v = cnd (v.cells.size.beq 1) (writeC H a v.cells.toList) none := storeV_sz ty180
@[simp] theorem ty181 : TE.types 181 = (some ⟨1, false, [.nilFunc], (.func #[64] #[64] false), 8⟩) := by kernel_rfl
@[simp] theorem ld181 (H : Hp) (a : Addr) : loadV TE H 181 a = ldS H a := loadV_s ty181
@[simp] theorem st181 (H : Hp) (a : Addr) (v : Value) : storeV TE H 181 a v = cnd (v.cells.size.beq 1) (writeC H a v.cells.toList) none := storeV_sz ty181
@[simp] theorem ty182 : TE.types 182 = (some ⟨1, false, [.nilFunc], (.func #[51, 29] #[3, 52] false), 8⟩) := by kernel_rfl
@[simp] theorem ld182 (H : Hp) (a : Addr) : loadV TE H 182 a = ldS H a := loadV_s ty182
@[simp] theorem st182 (H : Hp) (a : Addr) (v : Value) : storeV TE H 182 a v = cnd (v.cells.size.beq 1) (writeC H a v.cells.toList) none := storeV_sz ty182
@[simp] theorem ty183 : TE.types 183 = (some ⟨1, false, [(.pointer none)], (.pointer 233), 8⟩) := by kernel_rfl
@[simp] theorem ld183 (H : Hp) (a : Addr) : loadV TE H 183 a = ldS H a := loadV_s ty183
@[simp] theorem st183 (H : Hp) (a : Addr) (v : Value) : storeV TE H 183 a v = cnd (v.cells.size.beq 1) (writeC H a v.cells.toList) none := storeV_sz ty183
@[simp] theorem ty184 : TE.types 184 = (some ⟨1, false, [.nilFunc], (.func #[] #[183] false), 8⟩) := by kernel_rfl
@[simp] theorem ld184 (H : Hp) (a : Addr) : loadV TE H 184 a = ldS H a := loadV_s ty184
@[simp] theorem st184 (H : Hp) (a : Addr) (v : Value) : storeV TE H 184 a v = cnd (v.cells.size.beq 1) (writeC H a v.cells.toList) none := storeV_sz ty184
@[simp] theorem ty185 : TE.types 185 = (some ⟨1, false, [.nilFunc], (.func #[47] #[22, 52] false), 8⟩) := by kernel_rfl
@[simp] theorem ld185 (H : Hp) (a : Addr) : loadV TE H 185 a = ldS H a := loadV_s ty185
@[simp] theorem st185 (H : Hp) (a : Addr) (v : Value) : storeV TE H 185 a v = cnd (v.cells.size.beq 1) (writeC H a v.cells.toList) none := storeV_sz ty185
@[simp] theorem ty186 : TE.types 186 = (some ⟨1, false, [.nilFunc], (.func #[124] #[] true), 8⟩) := by kernel_rfl
@[simp] theorem ld186 (H : Hp) (a : Addr) : loadV TE H 186 a = ldS H a := loadV_s ty186
@[simp] theorem st186 (H : Hp) (a : Addr) (v : Value) : storeV TE H 186 a v = cnd (v.cells.size.beq 1) (writeC H a v.cells.toList) none := storeV_sz ty186
@[simp] theorem ty187 : TE.types 187 = (some ⟨1, false, [.nilFunc], (.func #[183, 108, 3, 64] #[52] true), 8⟩) := by kernel_rfl
@[simp] theorem ld187 (H : Hp) (a : Addr) : loadV TE H 187 a = ldS H a := loadV_s ty187
@[simp] theorem st187 (H : Hp) (a : Addr) (v : Value) : storeV TE H 187 a v = cnd (v.cells.size.beq 1) (writeC H a v.cells.toList) none := storeV_sz ty187
@[simp] theorem ty188 : TE.types 188 = (some ⟨1, false, [.nilFunc], (.func #[183] #[22] false), 8⟩) := by kernel_rfl
@[simp] theorem ld188 (H : Hp) (a : Addr) : loadV TE H 188 a = ldS H a := loadV_s ty188
@[simp] theorem st188 (H : Hp) (a : Addr) (v : Value) : storeV TE H 188 a v = cnd (v.cells.size.beq 1) (writeC H a v.cells.toList) none := storeV_sz ty188
@[simp] theorem ty189 : TE.types 189 = (some ⟨1, false, [.nilFunc], (.func #[3, 49] #[22, 52] true), 8⟩) := by kernel_rfl
@[simp] theorem ld189 (H : Hp) (a : Addr) : loadV TE H 189 a = ldS H a := loadV_s ty189
@[simp] theorem st189 (H : Hp) (a : Addr) (v : Value) : storeV TE H 189 a v = cnd (v.cells.size.beq 1) (writeC H a v.cells.toList) none := storeV_sz ty189
@[simp] theorem ty190 : TE.types 190 = (some ⟨1, false, [.nilFunc], (.func #[124] #[38] true), 8⟩) := by kernel_rfl
@[simp] theorem ld190 (H : Hp) (a : Addr) : loadV TE H 190 a = ldS H a := loadV_s ty190
@[simp] theorem st190 (H : Hp) (a : Addr) (v : Value) : storeV TE H 190 a v = cnd (v.cells.size.beq 1) (writeC H a v.cells.toList) none := storeV_sz ty190
@[simp] theorem ty191 : TE.types 191 = (some ⟨1, false, [.nilFunc], (.func #[124] #[22] true), 8⟩) := by kernel_rfl
@[simp] theorem ld191 (H : Hp) (a : Addr) : loadV TE H 191 a = ldS H a := loadV_s ty191
@[simp] theorem st191 (H : Hp) (a : Addr) (v : Value) : storeV TE H 191 a v = cnd (v.cells.size.beq 1) (writeC H a v.cells.toList) none := storeV_sz ty191
@[simp] theorem ty192 : TE.types 192 = (some ⟨1, false, [.nilFunc], (.func #[3, 3] #[22] false), 8⟩) := by kernel_rfl
@[simp] theorem ld192 (H : Hp) (a : Addr) : loadV TE H 192 a = ldS H a := loadV_s ty192
@[simp] theorem st192 (H : Hp) (a : Addr) (v : Value) : storeV TE H 192 a v = cnd (v.cells.size.beq 1) (writeC H a v.cells.toList) none := storeV_sz ty192
@[simp] theorem ty193 : TE.types 193 = (some ⟨1, false, [.nilFunc], (.func #[61] #[22, 52] true), 8⟩) := by kernel_rfl
@[simp] theorem ld193 (H : Hp) (a : Addr) : loadV TE H 193 a = ldS H a := loadV_s ty193
@[simp] theorem st193 (H : Hp) (a : Addr) (v : Value) : storeV TE H 193 a v = cnd (v.cells.size.beq 1) (writeC H a v.cells.toList) none := storeV_sz ty193
@[simp] theorem ty194 : TE.types 194 = (some ⟨1, false, [(.slice none 0 0)], (.slice 52), 24⟩) := by kernel_rfl
@[simp] theorem ld194 (H : Hp) (a : Addr) : loadV TE H 194 a = ldS H a := loadV_s ty194
@[simp] theorem st194 (H : Hp) (a : Addr) (v : Value) : storeV TE H 194 a v = cnd (v.cells.size.beq 1) (writeC H a v.cells.toList) none := storeV_sz ty194
@[simp] theorem ty195 : TE.types 195 = (some ⟨1, false, [.nilFunc], (.func #[25, 3, 3, 32] #[] false), 8⟩) := by kernel_rfl
@[simp] theorem ld195 (H : Hp) (a : Addr) : loadV TE H 195 a = ldS H a := loadV_s ty195
@[simp] theorem st195 (H : Hp) (a : Addr) (v : Value) : storeV TE H 195 a v = cnd (v.cells.size.beq 1) (writeC H a v.cells.toList) none := storeV_sz ty195
@[simp] theorem ty196 : TE.types 196 = (some ⟨1, false, [(.int .i64 0)], (.int .i64), 8⟩) := by kernel_rfl
@[simp] theorem ld196 (H : Hp) (a : Addr) : loadV TE H 196 a = ldS H a := loadV_s ty196
@[simp] theorem st196 (H : Hp) (a : Addr) (v : Value) : storeV TE H 196 a v = cnd (v.cells.size.beq 1) (writeC H a v.cells.toList) none := storeV_sz ty196
@[simp] theorem ty198 : TE.types 198 = (some ⟨1, false, [.nilFunc], (.func #[25, 3, 3, 32] #[3, 196] false), 8⟩) := by kernel_rfl
@[simp] theorem ld198 (H : Hp) (a : Addr) : loadV TE H 198 a = ldS H a := loadV_s ty198
@[simp] theorem st198 (H : Hp) (a : Addr) (v : Value) : storeV TE H 198 a v = cnd (v.cells.size.beq 1) (writeC H a v.cells.toList) none := storeV_sz ty198
@[simp] theorem ty199 : TE.types 199 = (some ⟨1, false, [.nilFunc], (.func #[25, 3, 3, 32] #[4] false), 8⟩) := by kernel_rfl
@[simp] theorem ld199 (H : Hp) (a : Addr) : loadV TE H 199 a = ldS H a := loadV_s ty199
@[simp] theorem st199 (H : Hp) (a : Addr) (v : Value) : storeV TE H 199 a v = cnd (v.cells.size.beq 1) (writeC H a v.cells.toList) none := storeV_sz ty199
@[simp] theorem ty200 : TE.types 200 = (some ⟨1, false, [.nilFunc], (.func #[25, 3, 3, 3, 32] #[3] false), 8⟩) := by kernel_rfl
@[simp] theorem ld200 (H : Hp) (a : Addr) : loadV TE H 200 a = ldS H a := loadV_s ty200
@[simp] theorem st200 (H : Hp) (a : Addr) (v : Value) : storeV TE H 200 a v = cnd (v.cells.size.beq 1) (writeC H a v.cells.toList) none := storeV_sz ty200
@[simp] theorem ty202 : TE.types 202 = (some ⟨1, false, [.nilFunc], (.func #[25, 3, 3, 3, 32] #[3, 4] false), 8⟩) := by kernel_rfl
@[simp] theorem ld202 (H : Hp) (a : Addr) : loadV TE H 202 a = ldS H a := loadV_s ty202
@[simp] theorem st202 (H : Hp) (a : Addr) (v : Value) : storeV TE H 202 a v = cnd (v.cells.size.beq 1) (writeC H a v.cells.toList) none := storeV_sz ty202
@[simp] theorem ty203 : TE.types 203 = (some ⟨1, false, [.nilFunc], (.func #[204] #[3] false), 8⟩) := by kernel_rfl
@[simp] theorem ld203 (H : Hp) (a : Addr) : loadV TE H 203 a = ldS H a := loadV_s ty203
@[simp] theorem st203 (H : Hp) (a : Addr) (v : Value) : storeV TE H 203 a v = cnd (v.cells.size.beq 1) (writeC H a v.cells.toList) none := storeV_sz ty203
@[simp] theorem ty204 : TE.types 204 = (some ⟨1, false, [(.int .u32 0)], (.int .u32), 4⟩) := by kernel_rfl
@[simp] theorem ld204 (H : Hp) (a : Addr) : loadV TE H 204 a = ldS H a := loadV_s ty204
@[simp] theorem st204 (H : Hp) (a : Addr) (v : Value) : storeV TE H 204 a v = cnd (v.cells.size.beq 1) (writeC H a v.cells.toList) none := storeV_sz ty204
@[simp] theorem ty205 : TE.types 205 = (some ⟨1, false, [.nilFunc], (.func #[206] #[3] false), 8⟩) := by kernel_rfl
@[simp] theorem ld205 (H : Hp) (a : Addr) : loadV TE H 205 a = ldS H a := loadV_s ty205
@[simp] theorem st205 (H : Hp) (a : Addr) (v : Value) : storeV TE H 205 a v = cnd (v.cells.size.beq 1) (writeC H a v.cells.toList) none := storeV_sz ty205
@[simp] theorem ty206 : TE.types 206 = (some ⟨1, false, [(.int .u64 0)], (.int .u64), 8⟩) := by kernel_rfl
@[simp] theorem ld206 (H : Hp) (a : Addr) : loadV TE H 206 a = ldS H a := loadV_s ty206
@[simp] theorem st206 (H : Hp) (a : Addr) (v : Value) : storeV TE H 206 a v = cnd (v.cells.size.beq 1) (writeC H a v.cells.toList) none := storeV_sz ty206
@[simp] theorem ty207 : TE.types 207 = (some ⟨1, false, [.nilFunc], (.func #[23, 3, 3, 89] #[] false), 8⟩) := by kernel_rfl
@[simp] theorem ld207 (H : Hp) (a : Addr) : loadV TE H 207 a = ldS H a := loadV_s ty207
@[simp] theorem st207 (H : Hp) (a : Addr) (v : Value) : storeV TE H 207 a v = cnd (v.cells.size.beq 1) (writeC H a v.cells.toList) none := storeV_sz ty207
@[simp] theorem ty208 : TE.types 208 = (some ⟨1, false, [.nilFunc], (.func #[23, 3, 3, 89] #[3, 196] false), 8⟩) := by kernel_rfl
@[simp] theorem ld208 (H : Hp) (a : Addr) : loadV TE H 208 a = ldS H a := loadV_s ty208
@[simp] theorem st208 (H : Hp) (a : Addr) (v : Value) : storeV TE H 208 a v = cnd (v.cells.size.beq 1) (writeC H a v.cells.toList) none := storeV_sz ty208
@[simp] theorem ty209 : TE.types 209 = (some ⟨1, false, [.nilFunc], (.func #[23, 3, 3, 89] #[4] false), 8⟩) := by kernel_rfl
@[simp] theorem ld209 (H : Hp) (a : Addr) : loadV TE H 209 a = ldS H a := loadV_s ty209
@[simp] theorem st209 (H : Hp) (a : Addr) (v : Value) : storeV TE H 209 a v = cnd (v.cells.size.beq 1) (writeC H a v.cells.toList) none := storeV_sz ty209
@[simp] theorem ty210 : TE.types 210 = (some ⟨1, false, [.nilFunc], (.func #[23, 3, 3, 3, 89] #[3] false), 8⟩) := by kernel_rfl
@[simp] theorem ld210 (H : Hp) (a : Addr) : loadV TE H 210 a = ldS H a := loadV_s ty210
@[simp] theorem st210 (H : Hp) (a : Addr) (v : Value) : storeV TE H 210 a v = cnd (v.cells.size.beq 1) (writeC H a v.cells.toList) none := storeV_sz ty210
@[simp] theorem ty211 : TE.types 211 = (some ⟨1, false, [.nilFunc], (.func #[23, 3, 3, 3, 89] #[3, 4] false), 8⟩) := by kernel_rfl
@[simp] theorem ld211 (H : Hp) (a : Addr) : loadV TE H 211 a = ldS H a := loadV_s ty211
@[simp] theorem st211 (H : Hp) (a : Addr) (v : Value) : storeV TE H 211 a v = cnd (v.cells.size.beq 1) (writeC H a v.cells.toList) none := storeV_sz ty211
@[simp] theorem ty212 : TE.types 212 = (some ⟨1, false, [.nilFunc], (.func #[3] #[108] false), 8⟩) := by kernel_rfl
@[simp] theorem ld212 (H : Hp) (a : Addr) : loadV TE H 212 a = ldS H a := loadV_s ty212
@[simp] theorem st212 (H : Hp) (a : Addr) (v : Value) : storeV TE H 212 a v = cnd (v.cells.size.beq 1) (writeC H a v.cells.toList) none := storeV_sz ty212
@[simp] theorem ty213 : TE.types 213 = (some ⟨1, false, [.nilFunc], (.func #[64, 3] #[64] false), 8⟩) := by kernel_rfl
@[simp] theorem ld213 (H : Hp) (a : Addr) : loadV TE H 213 a = ldS H a := loadV_s ty213
@[simp] theorem st213 (H : Hp) (a : Addr) (v : Value) : storeV TE H 213 a v = cnd (v.cells.size.beq 1) (writeC H a v.cells.toList) none := storeV_sz ty213
@[simp] theorem ty214 : TE.types 214 = (some ⟨1, false, [.nilFunc], (.func #[3] #[104] false), 8⟩) := by kernel_rfl
@[simp] theorem ld214 (H : Hp) (a : Addr) : loadV TE H 214 a = ldS H a := loadV_s ty214
@[simp] theorem st214 (H : Hp) (a : Addr) (v : Value) : storeV TE H 214 a v = cnd (v.cells.size.beq 1) (writeC H a v.cells.toList) none := storeV_sz ty214
@[simp] theorem ty216 : TE.types 216 = (some ⟨1, false, [.nilFunc], (.func #[100, 3, 3] #[64, 106, 52] false), 8⟩) := by kernel_rfl
@[simp] theorem ld216 (H : Hp) (a : Addr) : loadV TE H 216 a = ldS H a := loadV_s ty216
@[simp] theorem st216 (H : Hp) (a : Addr) (v : Value) : storeV TE H 216 a v = cnd (v.cells.size.beq 1) (writeC H a v.cells.toList) none := storeV_sz ty216
@[simp] theorem ty218 : TE.types 218 = (some ⟨1, false, [.nilFunc], (.func #[104, 64, 64] #[64, 52] true), 8⟩) := by kernel_rfl
@[simp] theorem ld218 (H : Hp) (a : Addr) : loadV TE H 218 a = ldS H a := loadV_s ty218
@[simp] theorem st218 (H : Hp) (a : Addr) (v : Value) : storeV TE H 218 a v = cnd (v.cells.size.beq 1) (writeC H a v.cells.toList) none := storeV_sz ty218
@[simp] theorem ty219 : TE.types 219 = (some ⟨1, false, [.nilFunc], (.func #[108] #[104] false), 8⟩) := by kernel_rfl
@[simp] theorem ld219 (H : Hp) (a : Addr) : loadV TE H 219 a = ldS H a := loadV_s ty219
@[simp] theorem st219 (H : Hp) (a : Addr) (v : Value) : storeV TE H 219 a v = cnd (v.cells.size.beq 1) (writeC H a v.cells.toList) none := storeV_sz ty219
@[simp] theorem ty220 : TE.types 220 = (some ⟨1, false, [.nilFunc], (.func #[3, 64] #[4] false), 8⟩) := by kernel_rfl
@[simp] theorem ld220 (H : Hp) (a : Addr) : loadV TE H 220 a = ldS H a := loadV_s ty220
@[simp] theorem st220 (H : Hp) (a : Addr) (v : Value) : storeV TE H 220 a v = cnd (v.cells.size.beq 1) (writeC H a v.cells.toList) none := storeV_sz ty220
@[simp] theorem ty221 : TE.types 221 = (some ⟨1, false, [.nilFunc], (.func #[64, 152] #[3] false), 8⟩) := by kernel_rfl
@[simp] theorem ld221 (H : Hp) (a : Addr) : loadV TE H 221 a = ldS H a := loadV_s ty221
@[simp] theorem st221 (H : Hp) (a : Addr) (v : Value) : storeV TE H 221 a v = cnd (v.cells.size.beq 1) (writeC H a v.cells.toList) none := storeV_sz ty221
@[simp] theorem ty222 : TE.types 222 = (some ⟨1, false, [.nilFunc], (.func #[49] #[3] true), 8⟩) := by kernel_rfl
@[simp] theorem ld222 (H : Hp) (a : Addr) : loadV TE H 222 a = ldS H a := loadV_s ty222
@[simp] theorem st222 (H : Hp) (a : Addr) (v : Value) : storeV TE H 222 a v = cnd (v.cells.size.beq 1) (writeC H a v.cells.toList) none := storeV_sz ty222
@[simp] theorem ty223 : TE.types 223 = (some ⟨1, false, [.nilFunc], (.func #[64, 3] #[3] false), 8⟩) := by kernel_rfl
@[simp] theorem ld223 (H : Hp) (a : Addr) : loadV TE H 223 a = ldS H a := loadV_s ty223
@[simp] theorem st223 (H : Hp) (a : Addr) (v : Value) : storeV TE H 223 a v = cnd (v.cells.size.beq 1) (writeC H a v.cells.toList) none := storeV_sz ty223
@[simp] theorem ty224 : TE.types 224 = (some ⟨1, false, [.nilFunc], (.func #[47] #[4] false), 8⟩) := by kernel_rfl
@[simp] theorem ld224 (H : Hp) (a : Addr) : loadV TE H 224 a = ldS H a := loadV_s ty224
@[simp] theorem st224 (H : Hp) (a : Addr) (v : Value) : storeV TE H 224 a v = cnd (v.cells.size.beq 1) (writeC H a v.cells.toList) none := storeV_sz ty224
@[simp] theorem ty225 : TE.types 225 = (some ⟨1, false, [.nilFunc], (.func #[47] #[52] false), 8⟩) := by kernel_rfl
@[simp] theorem ld225 (H : Hp) (a : Addr) : loadV TE H 225 a = ldS H a := loadV_s ty225
@[simp] theorem st225 (H : Hp) (a : Addr) (v : Value) : storeV TE H 225 a v = cnd (v.cells.size.beq 1) (writeC H a v.cells.toList) none := storeV_sz ty225
@[simp] theorem ty226 : TE.types 226 = (some ⟨1, false, [.nilFunc], (.func #[64] #[3] false), 8⟩) := by kernel_rfl
@[simp] theorem ld226 (H : Hp) (a : Addr) : loadV TE H 226 a = ldS H a := loadV_s ty226
@[simp] theorem st226 (H : Hp) (a : Addr) (v : Value) : storeV TE H 226 a v = cnd (v.cells.size.beq 1) (writeC H a v.cells.toList) none := storeV_sz ty226
@[simp] theorem ty228 : TE.types 228 = (some ⟨1, false, [.nilFunc], (.func #[3, 64] #[64, 4] false), 8⟩) := by kernel_rfl
@[simp] theorem ld228 (H : Hp) (a : Addr) : loadV TE H 228 a = ldS H a := loadV_s ty228
@[simp] theorem st228 (H : Hp) (a : Addr) (v : Value) : storeV TE H 228 a v = cnd (v.cells.size.beq 1) (writeC H a v.cells.toList) none := storeV_sz ty228
@[simp] theorem ty229 : TE.types 229 = (some ⟨1, false, [.nilFunc], (.func #[104, 64] #[64, 52] true), 8⟩) := by kernel_rfl
@[simp] theorem ld229 (H : Hp) (a : Addr) : loadV TE H 229 a = ldS H a := loadV_s ty229
@[simp] theorem st229 (H : Hp) (a : Addr) (v : Value) : storeV TE H 229 a v = cnd (v.cells.size.beq 1) (writeC H a v.cells.toList) none := storeV_sz ty229
@[simp] theorem ty231 : TE.types 231 = (some ⟨1, false, [.nilFunc], (.func #[3, 3, 64] #[106, 52] true), 8⟩) := by kernel_rfl
@[simp] theorem ld231 (H : Hp) (a : Addr) : loadV TE H 231 a = ldS H a := loadV_s ty231
@[simp] theorem st231 (H : Hp) (a : Addr) (v : Value) : storeV TE H 231 a v = cnd (v.cells.size.beq 1) (writeC H a v.cells.toList) none := storeV_sz ty231
@[simp] theorem ty232 : TE.types 232 = (some ⟨1, false, [.nilFunc], (.func #[106, 3, 64] #[3, 52] true), 8⟩) := by kernel_rfl
@[simp] theorem ld232 (H : Hp) (a : Addr) : loadV TE H 232 a = ldS H a := loadV_s ty232
@[simp] theorem st232 (H : Hp) (a : Addr) (v : Value) : storeV TE H 232 a v = cnd (v.cells.size.beq 1) (writeC H a v.cells.toList) none := storeV_sz ty232
@[simp] theorem ty233 : TE.types 233 = (some ⟨2, true, [(.int .i64 0), (.slice none 0 0)], (.struct #[(Field.mk "place" 157 0 true "" "jetsam/bits" 0), (Field.mk "b" 22 1 false "" "jetsam/bits" 8)]), 32⟩) := by kernel_rfl
@[simp] theorem ld233 (H : Hp) (a : Addr) : loadV TE H 233 a = ldA H a 2 := loadV_a ty233
@[simp] theorem st233 (H : Hp) (a : Addr) (v : Value) : storeV TE H 233 a v = cnd (v.cells.size.beq 2) (writeC H a v.cells.toList) none := storeV_sz ty233
@[simp] theorem ty234 : TE.types 234 = (some ⟨1, false, [.nilFunc], (.func #[3] #[22, 52] false), 8⟩) := by kernel_rfl
@[simp] theorem ld234 (H : Hp) (a : Addr) : loadV TE H 234 a = ldS H a := loadV_s ty234
@[simp] theorem st234 (H : Hp) (a : Addr) (v : Value) : storeV TE H 234 a v = cnd (v.cells.size.beq 1) (writeC H a v.cells.toList) none := storeV_sz ty234
@[simp] theorem ty235 : TE.types 235 = (some ⟨1, false, [.nilFunc], (.func #[] #[22] false), 8⟩) := by kernel_rfl
@[simp] theorem ld235 (H : Hp) (a : Addr) : loadV TE H 235 a = ldS H a := loadV_s ty235
@[simp] theorem st235 (H : Hp) (a : Addr) (v : Value) : storeV TE H 235 a v = cnd (v.cells.size.beq 1) (writeC H a v.cells.toList) none := storeV_sz ty235
@[simp] theorem ty236 : TE.types 236 = (some ⟨1, false, [.nilFunc], (.func #[108, 3, 64] #[64, 64, 52] false), 8⟩) := by kernel_rfl
@[simp] theorem ld236 (H : Hp) (a : Addr) : loadV TE H 236 a = ldS H a := loadV_s ty236
@[simp] theorem st236 (H : Hp) (a : Addr) (v : Value) : storeV TE H 236 a v = cnd (v.cells.size.beq 1) (writeC H a v.cells.toList) none := storeV_sz ty236
@[simp] theorem ty237 : TE.types 237 = (some ⟨1, false, [.nilFunc], (.func #[183, 106, 3, 64] #[52] true), 8⟩) := by kernel_rfl
@[simp] theorem ld237 (H : Hp) (a : Addr) : loadV TE H 237 a = ldS H a := loadV_s ty237
@[simp] theorem st237 (H : Hp) (a : Addr) (v : Value) : storeV TE H 237 a v = cnd (v.cells.size.beq 1) (writeC H a v.cells.toList) none := storeV_sz ty237
@[simp] theorem ty238 : TE.types 238 = (some ⟨1, false, [(.pointer none)], (.pointer 275), 8⟩) := by kernel_rfl
@[simp] theorem ld238 (H : Hp) (a : Addr) : loadV TE H 238 a = ldS H a := loadV_s ty238
@[simp] theorem st238 (H : Hp) (a : Addr) (v : Value) : storeV TE H 238 a v = cnd (v.cells.size.beq 1) (writeC H a v.cells.toList) none := storeV_sz ty238
@[simp] theorem ty239 : TE.types 239 = (some ⟨1, false, [.nilFunc], (.func #[] #[238] false), 8⟩) := by kernel_rfl
@[simp] theorem ld239 (H : Hp) (a : Addr) : loadV TE H 239 a = ldS H a := loadV_s ty239
@[simp] theorem st239 (H : Hp) (a : Addr) (v : Value) : storeV TE H 239 a v = cnd (v.cells.size.beq 1) (writeC H a v.cells.toList) none := storeV_sz ty239
@[simp] theorem ty240 : TE.types 240 = (some ⟨1, false, [.nilFunc], (.func #[] #[38] false), 8⟩) := by kernel_rfl
@[simp] theorem ld240 (H : Hp) (a : Addr) : loadV TE H 240 a = ldS H a := loadV_s ty240
@[simp] theorem st240 (H : Hp) (a : Addr) (v : Value) : storeV TE H 240 a v = cnd (v.cells.size.beq 1) (writeC H a v.cells.toList) none := storeV_sz ty240
@[simp] theorem ty241 : TE.types 241 = (some ⟨1, false, [.nilFunc], (.func #[22, 3] #[22] false), 8⟩) := by kernel_rfl
@[simp] theorem ld241 (H : Hp) (a : Addr) : loadV TE H 241 a = ldS H a := loadV_s ty241
@[simp] theorem st241 (H : Hp) (a : Addr) (v : Value) : storeV TE H 241 a v = cnd (v.cells.size.beq 1) (writeC H a v.cells.toList) none := storeV_sz ty241
@[simp] theorem ty242 : TE.types 242 = (some ⟨1, false, [(.int .u64 0)], (.int .u64), 8⟩) := by kernel_rfl
@[simp] theorem ld242 (H : Hp) (a : Addr) : loadV TE H 242 a = ldS H a := loadV_s ty242
@[simp] theorem st242 (H : Hp) (a : Addr) (v : Value) : storeV TE H 242 a v = cnd (v.cells.size.beq 1) (writeC H a v.cells.toList) none := storeV_sz ty242
@[simp] theorem ty243 : TE.types 243 = (some ⟨1, false, [.nilFunc], (.func #[3] #[97] false), 8⟩) := by kernel_rfl
@[simp] theorem ld243 (H : Hp) (a : Addr) : loadV TE H 243 a = ldS H a := loadV_s ty243
@[simp] theorem st243 (H : Hp) (a : Addr) (v : Value) : storeV TE H 243 a v = cnd (v.cells.size.beq 1) (writeC H a v.cells.toList) none := storeV_sz ty243
@[simp] theorem ty244 : TE.types 244 = (some ⟨1, false, [.nilFunc], (.func #[] #[206] false), 8⟩) := by kernel_rfl
@[simp] theorem ld244 (H : Hp) (a : Addr) : loadV TE H 244 a = ldS H a := loadV_s ty244
@[simp] theorem st244 (H : Hp) (a : Addr) (v : Value) : storeV TE H 244 a v = cnd (v.cells.size.beq 1) (writeC H a v.cells.toList) none := storeV_sz ty244
@[simp] theorem ty245 : TE.types 245 = (some ⟨1, false, [.nilFunc], (.func #[25, 3, 246, 32] #[3] false), 8⟩) := by kernel_rfl
@[simp] theorem ld245 (H : Hp) (a : Addr) : loadV TE H 245 a = ldS H a := loadV_s ty245
@[simp] theorem st245 (H : Hp) (a : Addr) (v : Value) : storeV TE H 245 a v = cnd (v.cells.size.beq 1) (writeC H a v.cells.toList) none := storeV_sz ty245
@[simp] theorem ty246 : TE.types 246 = (some ⟨1, false, [(.pointer none)], (.pointer 3), 8⟩) := by kernel_rfl
@[simp] theorem ld246 (H : Hp) (a : Addr) : loadV TE H 246 a = ldS H a := loadV_s ty246
@[simp] theorem st246 (H : Hp) (a : Addr) (v : Value) : storeV TE H 246 a v = cnd (v.cells.size.beq 1) (writeC H a v.cells.toList) none := storeV_sz ty246
@[simp] theorem ty247 : TE.types 247 = (some ⟨1, false, [.nilFunc], (.func #[25, 3, 3, 3, 246, 32] #[3] false), 8⟩) := by kernel_rfl
@[simp] theorem ld247 (H : Hp) (a : Addr) : loadV TE H 247 a = ldS H a := loadV_s ty247
@[simp] theorem st247 (H : Hp) (a : Addr) (v : Value) : storeV TE H 247 a v = cnd (v.cells.size.beq 1) (writeC H a v.cells.toList) none := storeV_sz ty247
@[simp] theorem ty248 : TE.types 248 = (some ⟨1, false, [.nilFunc], (.func #[23, 3, 246, 89] #[3] false), 8⟩) := by kernel_rfl
@[simp] theorem ld248 (H : Hp) (a : Addr) : loadV TE H 248 a = ldS H a := loadV_s ty248
@[simp] theorem st248 (H : Hp) (a : Addr) (v : Value) : storeV TE H 248 a v = cnd (v.cells.size.beq 1) (writeC H a v.cells.toList) none := storeV_sz ty248
@[simp] theorem ty249 : TE.types 249 = (some ⟨1, false, [.nilFunc], (.func #[23, 3, 3, 3, 246, 89] #[3] false), 8⟩) := by kernel_rfl
@[simp] theorem ld249 (H : Hp) (a : Addr) : loadV TE H 249 a = ldS H a := loadV_s ty249
@[simp] theorem st249 (H : Hp) (a : Addr) (v : Value) : storeV TE H 249 a v = cnd (v.cells.size.beq 1) (writeC H a v.cells.toList) none := storeV_sz ty249
@[simp] theorem ty250 : TE.types 250 = (some ⟨1, false, [.nilFunc], (.func #[3, 52] #[3] false), 8⟩) := by kernel_rfl
@[simp] theorem ld250 (H : Hp) (a : Addr) : loadV TE H 250 a = ldS H a := loadV_s ty250
@[simp] theorem st250 (H : Hp) (a : Addr) (v : Value) : storeV TE H 250 a v = cnd (v.cells.size.beq 1) (writeC H a v.cells.toList) none := storeV_sz ty250
@[simp] theorem ty252 : TE.types 252 = (some ⟨1, false, [.nilFunc], (.func #[97, 97] #[97, 97] false), 8⟩) := by kernel_rfl
@[simp] theorem ld252 (H : Hp) (a : Addr) : loadV TE H 252 a = ldS H a := loadV_s ty252
@[simp] theorem st252 (H : Hp) (a : Addr) (v : Value) : storeV TE H 252 a v = cnd (v.cells.size.beq 1) (writeC H a v.cells.toList) none := storeV_sz ty252
@[simp] theorem ty253 : TE.types 253 = (some ⟨1, false, [.nilFunc], (.func #[3, 3, 3, 3] #[52] false), 8⟩) := by kernel_rfl
@[simp] theorem ld253 (H : Hp) (a : Addr) : loadV TE H 253 a = ldS H a := loadV_s ty253
@[simp] theorem st253 (H : Hp) (a : Addr) (v : Value) : storeV TE H 253 a v = cnd (v.cells.size.beq 1) (writeC H a v.cells.toList) none := storeV_sz ty253
@[simp] theorem ty254 : TE.types 254 = (some ⟨1, false, [.nilFunc], (.func #[255, 3, 3] #[64, 106, 52] false), 8⟩) := by kernel_rfl
@[simp] theorem ld254 (H : Hp) (a : Addr) : loadV TE H 254 a = ldS H a := loadV_s ty254
@[simp] theorem st254 (H : Hp) (a : Addr) (v : Value) : storeV TE H 254 a v = cnd (v.cells.size.beq 1) (writeC H a v.cells.toList) none := storeV_sz ty254
@[simp] theorem ty255 : TE.types 255 = (some ⟨1, false, [(.pointer none)], (.pointer 257), 8⟩) := by kernel_rfl
@[simp] theorem ld255 (H : Hp) (a : Addr) : loadV TE H 255 a = ldS H a := loadV_s ty255
@[simp] theorem st255 (H : Hp) (a : Addr) (v : Value) : storeV TE H 255 a v = cnd (v.cells.size.beq 1) (writeC H a v.cells.toList) none := storeV_sz ty255
@[simp] theorem ty256 : TE.types 256 = (some ⟨2, true, [(.pointer none), (.int .i64 0)], (.struct #[(Field.mk "Reader" 100 0 true "" "" 0), (Field.mk "e" 52 1 false "" "jetsam/rice" 8)]), 16⟩) := by kernel_rfl
@[simp] theorem ld256 (H : Hp) (a : Addr) : loadV TE H 256 a = ldA H a 2 := loadV_a ty256
@[simp] theorem st256 (H : Hp) (a : Addr) (v : Value) : storeV TE H 256 a v = cnd (v.cells.size.beq 2) (writeC H a v.cells.toList) none := storeV_sz ty256
@[simp] theorem ty257 : TE.types 257 = (some ⟨2, true, [(.pointer none), (.int .i64 0)], (.struct #[(Field.mk "Reader" 100 0 true "" "" 0), (Field.mk "e" 52 1 false "" "jetsam/rice" 8)]), 16⟩) := by kernel_rfl
@[simp] theorem ld257 (H : Hp) (a : Addr) : loadV TE H 257 a = ldA H a 2 := loadV_a ty257
@[simp] theorem st257 (H : Hp) (a : Addr) (v : Value) : storeV TE H 257 a v = cnd (v.cells.size.beq 2) (writeC H a v.cells.toList) none := storeV_sz ty257
@[simp] theorem ty258 : TE.types 258 = (some ⟨1, false, [.nilFunc], (.func #[104] #[52] false), 8⟩) := by kernel_rfl
@[simp] theorem ld258 (H : Hp) (a : Addr) : loadV TE H 258 a = ldS H a := loadV_s ty258
@[simp] theorem st258 (H : Hp) (a : Addr) (v : Value) : storeV TE H 258 a v = cnd (v.cells.size.beq 1) (writeC H a v.cells.toList) none := storeV_sz ty258
@[simp] theorem ty259 : TE.types 259 = (some ⟨1, false, [.nilFunc], (.func #[64] #[4] true), 8⟩) := by kernel_rfl
@[simp] theorem ld259 (H : Hp) (a : Addr) : loadV TE H 259 a = ldS H a := loadV_s ty259
@[simp] theorem st259 (H : Hp) (a : Addr) (v : Value) : storeV TE H 259 a v = cnd (v.cells.size.beq 1) (writeC H a v.cells.toList) none := storeV_sz ty259
@[simp] theorem ty261 : TE.types 261 = (some ⟨1, false, [.nilFunc], (.func #[3] #[104, 52] false), 8⟩) := by kernel_rfl
@[simp] theorem ld261 (H : Hp) (a : Addr) : loadV TE H 261 a = ldS H a := loadV_s ty261
@[simp] theorem st261 (H : Hp) (a : Addr) (v : Value) : storeV TE H 261 a v = cnd (v.cells.size.beq 1) (writeC H a v.cells.toList) none := storeV_sz ty261
@[simp] theorem ty262 : TE.types 262 = (some ⟨1, false, [.nilFunc], (.func #[3] #[3, 4] false), 8⟩) := by kernel_rfl
@[simp] theorem ld262 (H : Hp) (a : Addr) : loadV TE H 262 a = ldS H a := loadV_s ty262
@[simp] theorem st262 (H : Hp) (a : Addr) (v : Value) : storeV TE H 262 a v = cnd (v.cells.size.beq 1) (writeC H a v.cells.toList) none := storeV_sz ty262
@[simp] theorem ty263 : TE.types 263 = (some ⟨1, false, [.nilFunc], (.func #[290] #[] false), 8⟩) := by kernel_rfl
@[simp] theorem ld263 (H : Hp) (a : Addr) : loadV TE H 263 a = ldS H a := loadV_s ty263
@[simp] theorem st263 (H : Hp) (a : Addr) (v : Value) : storeV TE H 263 a v = cnd (v.cells.size.beq 1) (writeC H a v.cells.toList) none := storeV_sz ty263
@[simp] theorem ty264 : TE.types 264 = (some ⟨1, false, [.nilFunc], (.func #[290] #[] false), 8⟩) := by kernel_rfl
@[simp] theorem ld264 (H : Hp) (a : Addr) : loadV TE H 264 a = ldS H a := loadV_s ty264
@[simp] theorem st264 (H : Hp) (a : Addr) (v : Value) : storeV TE H 264 a v = cnd (v.cells.size.beq 1) (writeC H a v.cells.toList) none := storeV_sz ty264
@[simp] theorem ty265 : TE.types 265 = (some ⟨1, false, [.nilFunc], (.func #[3, 3, 3] #[264] false), 8⟩) := by kernel_rfl
@[simp] theorem ld265 (H : Hp) (a : Addr) : loadV TE H 265 a = ldS H a := loadV_s ty265
@[simp] theorem st265 (H : Hp) (a : Addr) (v : Value) : storeV TE H 265 a v = cnd (v.cells.size.beq 1) (writeC H a v.cells.toList) none := storeV_sz ty265
@[simp] theorem ty267 : TE.types 267 = (some ⟨1, false, [.nilFunc], (.func #[3, 64] #[3, 3, 3] false), 8⟩) := by kernel_rfl
@[simp] theorem ld267 (H : Hp) (a : Addr) : loadV TE H 267 a = ldS H a := loadV_s ty267
@[simp] theorem st267 (H : Hp) (a : Addr) (v : Value) : storeV TE H 267 a v = cnd (v.cells.size.beq 1) (writeC H a v.cells.toList) none := storeV_sz ty267
@[simp] theorem ty268 : TE.types 268 = (some ⟨1, false, [.nilFunc], (.func #[106, 3, 3] #[52] false), 8⟩) := by kernel_rfl
@[simp] theorem ld268 (H : Hp) (a : Addr) : loadV TE H 268 a = ldS H a := loadV_s ty268
@[simp] theorem st268 (H : Hp) (a : Addr) (v : Value) : storeV TE H 268 a v = cnd (v.cells.size.beq 1) (writeC H a v.cells.toList) none := storeV_sz ty268
@[simp] theorem ty269 : TE.types 269 = (some ⟨1, false, [.nilFunc], (.func #[64, 3, 3] #[3, 4] false), 8⟩) := by kernel_rfl
@[simp] theorem ld269 (H : Hp) (a : Addr) : loadV TE H 269 a = ldS H a := loadV_s ty269
@[simp] theorem st269 (H : Hp) (a : Addr) (v : Value) : storeV TE H 269 a v = cnd (v.cells.size.beq 1) (writeC H a v.cells.toList) none := storeV_sz ty269
@[simp] theorem ty270 : TE.types 270 = (some ⟨1, false, [.nilFunc], (.func #[3, 3] #[] false), 8⟩) := by kernel_rfl
@[simp] theorem ld270 (H : Hp) (a : Addr) : loadV TE H 270 a = ldS H a := loadV_s ty270
@[simp] theorem st270 (H : Hp) (a : Addr) (v : Value) : storeV TE H 270 a v = cnd (v.cells.size.beq 1) (writeC H a v.cells.toList) none := storeV_sz ty270
@[simp] theorem ty271 : TE.types 271 = (some ⟨1, false, [.nilFunc], (.func #[108, 3] #[52] false), 8⟩) := by kernel_rfl
@[simp] theorem ld271 (H : Hp) (a : Addr) : loadV TE H 271 a = ldS H a := loadV_s ty271
@[simp] theorem st271 (H : Hp) (a : Addr) (v : Value) : storeV TE H 271 a v = cnd (v.cells.size.beq 1) (writeC H a v.cells.toList) none := storeV_sz ty271
@[simp] theorem ty272 : TE.types 272 = (some ⟨4, true, [(.int .u32 0), (.int .u32 0), (.int .u32 0), (.int .u32 0)], (.array 4 204), 16⟩) := by kernel_rfl
@[simp] theorem ld272 (H : Hp) (a : Addr) : loadV TE H 272 a = ldA H a 4 := loadV_a ty272
@[simp] theorem st272 (H : Hp) (a : Addr) (v : Value) : storeV TE H 272 a v = cnd (v.cells.size.beq 4) (writeC H a v.cells.toList) none := storeV_sz ty272
@[simp] theorem ty273 : TE.types 273 = (some ⟨4, true, [(.int .u32 0), (.int .u32 0), (.int .u32 0), (.int .u32 0)], (.array 4 204), 16⟩) := by kernel_rfl
@[simp] theorem ld273 (H : Hp) (a : Addr) : loadV TE H 273 a = ldA H a 4 := loadV_a ty273
@[simp] theorem st273 (H : Hp) (a : Addr) (v : Value) : storeV TE H 273 a v = cnd (v.cells.size.beq 4) (writeC H a v.cells.toList) none := storeV_sz ty273
@[simp] theorem ty274 : TE.types 274 = (some ⟨6, true, [(.int .u32 0), (.int .u32 0), (.int .u32 0), (.int .u32 0), (.slice none 0 0), (.int .i64 0)], (.struct #[(Field.mk "state" 273 0 true "" "jetsam/digest" 0), (Field.mk "rest" 22 4 false "" "jetsam/digest" 16), (Field.mk "n" 3 5 false "" "jetsam/digest" 40)]), 48⟩) := by kernel_rfl
@[simp] theorem ld274 (H : Hp) (a : Addr) : loadV TE H 274 a = ldA H a 6 := loadV_a ty274
@[simp] theorem st274 (H : Hp) (a : Addr) (v : Value) : storeV TE H 274 a v = cnd (v.cells.size.beq 6) (writeC H a v.cells.toList) none := storeV_sz ty274
@[simp] theorem ty275 : TE.types 275 = (some ⟨6, true, [(.int .u32 0), (.int .u32 0), (.int .u32 0), (.int .u32 0), (.slice none 0 0), (.int .i64 0)], (.struct #[(Field.mk "state" 273 0 true "" "jetsam/digest" 0), (Field.mk "rest" 22 4 false "" "jetsam/digest" 16), (Field.mk "n" 3 5 false "" "jetsam/digest" 40)]), 48⟩) := by kernel_rfl
@[simp] theorem ld275 (H : Hp) (a : Addr) : loadV TE H 275 a = ldA H a 6 := loadV_a ty275
@[simp] theorem st275 (H : Hp) (a : Addr) (v : Value) : storeV TE H 275 a v = cnd (v.cells.size.beq 6) (writeC H a v.cells.toList) none := storeV_sz ty275
@[simp] theorem ty276 : TE.types 276 = (some ⟨1, false, [.nilFunc], (.func #[22] #[] false), 8⟩) := by kernel_rfl
@[simp] theorem ld276 (H : Hp) (a : Addr) : loadV TE H 276 a = ldS H a := loadV_s ty276
@[simp] theorem st276 (H : Hp) (a : Addr) (v : Value) : storeV TE H 276 a v = cnd (v.cells.size.beq 1) (writeC H a v.cells.toList) none := storeV_sz ty276
@[simp] theorem ty277 : TE.types 277 = (some ⟨1, false, [(.pointer none)], (.pointer 242), 8⟩) := by kernel_rfl
@[simp] theorem ld277 (H : Hp) (a : Addr) : loadV TE H 277 a = ldS H a := loadV_s ty277
@[simp] theorem st277 (H : Hp) (a : Addr) (v : Value) : storeV TE H 277 a v = cnd (v.cells.size.beq 1) (writeC H a v.cells.toList) none := storeV_sz ty277
@[simp] theorem ty278 : TE.types 278 = (some ⟨1, false, [.nilFunc], (.func #[25, 3, 3, 246, 32] #[3, 3] false), 8⟩) := by kernel_rfl
@[simp] theorem ld278 (H : Hp) (a : Addr) : loadV TE H 278 a = ldS H a := loadV_s ty278
@[simp] theorem st278 (H : Hp) (a : Addr) (v : Value) : storeV TE H 278 a v = cnd (v.cells.size.beq 1) (writeC H a v.cells.toList) none := storeV_sz ty278
@[simp] theorem ty279 : TE.types 279 = (some ⟨1, false, [.nilFunc], (.func #[23, 3, 3, 246, 89] #[3, 3] false), 8⟩) := by kernel_rfl
@[simp] theorem ld279 (H : Hp) (a : Addr) : loadV TE H 279 a = ldS H a := loadV_s ty279
@[simp] theorem st279 (H : Hp) (a : Addr) (v : Value) : storeV TE H 279 a v = cnd (v.cells.size.beq 1) (writeC H a v.cells.toList) none := storeV_sz ty279
@[simp] theorem ty281 : TE.types 281 = (some ⟨1, false, [.nilFunc], (.func #[204, 204] #[204, 204] false), 8⟩) := by kernel_rfl
@[simp] theorem ld281 (H : Hp) (a : Addr) : loadV TE H 281 a = ldS H a := loadV_s ty281
@[simp] theorem st281 (H : Hp) (a : Addr) (v : Value) : storeV TE H 281 a v = cnd (v.cells.size.beq 1) (writeC H a v.cells.toList) none := storeV_sz ty281
@[simp] theorem ty283 : TE.types 283 = (some ⟨1, false, [.nilFunc], (.func #[206, 206] #[206, 206] false), 8⟩) := by kernel_rfl
@[simp] theorem ld283 (H : Hp) (a : Addr) : loadV TE H 283 a = ldS H a := loadV_s ty283
@[simp] theorem st283 (H : Hp) (a : Addr) (v : Value) : storeV TE H 283 a v = cnd (v.cells.size.beq 1) (writeC H a v.cells.toList) none := storeV_sz ty283
@[simp] theorem ty284 : TE.types 284 = (some ⟨1, false, [.nilFunc], (.func #[111] #[3] false), 8⟩) := by kernel_rfl
@[simp] theorem ld284 (H : Hp) (a : Addr) : loadV TE H 284 a = ldS H a := loadV_s ty284
@[simp] theorem st284 (H : Hp) (a : Addr) (v : Value) : storeV TE H 284 a v = cnd (v.cells.size.beq 1) (writeC H a v.cells.toList) none := storeV_sz ty284
@[simp] theorem ty285 : TE.types 285 = (some ⟨1, false, [.nilFunc], (.func #[155] #[] false), 8⟩) := by kernel_rfl
@[simp] theorem ld285 (H : Hp) (a : Addr) : loadV TE H 285 a = ldS H a := loadV_s ty285
@[simp] theorem st285 (H : Hp) (a : Addr) (v : Value) : storeV TE H 285 a v = cnd (v.cells.size.beq 1) (writeC H a v.cells.toList) none := storeV_sz ty285
@[simp] theorem ty286 : TE.types 286 = (some ⟨1, false, [.nilFunc], (.func #[155] #[] false), 8⟩) := by kernel_rfl
@[simp] theorem ld286 (H : Hp) (a : Addr) : loadV TE H 286 a = ldS H a := loadV_s ty286
@[simp] theorem st286 (H : Hp) (a : Addr) (v : Value) : storeV TE H 286 a v = cnd (v.cells.size.beq 1) (writeC H a v.cells.toList) none := storeV_sz ty286
@[simp] theorem ty287 : TE.types 287 = (some ⟨1, false, [.nilFunc], (.func #[64] #[286] false), 8⟩) := by kernel_rfl
@[simp] theorem ld287 (H : Hp) (a : Addr) : loadV TE H 287 a = ldS H a := loadV_s ty287
@[simp] theorem st287 (H : Hp) (a : Addr) (v : Value) : storeV TE H 287 a v = cnd (v.cells.size.beq 1) (writeC H a v.cells.toList) none := storeV_sz ty287
@[simp] theorem ty288 : TE.types 288 = (some ⟨4, true, [(.int .i64 0), (.int .i64 0), (.int .i64 0), (.int .i64 0)], (.array 4 3), 32⟩) := by kernel_rfl
@[simp] theorem ld288 (H : Hp) (a : Addr) : loadV TE H 288 a = ldA H a 4 := loadV_a ty288
@[simp] theorem st288 (H : Hp) (a : Addr) (v : Value) : storeV TE H 288 a v = cnd (v.cells.size.beq 4) (writeC H a v.cells.toList) none := storeV_sz ty288
@[simp] theorem ty289 : TE.types 289 = (some ⟨20, true, [(.int .i64 0), (.int .i64 0), (.int .i64 0), (.int .i64 0), (.int .i64 0), (.int .i64 0), (.int .i64 0), (.int .i64 0), (.int .i64 0), (.int .i64 0), (.int .i64 0), (.int .i64 0), (.int .i64 0), (.int .i64 0), (.int .i64 0), (.int .i64 0), (.int .i64 0), (.int .i64 0), (.int .i64 0), (.int .i64 0)], (.array 5 288), 160⟩) := by kernel_rfl
@[simp] theorem ld289 (H : Hp) (a : Addr) : loadV TE H 289 a = ldA H a 20 := loadV_a ty289
@[simp] theorem st289 (H : Hp) (a : Addr) (v : Value) : storeV TE H 289 a v = cnd (v.cells.size.beq 20) (writeC H a v.cells.toList) none := storeV_sz ty289
@[simp] theorem ty290 : TE.types 290 = (some ⟨1, false, [.nilFunc], (.func #[3, 71] #[4] false), 8⟩) := by kernel_rfl
@[simp] theorem ld290 (H : Hp) (a : Addr) : loadV TE H 290 a = ldS H a := loadV_s ty290
@[simp] theorem st290 (H : Hp) (a : Addr) (v : Value) : storeV TE H 290 a v = cnd (v.cells.size.beq 1) (writeC H a v.cells.toList) none := storeV_sz ty290
@[simp] theorem ty291 : TE.types 291 = (some ⟨1, false, [.nilFunc], (.func #[3, 3, 3] #[3, 4] false), 8⟩) := by kernel_rfl
@[simp] theorem ld291 (H : Hp) (a : Addr) : loadV TE H 291 a = ldS H a := loadV_s ty291
@[simp] theorem st291 (H : Hp) (a : Addr) (v : Value) : storeV TE H 291 a v = cnd (v.cells.size.beq 1) (writeC H a v.cells.toList) none := storeV_sz ty291
@[simp] theorem ty292 : TE.types 292 = (some ⟨1, false, [(.pointer none)], (.pointer 273), 8⟩) := by kernel_rfl
@[simp] theorem ld292 (H : Hp) (a : Addr) : loadV TE H 292 a = ldS H a := loadV_s ty292
@[simp] theorem st292 (H : Hp) (a : Addr) (v : Value) : storeV TE H 292 a v = cnd (v.cells.size.beq 1) (writeC H a v.cells.toList) none := storeV_sz ty292
@[simp] theorem ty293 : TE.types 293 = (some ⟨16, true, [(.int .u32 0), (.int .u32 0), (.int .u32 0), (.int .u32 0), (.int .u32 0), (.int .u32 0), (.int .u32 0), (.int .u32 0), (.int .u32 0), (.int .u32 0), (.int .u32 0), (.int .u32 0), (.int .u32 0), (.int .u32 0), (.int .u32 0), (.int .u32 0)], (.array 16 204), 64⟩) := by kernel_rfl
@[simp] theorem ld293 (H : Hp) (a : Addr) : loadV TE H 293 a = ldA H a 16 := loadV_a ty293
@[simp] theorem st293 (H : Hp) (a : Addr) (v : Value) : storeV TE H 293 a v = cnd (v.cells.size.beq 16) (writeC H a v.cells.toList) none := storeV_sz ty293
@[simp] theorem ty294 : TE.types 294 = (some ⟨64, true, [(.int .u32 0), (.int .u32 0), (.int .u32 0), (.int .u32 0), (.int .u32 0), (.int .u32 0), (.int .u32 0), (.int .u32 0), (.int .u32 0), (.int .u32 0), (.int .u32 0), (.int .u32 0), (.int .u32 0), (.int .u32 0), (.int .u32 0), (.int .u32 0), (.int .u32 0), (.int .u32 0), (.int .u32 0), (.int .u32 0), (.int .u32 0), (.int .u32 0), (.int .u32 0), (.int .u32 0), (.int .u32 0), (.int .u32 0), (.int .u32 0), (.int .u32 0), (.int .u32 0), (.int .u32 0), (.int .u32 0), (.int .u32 0), (.int .u32 0), (.int .u32 0), (.int .u32 0), (.int .u32 0), (.int .u32 0), (.int .u32 0), (.int .u32 0), (.int .u32 0), (.int .u32 0), (.int .u32 0), (.int .u32 0), (.int .u32 0), (.int .u32 0), (.int .u32 0), (.int .u32 0), (.int .u32 0), (.int .u32 0), (.int .u32 0), (.int .u32 0), (.int .u32 0), (.int .u32 0), (.int .u32 0), (.int .u32 0), (.int .u32 0), (.int .u32 0), (.int .u32 0), (.int .u32 0), (.int .u32 0), (.int .u32 0), (.int .u32 0), (.int .u32 0), (.int .u32 0)], (.array 64 204), 256⟩) := by kernel_rfl
@[simp] theorem ld294 (H : Hp) (a : Addr) : loadV TE H 294 a = ldA H a 64 := loadV_a ty294
@[simp] theorem st294 (H : Hp) (a : Addr) (v : Value) : storeV TE H 294 a v = cnd (v.cells.size.beq 64) (writeC H a v.cells.toList) none := storeV_sz ty294
@[simp] theorem ty296 : TE.types 296 = (some ⟨1, false, [.nilFunc], (.func #[3, 204, 204, 204] #[204, 3] false), 8⟩) := by kernel_rfl
@[simp] theorem ld296 (H : Hp) (a : Addr) : loadV TE H 296 a = ldS H a := loadV_s ty296
@[simp] theorem st296 (H : Hp) (a : Addr) (v : Value) : storeV TE H 296 a v = cnd (v.cells.size.beq 1) (writeC H a v.cells.toList) none := storeV_sz ty296
@[simp] theorem ty297 : TE.types 297 = (some ⟨16, true, [(.int .i64 0), (.int .i64 0), (.int .i64 0), (.int .i64 0), (.int .i64 0), (.int .i64 0), (.int .i64 0), (.int .i64 0), (.int .i64 0), (.int .i64 0), (.int .i64 0), (.int .i64 0), (.int .i64 0), (.int .i64 0), (.int .i64 0), (.int .i64 0)], (.array 4 288), 128⟩) := by kernel_rfl
@[simp] theorem ld297 (H : Hp) (a : Addr) : loadV TE H 297 a = ldA H a 16 := loadV_a ty297
@[simp] theorem st297 (H : Hp) (a : Addr) (v : Value) : storeV TE H 297 a v = cnd (v.cells.size.beq 16) (writeC H a v.cells.toList) none := storeV_sz ty297
@[simp] theorem ty298 : TE.types 298 = (some ⟨1, false, [.nilFunc], (.func #[204, 204, 204] #[204] false), 8⟩) := by kernel_rfl
@[simp] theorem ld298 (H : Hp) (a : Addr) : loadV TE H 298 a = ldS H a := loadV_s ty298
@[simp] theorem st298 (H : Hp) (a : Addr) (v : Value) : storeV TE H 298 a v = cnd (v.cells.size.beq 1) (writeC H a v.cells.toList) none := storeV_sz ty298
@[simp] theorem ty299 : TE.types 299 = (some ⟨1, false, [.nilFunc], (.func #[] #[9] false), 8⟩) := by kernel_rfl
@[simp] theorem ld299 (H : Hp) (a : Addr) : loadV TE H 299 a = ldS H a := loadV_s ty299
@[simp] theorem st299 (H : Hp) (a : Addr) (v : Value) : storeV TE H 299 a v = cnd (v.cells.size.beq 1) (writeC H a v.cells.toList) none := storeV_sz ty299
@[simp] theorem ty300 : TE.types 300 = (some ⟨4, true, [(.pointer none), (.pointer none), (.pointer none), (.string (ByteArray.mk #[]))], (.struct #[(Field.mk "_interface" 17 0 false "" "runtime" 0), (Field.mk "concrete" 17 1 false "" "runtime" 8), (Field.mk "asserted" 17 2 false "" "runtime" 16), (Field.mk "missingMethod" 9 3 false "" "runtime" 24)]), 40⟩) := by kernel_rfl
@[simp] theorem ld300 (H : Hp) (a : Addr) : loadV TE H 300 a = ldA H a 4 := loadV_a ty300
@[simp] theorem st300 (H : Hp) (a : Addr) (v : Value) : storeV TE H 300 a v = cnd (v.cells.size.beq 4) (writeC H a v.cells.toList) none := storeV_sz ty300
@[simp] theorem fd7_0 (b o : Nat) : lField TE 7 0 (some (.pointer (some ⟨b, o, none⟩))) = some (.pointer (some ⟨b, o + 0, none⟩)) := by
  rw [← addr_plus]; kernel_rfl
@[simp] theorem fd7_1 (b o : Nat) : lField TE 7 1 (some (.pointer (some ⟨b, o, none⟩))) = some (.pointer (some ⟨b, o + 1, none⟩)) := by
  rw [← addr_plus]; kernel_rfl
@[simp] theorem fd7_2 (b o : Nat) : lField TE 7 2 (some (.pointer (some ⟨b, o, none⟩))) = some (.pointer (some ⟨b, o + 2, none⟩)) := by
  rw [← addr_plus]; kernel_rfl
@[simp] theorem fd7_3 (b o : Nat) : lField TE 7 3 (some (.pointer (some ⟨b, o, none⟩))) = some (.pointer (some ⟨b, o + 3, none⟩)) := by
  rw [← addr_plus]; kernel_rfl
@[simp] theorem fd8_0 (b o : Nat) : lField TE 8 0 (some (.pointer (some ⟨b, o, none⟩))) = some (.pointer (some ⟨b, o + 0, none⟩)) := by
  rw [← addr_plus]; kernel_rfl
@[simp] theorem fd8_1 (b o : Nat) : lField TE 8 1 (some (.pointer (some ⟨b, o, none⟩))) = some (.pointer (some ⟨b, o + 1, none⟩)) := by
  rw [← addr_plus]; kernel_rfl
@[simp] theorem fd8_2 (b o : Nat) : lField TE 8 2 (some (.pointer (some ⟨b, o, none⟩))) = some (.pointer (some ⟨b, o + 2, none⟩)) := by
  rw [← addr_plus]; kernel_rfl
@[simp] theorem fd8_3 (b o : Nat) : lField TE 8 3 (some (.pointer (some ⟨b, o, none⟩))) = some (.pointer (some ⟨b, o + 3, none⟩)) := by
  rw [← addr_plus]; kernel_rfl
@[simp] theorem fd13_0 (b o : Nat) : lField TE 13 0 (some (.pointer (some ⟨b, o, none⟩))) = some (.pointer (some ⟨b, o + 0, none⟩)) := by
  rw [← addr_plus]; kernel_rfl
@[simp] theorem fd13_1 (b o : Nat) : lField TE 13 1 (some (.pointer (some ⟨b, o, none⟩))) = some (.pointer (some ⟨b, o + 1, none⟩)) := by
  rw [← addr_plus]; kernel_rfl
@[simp] theorem fd14_0 (b o : Nat) : lField TE 14 0 (some (.pointer (some ⟨b, o, none⟩))) = some (.pointer (some ⟨b, o + 0, none⟩)) := by
  rw [← addr_plus]; kernel_rfl
@[simp] theorem fd14_1 (b o : Nat) : lField TE 14 1 (some (.pointer (some ⟨b, o, none⟩))) = some (.pointer (some ⟨b, o + 1, none⟩)) := by
  rw [← addr_plus]; kernel_rfl
@[simp] theorem fd18_0 (b o : Nat) : lField TE 18 0 (some (.pointer (some ⟨b, o, none⟩))) = some (.pointer (some ⟨b, o + 0, none⟩)) := by
  rw [← addr_plus]; kernel_rfl
@[simp] theorem fd19_0 (b o : Nat) : lField TE 19 0 (some (.pointer (some ⟨b, o, none⟩))) = some (.pointer (some ⟨b, o + 0, none⟩)) := by
  rw [← addr_plus]; kernel_rfl
@[simp] theorem ln22 (a : Option Addr) (len cap : Nat) : lLen TE (some 22) (.slice a len cap) = some (.int .i64 len) := by unfold lLen; simp only [ty22]; rfl
@[simp] theorem ix22 (a : Addr) (len cap : Nat) (k : IntKind) (i : Int) : indexPl TE 22 (.slice (some a) len cap) (.int k i) = cnd (decide (0 ≤ i) && decide (i < len)) (some (a.add (i.toNat * 1))) none := indexPl_s ty22 ty5 a len cap k i
@[simp] theorem ln23 (a : Option Addr) (len cap : Nat) : lLen TE (some 23) (.slice a len cap) = some (.int .i64 len) := by unfold lLen; simp only [ty23]; rfl
@[simp] theorem ix23 (a : Addr) (len cap : Nat) (k : IntKind) (i : Int) : indexPl TE 23 (.slice (some a) len cap) (.int k i) = cnd (decide (0 ≤ i) && decide (i < len)) (some (a.add (i.toNat * 3))) none := indexPl_s ty23 ty29 a len cap k i
@[simp] theorem ln25 (a : Option Addr) (len cap : Nat) : lLen TE (some 25) (.slice a len cap) = some (.int .i64 len) := by unfold lLen; simp only [ty25]; rfl
@[simp] theorem ix25 (a : Addr) (len cap : Nat) (k : IntKind) (i : Int) : indexPl TE 25 (.slice (some a) len cap) (.int k i) = cnd (decide (0 ≤ i) && decide (i < len)) (some (a.add (i.toNat * 8))) none := indexPl_s ty25 ty31 a len cap k i
@[simp] theorem fd28_0 (b o : Nat) : lField TE 28 0 (some (.pointer (some ⟨b, o, none⟩))) = some (.pointer (some ⟨b, o + 0, none⟩)) := by
  rw [← addr_plus]; kernel_rfl
@[simp] theorem fd28_1 (b o : Nat) : lField TE 28 1 (some (.pointer (some ⟨b, o, none⟩))) = some (.pointer (some ⟨b, o + 1, none⟩)) := by
  rw [← addr_plus]; kernel_rfl
@[simp] theorem fd28_2 (b o : Nat) : lField TE 28 2 (some (.pointer (some ⟨b, o, none⟩))) = some (.pointer (some ⟨b, o + 2, none⟩)) := by
  rw [← addr_plus]; kernel_rfl
@[simp] theorem fd29_0 (b o : Nat) : lField TE 29 0 (some (.pointer (some ⟨b, o, none⟩))) = some (.pointer (some ⟨b, o + 0, none⟩)) := by
  rw [← addr_plus]; kernel_rfl
@[simp] theorem fd29_1 (b o : Nat) : lField TE 29 1 (some (.pointer (some ⟨b, o, none⟩))) = some (.pointer (some ⟨b, o + 1, none⟩)) := by
  rw [← addr_plus]; kernel_rfl
@[simp] theorem fd29_2 (b o : Nat) : lField TE 29 2 (some (.pointer (some ⟨b, o, none⟩))) = some (.pointer (some ⟨b, o + 2, none⟩)) := by
  rw [← addr_plus]; kernel_rfl
@[simp] theorem fd30_0 (b o : Nat) : lField TE 30 0 (some (.pointer (some ⟨b, o, none⟩))) = some (.pointer (some ⟨b, o + 0, none⟩)) := by
  rw [← addr_plus]; kernel_rfl
@[simp] theorem fd30_1 (b o : Nat) : lField TE 30 1 (some (.pointer (some ⟨b, o, none⟩))) = some (.pointer (some ⟨b, o + 3, none⟩)) := by
  rw [← addr_plus]; kernel_rfl
@[simp] theorem fd30_2 (b o : Nat) : lField TE 30 2 (some (.pointer (some ⟨b, o, none⟩))) = some (.pointer (some ⟨b, o + 4, none⟩)) := by
  rw [← addr_plus]; kernel_rfl
@[simp] theorem fd30_3 (b o : Nat) : lField TE 30 3 (some (.pointer (some ⟨b, o, none⟩))) = some (.pointer (some ⟨b, o + 5, none⟩)) := by
  rw [← addr_plus]; kernel_rfl
@[simp] theorem fd30_4 (b o : Nat) : lField TE 30 4 (some (.pointer (some ⟨b, o, none⟩))) = some (.pointer (some ⟨b, o + 6, none⟩)) := by
  rw [← addr_plus]; kernel_rfl
@[simp] theorem fd30_5 (b o : Nat) : lField TE 30 5 (some (.pointer (some ⟨b, o, none⟩))) = some (.pointer (some ⟨b, o + 7, none⟩)) := by
  rw [← addr_plus]; kernel_rfl
@[simp] theorem fd31_0 (b o : Nat) : lField TE 31 0 (some (.pointer (some ⟨b, o, none⟩))) = some (.pointer (some ⟨b, o + 0, none⟩)) := by
  rw [← addr_plus]; kernel_rfl
@[simp] theorem fd31_1 (b o : Nat) : lField TE 31 1 (some (.pointer (some ⟨b, o, none⟩))) = some (.pointer (some ⟨b, o + 3, none⟩)) := by
  rw [← addr_plus]; kernel_rfl
@[simp] theorem fd31_2 (b o : Nat) : lField TE 31 2 (some (.pointer (some ⟨b, o, none⟩))) = some (.pointer (some ⟨b, o + 4, none⟩)) := by
  rw [← addr_plus]; kernel_rfl
@[simp] theorem fd31_3 (b o : Nat) : lField TE 31 3 (some (.pointer (some ⟨b, o, none⟩))) = some (.pointer (some ⟨b, o + 5, none⟩)) := by
  rw [← addr_plus]; kernel_rfl
@[simp] theorem fd31_4 (b o : Nat) : lField TE 31 4 (some (.pointer (some ⟨b, o, none⟩))) = some (.pointer (some ⟨b, o + 6, none⟩)) := by
  rw [← addr_plus]; kernel_rfl
@[simp] theorem fd31_5 (b o : Nat) : lField TE 31 5 (some (.pointer (some ⟨b, o, none⟩))) = some (.pointer (some ⟨b, o + 7, none⟩)) := by
  rw [← addr_plus]; kernel_rfl
@[simp] theorem ix38 (a : Addr) (k : IntKind) (i : Int) : indexPl TE 38 (.pointer (some a)) (.int k i) = cnd (decide (0 ≤ i) && decide (i < (16 : Nat))) (some (a.add (i.toNat * 1))) none := indexPl_a ty38 ty5 a k i
@[simp] theorem fd39_0 (b o : Nat) : lField TE 39 0 (some (.pointer (some ⟨b, o, none⟩))) = some (.pointer (some ⟨b, o + 0, none⟩)) := by
  rw [← addr_plus]; kernel_rfl
@[simp] theorem fd39_1 (b o : Nat) : lField TE 39 1 (some (.pointer (some ⟨b, o, none⟩))) = some (.pointer (some ⟨b, o + 3, none⟩)) := by
  rw [← addr_plus]; kernel_rfl
@[simp] theorem fd39_2 (b o : Nat) : lField TE 39 2 (some (.pointer (some ⟨b, o, none⟩))) = some (.pointer (some ⟨b, o + 4, none⟩)) := by
  rw [← addr_plus]; kernel_rfl
@[simp] theorem fd39_3 (b o : Nat) : lField TE 39 3 (some (.pointer (some ⟨b, o, none⟩))) = some (.pointer (some ⟨b, o + 5, none⟩)) := by
  rw [← addr_plus]; kernel_rfl
@[simp] theorem fd39_4 (b o : Nat) : lField TE 39 4 (some (.pointer (some ⟨b, o, none⟩))) = some (.pointer (some ⟨b, o + 6, none⟩)) := by
  rw [← addr_plus]; kernel_rfl
@[simp] theorem fd39_5 (b o : Nat) : lField TE 39 5 (some (.pointer (some ⟨b, o, none⟩))) = some (.pointer (some ⟨b, o + 7, none⟩)) := by
  rw [← addr_plus]; kernel_rfl
@[simp] theorem fd39_6 (b o : Nat) : lField TE 39 6 (some (.pointer (some ⟨b, o, none⟩))) = some (.pointer (some ⟨b, o + 8, none⟩)) := by
  rw [← addr_plus]; kernel_rfl
@[simp] theorem fd40_0 (b o : Nat) : lField TE 40 0 (some (.pointer (some ⟨b, o, none⟩))) = some (.pointer (some ⟨b, o + 0, none⟩)) := by
  rw [← addr_plus]; kernel_rfl
@[simp] theorem fd40_1 (b o : Nat) : lField TE 40 1 (some (.pointer (some ⟨b, o, none⟩))) = some (.pointer (some ⟨b, o + 3, none⟩)) := by
  rw [← addr_plus]; kernel_rfl
@[simp] theorem fd40_2 (b o : Nat) : lField TE 40 2 (some (.pointer (some ⟨b, o, none⟩))) = some (.pointer (some ⟨b, o + 4, none⟩)) := by
  rw [← addr_plus]; kernel_rfl
@[simp] theorem fd40_3 (b o : Nat) : lField TE 40 3 (some (.pointer (some ⟨b, o, none⟩))) = some (.pointer (some ⟨b, o + 5, none⟩)) := by
  rw [← addr_plus]; kernel_rfl
@[simp] theorem fd40_4 (b o : Nat) : lField TE 40 4 (some (.pointer (some ⟨b, o, none⟩))) = some (.pointer (some ⟨b, o + 6, none⟩)) := by
  rw [← addr_plus]; kernel_rfl
@[simp] theorem fd40_5 (b o : Nat) : lField TE 40 5 (some (.pointer (some ⟨b, o, none⟩))) = some (.pointer (some ⟨b, o + 7, none⟩)) := by
  rw [← addr_plus]; kernel_rfl
@[simp] theorem fd40_6 (b o : Nat) : lField TE 40 6 (some (.pointer (some ⟨b, o, none⟩))) = some (.pointer (some ⟨b, o + 8, none⟩)) := by
  rw [← addr_plus]; kernel_rfl
@[simp] theorem fd46_0 (b o : Nat) : lField TE 46 0 (some (.pointer (some ⟨b, o, none⟩))) = some (.pointer (some ⟨b, o + 0, none⟩)) := by
  rw [← addr_plus]; kernel_rfl
@[simp] theorem fd46_1 (b o : Nat) : lField TE 46 1 (some (.pointer (some ⟨b, o, none⟩))) = some (.pointer (some ⟨b, o + 1, none⟩)) := by
  rw [← addr_plus]; kernel_rfl
@[simp] theorem fd46_2 (b o : Nat) : lField TE 46 2 (some (.pointer (some ⟨b, o, none⟩))) = some (.pointer (some ⟨b, o + 2, none⟩)) := by
  rw [← addr_plus]; kernel_rfl
@[simp] theorem fd46_3 (b o : Nat) : lField TE 46 3 (some (.pointer (some ⟨b, o, none⟩))) = some (.pointer (some ⟨b, o + 3, none⟩)) := by
  rw [← addr_plus]; kernel_rfl
@[simp] theorem fd46_4 (b o : Nat) : lField TE 46 4 (some (.pointer (some ⟨b, o, none⟩))) = some (.pointer (some ⟨b, o + 4, none⟩)) := by
  rw [← addr_plus]; kernel_rfl
@[simp] theorem fd46_5 (b o : Nat) : lField TE 46 5 (some (.pointer (some ⟨b, o, none⟩))) = some (.pointer (some ⟨b, o + 5, none⟩)) := by
  rw [← addr_plus]; kernel_rfl
@[simp] theorem fd46_6 (b o : Nat) : lField TE 46 6 (some (.pointer (some ⟨b, o, none⟩))) = some (.pointer (some ⟨b, o + 6, none⟩)) := by
  rw [← addr_plus]; kernel_rfl
@[simp] theorem fd46_7 (b o : Nat) : lField TE 46 7 (some (.pointer (some ⟨b, o, none⟩))) = some (.pointer (some ⟨b, o + 7, none⟩)) := by
  rw [← addr_plus]; kernel_rfl
@[simp] theorem fd46_8 (b o : Nat) : lField TE 46 8 (some (.pointer (some ⟨b, o, none⟩))) = some (.pointer (some ⟨b, o + 8, none⟩)) := by
  rw [← addr_plus]; kernel_rfl
@[simp] theorem fd47_0 (b o : Nat) : lField TE 47 0 (some (.pointer (some ⟨b, o, none⟩))) = some (.pointer (some ⟨b, o + 0, none⟩)) := by
  rw [← addr_plus]; kernel_rfl
@[simp] theorem fd47_1 (b o : Nat) : lField TE 47 1 (some (.pointer (some ⟨b, o, none⟩))) = some (.pointer (some ⟨b, o + 1, none⟩)) := by
  rw [← addr_plus]; kernel_rfl
@[simp] theorem fd47_2 (b o : Nat) : lField TE 47 2 (some (.pointer (some ⟨b, o, none⟩))) = some (.pointer (some ⟨b, o + 2, none⟩)) := by
  rw [← addr_plus]; kernel_rfl
@[simp] theorem fd47_3 (b o : Nat) : lField TE 47 3 (some (.pointer (some ⟨b, o, none⟩))) = some (.pointer (some ⟨b, o + 3, none⟩)) := by
  rw [← addr_plus]; kernel_rfl
@[simp] theorem fd47_4 (b o : Nat) : lField TE 47 4 (some (.pointer (some ⟨b, o, none⟩))) = some (.pointer (some ⟨b, o + 4, none⟩)) := by
  rw [← addr_plus]; kernel_rfl
@[simp] theorem fd47_5 (b o : Nat) : lField TE 47 5 (some (.pointer (some ⟨b, o, none⟩))) = some (.pointer (some ⟨b, o + 5, none⟩)) := by
  rw [← addr_plus]; kernel_rfl
@[simp] theorem fd47_6 (b o : Nat) : lField TE 47 6 (some (.pointer (some ⟨b, o, none⟩))) = some (.pointer (some ⟨b, o + 6, none⟩)) := by
  rw [← addr_plus]; kernel_rfl
@[simp] theorem fd47_7 (b o : Nat) : lField TE 47 7 (some (.pointer (some ⟨b, o, none⟩))) = some (.pointer (some ⟨b, o + 7, none⟩)) := by
  rw [← addr_plus]; kernel_rfl
@[simp] theorem fd47_8 (b o : Nat) : lField TE 47 8 (some (.pointer (some ⟨b, o, none⟩))) = some (.pointer (some ⟨b, o + 8, none⟩)) := by
  rw [← addr_plus]; kernel_rfl
@[simp] theorem ln48 (a : Option Addr) (len cap : Nat) : lLen TE (some 48) (.slice a len cap) = some (.int .i64 len) := by unfold lLen; simp only [ty48]; rfl
@[simp] theorem ix48 (a : Addr) (len cap : Nat) (k : IntKind) (i : Int) : indexPl TE 48 (.slice (some a) len cap) (.int k i) = cnd (decide (0 ≤ i) && decide (i < len)) (some (a.add (i.toNat * 10))) none := indexPl_s ty48 ty108 a len cap k i
@[simp] theorem ln49 (a : Option Addr) (len cap : Nat) : lLen TE (some 49) (.slice a len cap) = some (.int .i64 len) := by unfold lLen; simp only [ty49]; rfl
@[simp] theorem ix49 (a : Addr) (len cap : Nat) (k : IntKind) (i : Int) : indexPl TE 49 (.slice (some a) len cap) (.int k i) = cnd (decide (0 ≤ i) && decide (i < len)) (some (a.add (i.toNat * 1))) none := indexPl_s ty49 ty64 a len cap k i
@[simp] theorem fd50_0 (b o : Nat) : lField TE 50 0 (some (.pointer (some ⟨b, o, none⟩))) = some (.pointer (some ⟨b, o + 0, none⟩)) := by
  rw [← addr_plus]; kernel_rfl
@[simp] theorem fd50_1 (b o : Nat) : lField TE 50 1 (some (.pointer (some ⟨b, o, none⟩))) = some (.pointer (some ⟨b, o + 9, none⟩)) := by
  rw [← addr_plus]; kernel_rfl
@[simp] theorem fd50_2 (b o : Nat) : lField TE 50 2 (some (.pointer (some ⟨b, o, none⟩))) = some (.pointer (some ⟨b, o + 10, none⟩)) := by
  rw [← addr_plus]; kernel_rfl
@[simp] theorem fd51_0 (b o : Nat) : lField TE 51 0 (some (.pointer (some ⟨b, o, none⟩))) = some (.pointer (some ⟨b, o + 0, none⟩)) := by
  rw [← addr_plus]; kernel_rfl
@[simp] theorem fd51_1 (b o : Nat) : lField TE 51 1 (some (.pointer (some ⟨b, o, none⟩))) = some (.pointer (some ⟨b, o + 9, none⟩)) := by
  rw [← addr_plus]; kernel_rfl
@[simp] theorem fd51_2 (b o : Nat) : lField TE 51 2 (some (.pointer (some ⟨b, o, none⟩))) = some (.pointer (some ⟨b, o + 10, none⟩)) := by
  rw [← addr_plus]; kernel_rfl
@[simp] theorem ln61 (a : Option Addr) (len cap : Nat) : lLen TE (some 61) (.slice a len cap) = some (.int .i64 len) := by unfold lLen; simp only [ty61]; rfl
@[simp] theorem ix61 (a : Addr) (len cap : Nat) (k : IntKind) (i : Int) : indexPl TE 61 (.slice (some a) len cap) (.int k i) = cnd (decide (0 ≤ i) && decide (i < len)) (some (a.add (i.toNat * 2))) none := indexPl_s ty61 ty69 a len cap k i
@[simp] theorem ln64 (a : Option Addr) (len cap : Nat) : lLen TE (some 64) (.slice a len cap) = some (.int .i64 len) := by unfold lLen; simp only [ty64]; rfl
@[simp] theorem ix64 (a : Addr) (len cap : Nat) (k : IntKind) (i : Int) : indexPl TE 64 (.slice (some a) len cap) (.int k i) = cnd (decide (0 ≤ i) && decide (i < len)) (some (a.add (i.toNat * 1))) none := indexPl_s ty64 ty3 a len cap k i
@[simp] theorem ln65 (a : Option Addr) (len cap : Nat) : lLen TE (some 65) (.slice a len cap) = some (.int .i64 len) := by unfold lLen; simp only [ty65]; rfl
@[simp] theorem ix65 (a : Addr) (len cap : Nat) (k : IntKind) (i : Int) : indexPl TE 65 (.slice (some a) len cap) (.int k i) = cnd (decide (0 ≤ i) && decide (i < len)) (some (a.add (i.toNat * 2))) none := indexPl_s ty65 ty71 a len cap k i
@[simp] theorem fd68_0 (b o : Nat) : lField TE 68 0 (some (.pointer (some ⟨b, o, none⟩))) = some (.pointer (some ⟨b, o + 0, none⟩)) := by
  rw [← addr_plus]; kernel_rfl
@[simp] theorem fd68_1 (b o : Nat) : lField TE 68 1 (some (.pointer (some ⟨b, o, none⟩))) = some (.pointer (some ⟨b, o + 1, none⟩)) := by
  rw [← addr_plus]; kernel_rfl
@[simp] theorem fd69_0 (b o : Nat) : lField TE 69 0 (some (.pointer (some ⟨b, o, none⟩))) = some (.pointer (some ⟨b, o + 0, none⟩)) := by
  rw [← addr_plus]; kernel_rfl
@[simp] theorem fd69_1 (b o : Nat) : lField TE 69 1 (some (.pointer (some ⟨b, o, none⟩))) = some (.pointer (some ⟨b, o + 1, none⟩)) := by
  rw [← addr_plus]; kernel_rfl
@[simp] theorem ix71 (a : Addr) (k : IntKind) (i : Int) : indexPl TE 71 (.pointer (some a)) (.int k i) = cnd (decide (0 ≤ i) && decide (i < (2 : Nat))) (some (a.add (i.toNat * 1))) none := indexPl_a ty71 ty3 a k i
@[simp] theorem ix92 (a : Addr) (k : IntKind) (i : Int) : indexPl TE 92 (.pointer (some a)) (.int k i) = cnd (decide (0 ≤ i) && decide (i < (3 : Nat))) (some (a.add (i.toNat * 1))) none := indexPl_a ty92 ty3 a k i
@[simp] theorem fd103_0 (b o : Nat) : lField TE 103 0 (some (.pointer (some ⟨b, o, none⟩))) = some (.pointer (some ⟨b, o + 0, none⟩)) := by
  rw [← addr_plus]; kernel_rfl
@[simp] theorem fd103_1 (b o : Nat) : lField TE 103 1 (some (.pointer (some ⟨b, o, none⟩))) = some (.pointer (some ⟨b, o + 1, none⟩)) := by
  rw [← addr_plus]; kernel_rfl
@[simp] theorem fd103_2 (b o : Nat) : lField TE 103 2 (some (.pointer (some ⟨b, o, none⟩))) = some (.pointer (some ⟨b, o + 2, none⟩)) := by
  rw [← addr_plus]; kernel_rfl
@[simp] theorem fd104_0 (b o : Nat) : lField TE 104 0 (some (.pointer (some ⟨b, o, none⟩))) = some (.pointer (some ⟨b, o + 0, none⟩)) := by
  rw [← addr_plus]; kernel_rfl
@[simp] theorem fd104_1 (b o : Nat) : lField TE 104 1 (some (.pointer (some ⟨b, o, none⟩))) = some (.pointer (some ⟨b, o + 1, none⟩)) := by
  rw [← addr_plus]; kernel_rfl
@[simp] theorem fd104_2 (b o : Nat) : lField TE 104 2 (some (.pointer (some ⟨b, o, none⟩))) = some (.pointer (some ⟨b, o + 2, none⟩)) := by
  rw [← addr_plus]; kernel_rfl
@[simp] theorem fd105_0 (b o : Nat) : lField TE 105 0 (some (.pointer (some ⟨b, o, none⟩))) = some (.pointer (some ⟨b, o + 0, none⟩)) := by
  rw [← addr_plus]; kernel_rfl
@[simp] theorem fd105_1 (b o : Nat) : lField TE 105 1 (some (.pointer (some ⟨b, o, none⟩))) = some (.pointer (some ⟨b, o + 1, none⟩)) := by
  rw [← addr_plus]; kernel_rfl
@[simp] theorem fd105_2 (b o : Nat) : lField TE 105 2 (some (.pointer (some ⟨b, o, none⟩))) = some (.pointer (some ⟨b, o + 2, none⟩)) := by
  rw [← addr_plus]; kernel_rfl
@[simp] theorem fd105_3 (b o : Nat) : lField TE 105 3 (some (.pointer (some ⟨b, o, none⟩))) = some (.pointer (some ⟨b, o + 3, none⟩)) := by
  rw [← addr_plus]; kernel_rfl
@[simp] theorem fd106_0 (b o : Nat) : lField TE 106 0 (some (.pointer (some ⟨b, o, none⟩))) = some (.pointer (some ⟨b, o + 0, none⟩)) := by
  rw [← addr_plus]; kernel_rfl
@[simp] theorem fd106_1 (b o : Nat) : lField TE 106 1 (some (.pointer (some ⟨b, o, none⟩))) = some (.pointer (some ⟨b, o + 1, none⟩)) := by
  rw [← addr_plus]; kernel_rfl
@[simp] theorem fd106_2 (b o : Nat) : lField TE 106 2 (some (.pointer (some ⟨b, o, none⟩))) = some (.pointer (some ⟨b, o + 2, none⟩)) := by
  rw [← addr_plus]; kernel_rfl
@[simp] theorem fd106_3 (b o : Nat) : lField TE 106 3 (some (.pointer (some ⟨b, o, none⟩))) = some (.pointer (some ⟨b, o + 3, none⟩)) := by
  rw [← addr_plus]; kernel_rfl
@[simp] theorem fd107_0 (b o : Nat) : lField TE 107 0 (some (.pointer (some ⟨b, o, none⟩))) = some (.pointer (some ⟨b, o + 0, none⟩)) := by
  rw [← addr_plus]; kernel_rfl
@[simp] theorem fd107_1 (b o : Nat) : lField TE 107 1 (some (.pointer (some ⟨b, o, none⟩))) = some (.pointer (some ⟨b, o + 1, none⟩)) := by
  rw [← addr_plus]; kernel_rfl
@[simp] theorem fd107_2 (b o : Nat) : lField TE 107 2 (some (.pointer (some ⟨b, o, none⟩))) = some (.pointer (some ⟨b, o + 2, none⟩)) := by
  rw [← addr_plus]; kernel_rfl
@[simp] theorem fd107_3 (b o : Nat) : lField TE 107 3 (some (.pointer (some ⟨b, o, none⟩))) = some (.pointer (some ⟨b, o + 3, none⟩)) := by
  rw [← addr_plus]; kernel_rfl
@[simp] theorem fd107_4 (b o : Nat) : lField TE 107 4 (some (.pointer (some ⟨b, o, none⟩))) = some (.pointer (some ⟨b, o + 6, none⟩)) := by
  rw [← addr_plus]; kernel_rfl
@[simp] theorem fd108_0 (b o : Nat) : lField TE 108 0 (some (.pointer (some ⟨b, o, none⟩))) = some (.pointer (some ⟨b, o + 0, none⟩)) := by
  rw [← addr_plus]; kernel_rfl
@[simp] theorem fd108_1 (b o : Nat) : lField TE 108 1 (some (.pointer (some ⟨b, o, none⟩))) = some (.pointer (some ⟨b, o + 1, none⟩)) := by
  rw [← addr_plus]; kernel_rfl
@[simp] theorem fd108_2 (b o : Nat) : lField TE 108 2 (some (.pointer (some ⟨b, o, none⟩))) = some (.pointer (some ⟨b, o + 2, none⟩)) := by
  rw [← addr_plus]; kernel_rfl
@[simp] theorem fd108_3 (b o : Nat) : lField TE 108 3 (some (.pointer (some ⟨b, o, none⟩))) = some (.pointer (some ⟨b, o + 3, none⟩)) := by
  rw [← addr_plus]; kernel_rfl
@[simp] theorem fd108_4 (b o : Nat) : lField TE 108 4 (some (.pointer (some ⟨b, o, none⟩))) = some (.pointer (some ⟨b, o + 6, none⟩)) := by
  rw [← addr_plus]; kernel_rfl
@[simp] theorem ln124 (a : Option Addr) (len cap : Nat) : lLen TE (some 124) (.slice a len cap) = some (.int .i64 len) := by unfold lLen; simp only [ty124]; rfl
@[simp] theorem ix124 (a : Addr) (len cap : Nat) (k : IntKind) (i : Int) : indexPl TE 124 (.slice (some a) len cap) (.int k i) = cnd (decide (0 ≤ i) && decide (i < len)) (some (a.add (i.toNat * 1))) none := indexPl_s ty124 ty22 a len cap k i
@[simp] theorem ln125 (a : Option Addr) (len cap : Nat) : lLen TE (some 125) (.slice a len cap) = some (.int .i64 len) := by unfold lLen; simp only [ty125]; rfl
@[simp] theorem ix125 (a : Addr) (len cap : Nat) (k : IntKind) (i : Int) : indexPl TE 125 (.slice (some a) len cap) (.int k i) = cnd (decide (0 ≤ i) && decide (i < len)) (some (a.add (i.toNat * 2))) none := indexPl_s ty125 ty129 a len cap k i
@[simp] theorem fd128_0 (b o : Nat) : lField TE 128 0 (some (.pointer (some ⟨b, o, none⟩))) = some (.pointer (some ⟨b, o + 0, none⟩)) := by
  rw [← addr_plus]; kernel_rfl
@[simp] theorem fd128_1 (b o : Nat) : lField TE 128 1 (some (.pointer (some ⟨b, o, none⟩))) = some (.pointer (some ⟨b, o + 1, none⟩)) := by
  rw [← addr_plus]; kernel_rfl
@[simp] theorem fd129_0 (b o : Nat) : lField TE 129 0 (some (.pointer (some ⟨b, o, none⟩))) = some (.pointer (some ⟨b, o + 0, none⟩)) := by
  rw [← addr_plus]; kernel_rfl
@[simp] theorem fd129_1 (b o : Nat) : lField TE 129 1 (some (.pointer (some ⟨b, o, none⟩))) = some (.pointer (some ⟨b, o + 1, none⟩)) := by
  rw [← addr_plus]; kernel_rfl
@[simp] theorem fd136_0 (b o : Nat) : lField TE 136 0 (some (.pointer (some ⟨b, o, none⟩))) = some (.pointer (some ⟨b, o + 0, none⟩)) := by
  rw [← addr_plus]; kernel_rfl
@[simp] theorem fd136_1 (b o : Nat) : lField TE 136 1 (some (.pointer (some ⟨b, o, none⟩))) = some (.pointer (some ⟨b, o + 1, none⟩)) := by
  rw [← addr_plus]; kernel_rfl
@[simp] theorem fd137_0 (b o : Nat) : lField TE 137 0 (some (.pointer (some ⟨b, o, none⟩))) = some (.pointer (some ⟨b, o + 0, none⟩)) := by
  rw [← addr_plus]; kernel_rfl
@[simp] theorem fd137_1 (b o : Nat) : lField TE 137 1 (some (.pointer (some ⟨b, o, none⟩))) = some (.pointer (some ⟨b, o + 1, none⟩)) := by
  rw [← addr_plus]; kernel_rfl
@[simp] theorem ix143 (a : Addr) (k : IntKind) (i : Int) : indexPl TE 143 (.pointer (some a)) (.int k i) = cnd (decide (0 ≤ i) && decide (i < (16 : Nat))) (some (a.add (i.toNat * 1))) none := indexPl_a ty143 ty3 a k i
@[simp] theorem ix144 (a : Addr) (k : IntKind) (i : Int) : indexPl TE 144 (.pointer (some a)) (.int k i) = cnd (decide (0 ≤ i) && decide (i < (8 : Nat))) (some (a.add (i.toNat * 1))) none := indexPl_a ty144 ty3 a k i
@[simp] theorem fd156_0 (b o : Nat) : lField TE 156 0 (some (.pointer (some ⟨b, o, none⟩))) = some (.pointer (some ⟨b, o + 0, none⟩)) := by
  rw [← addr_plus]; kernel_rfl
@[simp] theorem fd157_0 (b o : Nat) : lField TE 157 0 (some (.pointer (some ⟨b, o, none⟩))) = some (.pointer (some ⟨b, o + 0, none⟩)) := by
  rw [← addr_plus]; kernel_rfl
@[simp] theorem fd158_0 (b o : Nat) : lField TE 158 0 (some (.pointer (some ⟨b, o, none⟩))) = some (.pointer (some ⟨b, o + 0, none⟩)) := by
  rw [← addr_plus]; kernel_rfl
@[simp] theorem fd158_1 (b o : Nat) : lField TE 158 1 (some (.pointer (some ⟨b, o, none⟩))) = some (.pointer (some ⟨b, o + 1, none⟩)) := by
  rw [← addr_plus]; kernel_rfl
@[simp] theorem fd159_0 (b o : Nat) : lField TE 159 0 (some (.pointer (some ⟨b, o, none⟩))) = some (.pointer (some ⟨b, o + 0, none⟩)) := by
  rw [← addr_plus]; kernel_rfl
@[simp] theorem fd159_1 (b o : Nat) : lField TE 159 1 (some (.pointer (some ⟨b, o, none⟩))) = some (.pointer (some ⟨b, o + 1, none⟩)) := by
  rw [← addr_plus]; kernel_rfl
@[simp] theorem fd162_0 (b o : Nat) : lField TE 162 0 (some (.pointer (some ⟨b, o, none⟩))) = some (.pointer (some ⟨b, o + 0, none⟩)) := by
  rw [← addr_plus]; kernel_rfl
@[simp] theorem fd162_1 (b o : Nat) : lField TE 162 1 (some (.pointer (some ⟨b, o, none⟩))) = some (.pointer (some ⟨b, o + 1, none⟩)) := by
  rw [← addr_plus]; kernel_rfl
@[simp] theorem fd163_0 (b o : Nat) : lField TE 163 0 (some (.pointer (some ⟨b, o, none⟩))) = some (.pointer (some ⟨b, o + 0, none⟩)) := by
  rw [← addr_plus]; kernel_rfl
@[simp] theorem fd163_1 (b o : Nat) : lField TE 163 1 (some (.pointer (some ⟨b, o, none⟩))) = some (.pointer (some ⟨b, o + 1, none⟩)) := by
  rw [← addr_plus]; kernel_rfl
@[simp] theorem fd166_0 (b o : Nat) : lField TE 166 0 (some (.pointer (some ⟨b, o, none⟩))) = some (.pointer (some ⟨b, o + 0, none⟩)) := by
  rw [← addr_plus]; kernel_rfl
@[simp] theorem fd166_1 (b o : Nat) : lField TE 166 1 (some (.pointer (some ⟨b, o, none⟩))) = some (.pointer (some ⟨b, o + 1, none⟩)) := by
  rw [← addr_plus]; kernel_rfl
@[simp] theorem fd167_0 (b o : Nat) : lField TE 167 0 (some (.pointer (some ⟨b, o, none⟩))) = some (.pointer (some ⟨b, o + 0, none⟩)) := by
  rw [← addr_plus]; kernel_rfl
@[simp] theorem fd167_1 (b o : Nat) : lField TE 167 1 (some (.pointer (some ⟨b, o, none⟩))) = some (.pointer (some ⟨b, o + 1, none⟩)) := by
  rw [← addr_plus]; kernel_rfl
@[simp] theorem ln194 (a : Option Addr) (len cap : Nat) : lLen TE (some 194) (.slice a len cap) = some (.int .i64 len) := by unfold lLen; simp only [ty194]; rfl
@[simp] theorem ix194 (a : Addr) (len cap : Nat) (k : IntKind) (i : Int) : indexPl TE 194 (.slice (some a) len cap) (.int k i) = cnd (decide (0 ≤ i) && decide (i < len)) (some (a.add (i.toNat * 1))) none := indexPl_s ty194 ty52 a len cap k i
@[simp] theorem fd233_0 (b o : Nat) : lField TE 233 0 (some (.pointer (some ⟨b, o, none⟩))) = some (.pointer (some ⟨b, o + 0, none⟩)) := by
  rw [← addr_plus]; kernel_rfl
@[simp] theorem fd233_1 (b o : Nat) : lField TE 233 1 (some (.pointer (some ⟨b, o, none⟩))) = some (.pointer (some ⟨b, o + 1, none⟩)) := by
  rw [← addr_plus]; kernel_rfl
@[simp] theorem fd256_0 (b o : Nat) : lField TE 256 0 (some (.pointer (some ⟨b, o, none⟩))) = some (.pointer (some ⟨b, o + 0, none⟩)) := by
  rw [← addr_plus]; kernel_rfl
@[simp] theorem fd256_1 (b o : Nat) : lField TE 256 1 (some (.pointer (some ⟨b, o, none⟩))) = some (.pointer (some ⟨b, o + 1, none⟩)) := by
  rw [← addr_plus]; kernel_rfl
@[simp] theorem fd257_0 (b o : Nat) : lField TE 257 0 (some (.pointer (some ⟨b, o, none⟩))) = some (.pointer (some ⟨b, o + 0, none⟩)) := by
  rw [← addr_plus]; kernel_rfl
@[simp] theorem fd257_1 (b o : Nat) : lField TE 257 1 (some (.pointer (some ⟨b, o, none⟩))) = some (.pointer (some ⟨b, o + 1, none⟩)) := by
  rw [← addr_plus]; kernel_rfl
@[simp] theorem ix272 (a : Addr) (k : IntKind) (i : Int) : indexPl TE 272 (.pointer (some a)) (.int k i) = cnd (decide (0 ≤ i) && decide (i < (4 : Nat))) (some (a.add (i.toNat * 1))) none := indexPl_a ty272 ty204 a k i
@[simp] theorem ix273 (a : Addr) (k : IntKind) (i : Int) : indexPl TE 273 (.pointer (some a)) (.int k i) = cnd (decide (0 ≤ i) && decide (i < (4 : Nat))) (some (a.add (i.toNat * 1))) none := indexPl_a ty273 ty204 a k i
@[simp] theorem fd274_0 (b o : Nat) : lField TE 274 0 (some (.pointer (some ⟨b, o, none⟩))) = some (.pointer (some ⟨b, o + 0, none⟩)) := by
  rw [← addr_plus]; kernel_rfl
@[simp] theorem fd274_1 (b o : Nat) : lField TE 274 1 (some (.pointer (some ⟨b, o, none⟩))) = some (.pointer (some ⟨b, o + 4, none⟩)) := by
  rw [← addr_plus]; kernel_rfl
@[simp] theorem fd274_2 (b o : Nat) : lField TE 274 2 (some (.pointer (some ⟨b, o, none⟩))) = some (.pointer (some ⟨b, o + 5, none⟩)) := by
  rw [← addr_plus]; kernel_rfl
@[simp] theorem fd275_0 (b o : Nat) : lField TE 275 0 (some (.pointer (some ⟨b, o, none⟩))) = some (.pointer (some ⟨b, o + 0, none⟩)) := by
  rw [← addr_plus]; kernel_rfl
@[simp] theorem fd275_1 (b o : Nat) : lField TE 275 1 (some (.pointer (some ⟨b, o, none⟩))) = some (.pointer (some ⟨b, o + 4, none⟩)) := by
  rw [← addr_plus]; kernel_rfl
@[simp] theorem fd275_2 (b o : Nat) : lField TE 275 2 (some (.pointer (some ⟨b, o, none⟩))) = some (.pointer (some ⟨b, o + 5, none⟩)) := by
  rw [← addr_plus]; kernel_rfl
@[simp] theorem ix288 (a : Addr) (k : IntKind) (i : Int) : indexPl TE 288 (.pointer (some a)) (.int k i) = cnd (decide (0 ≤ i) && decide (i < (4 : Nat))) (some (a.add (i.toNat * 1))) none := indexPl_a ty288 ty3 a k i
@[simp] theorem ix289 (a : Addr) (k : IntKind) (i : Int) : indexPl TE 289 (.pointer (some a)) (.int k i) = cnd (decide (0 ≤ i) && decide (i < (5 : Nat))) (some (a.add (i.toNat * 4))) none := indexPl_a ty289 ty288 a k i
@[simp] theorem ix293 (a : Addr) (k : IntKind) (i : Int) : indexPl TE 293 (.pointer (some a)) (.int k i) = cnd (decide (0 ≤ i) && decide (i < (16 : Nat))) (some (a.add (i.toNat * 1))) none := indexPl_a ty293 ty204 a k i
@[simp] theorem ix294 (a : Addr) (k : IntKind) (i : Int) : indexPl TE 294 (.pointer (some a)) (.int k i) = cnd (decide (0 ≤ i) && decide (i < (64 : Nat))) (some (a.add (i.toNat * 1))) none := indexPl_a ty294 ty204 a k i
@[simp] theorem ix297 (a : Addr) (k : IntKind) (i : Int) : indexPl TE 297 (.pointer (some a)) (.int k i) = cnd (decide (0 ≤ i) && decide (i < (4 : Nat))) (some (a.add (i.toNat * 4))) none := indexPl_a ty297 ty288 a k i
@[simp] theorem fd300_0 (b o : Nat) : lField TE 300 0 (some (.pointer (some ⟨b, o, none⟩))) = some (.pointer (some ⟨b, o + 0, none⟩)) := by
  rw [← addr_plus]; kernel_rfl
@[simp] theorem fd300_1 (b o : Nat) : lField TE 300 1 (some (.pointer (some ⟨b, o, none⟩))) = some (.pointer (some ⟨b, o + 1, none⟩)) := by
  rw [← addr_plus]; kernel_rfl
@[simp] theorem fd300_2 (b o : Nat) : lField TE 300 2 (some (.pointer (some ⟨b, o, none⟩))) = some (.pointer (some ⟨b, o + 2, none⟩)) := by
  rw [← addr_plus]; kernel_rfl
@[simp] theorem fd300_3 (b o : Nat) : lField TE 300 3 (some (.pointer (some ⟨b, o, none⟩))) = some (.pointer (some ⟨b, o + 3, none⟩)) := by
  rw [← addr_plus]; kernel_rfl
theorem convI_eq0 {E : Env} {s d : TypeId} {ts : TI} {sz : Nat} {g : Bool} {z : List Value} {k : IntKind} {b : Nat} (hs : E.types s = some ts) (hd : E.types d = some ⟨sz, g, z, .int k, b⟩) (a : Int) : convI E s d a = some (.int k (wr k a)) := by
  unfold convI; rw [hs, hd]
@[simp] theorem cv3_5 (a : Int) : convI TE 3 5 a = some (.int .u8 (wr .u8 a)) := convI_eq0 ty3 ty5 a
@[simp] theorem cv3_97 (a : Int) : convI TE 3 97 a = some (.int .u64 (wr .u64 a)) := convI_eq0 ty3 ty97 a
@[simp] theorem cv3_206 (a : Int) : convI TE 3 206 a = some (.int .u64 (wr .u64 a)) := convI_eq0 ty3 ty206 a
@[simp] theorem cv3_242 (a : Int) : convI TE 3 242 a = some (.int .u64 (wr .u64 a)) := convI_eq0 ty3 ty242 a
@[simp] theorem cv5_3 (a : Int) : convI TE 5 3 a = some (.int .i64 (wr .i64 a)) := convI_eq0 ty5 ty3 a
@[simp] theorem cv5_204 (a : Int) : convI TE 5 204 a = some (.int .u32 (wr .u32 a)) := convI_eq0 ty5 ty204 a
@[simp] theorem cv97_3 (a : Int) : convI TE 97 3 a = some (.int .i64 (wr .i64 a)) := convI_eq0 ty97 ty3 a
@[simp] theorem cv97_204 (a : Int) : convI TE 97 204 a = some (.int .u32 (wr .u32 a)) := convI_eq0 ty97 ty204 a
@[simp] theorem cv204_5 (a : Int) : convI TE 204 5 a = some (.int .u8 (wr .u8 a)) := convI_eq0 ty204 ty5 a
@[simp] theorem cv204_97 (a : Int) : convI TE 204 97 a = some (.int .u64 (wr .u64 a)) := convI_eq0 ty204 ty97 a
@[simp] theorem cv204_206 (a : Int) : convI TE 204 206 a = some (.int .u64 (wr .u64 a)) := convI_eq0 ty204 ty206 a
@[simp] theorem cv206_5 (a : Int) : convI TE 206 5 a = some (.int .u8 (wr .u8 a)) := convI_eq0 ty206 ty5 a
@[simp] theorem cv206_204 (a : Int) : convI TE 206 204 a = some (.int .u32 (wr .u32 a)) := convI_eq0 ty206 ty204 a
@[simp] theorem gs : TE.gs = 7 := by kernel_rfl
theorem fn3 : TE.funcs 3 = some Tryz.f3 := Tryz.func3
theorem fn4 : TE.funcs 4 = some Tryz.f4 := Tryz.func4
theorem fn5 : TE.funcs 5 = some Tryz.f5 := Tryz.func5
theorem fn6 : TE.funcs 6 = some Tryz.f6 := Tryz.func6
theorem fn7 : TE.funcs 7 = some Tryz.f7 := Tryz.func7
theorem fn8 : TE.funcs 8 = some Tryz.f8 := Tryz.func8
theorem fn9 : TE.funcs 9 = some Tryz.f9 := Tryz.func9
theorem fn10 : TE.funcs 10 = some Tryz.f10 := Tryz.func10
theorem fn11 : TE.funcs 11 = some Tryz.f11 := Tryz.func11
theorem fn12 : TE.funcs 12 = some Tryz.f12 := Tryz.func12
theorem fn13 : TE.funcs 13 = some Tryz.f13 := Tryz.func13
theorem fn14 : TE.funcs 14 = some Tryz.f14 := Tryz.func14
theorem fn15 : TE.funcs 15 = some Tryz.f15 := Tryz.func15
theorem fn16 : TE.funcs 16 = some Tryz.f16 := Tryz.func16
theorem fn17 : TE.funcs 17 = some Tryz.f17 := Tryz.func17
theorem fn18 : TE.funcs 18 = some Tryz.f18 := Tryz.func18
theorem fn19 : TE.funcs 19 = some Tryz.f19 := Tryz.func19
theorem fn20 : TE.funcs 20 = some Tryz.f20 := Tryz.func20
theorem fn21 : TE.funcs 21 = some Tryz.f21 := Tryz.func21
theorem fn22 : TE.funcs 22 = some Tryz.f22 := Tryz.func22
theorem fn23 : TE.funcs 23 = some Tryz.f23 := Tryz.func23
theorem fn24 : TE.funcs 24 = some Tryz.f24 := Tryz.func24
theorem fn25 : TE.funcs 25 = some Tryz.f25 := Tryz.func25
theorem fn26 : TE.funcs 26 = some Tryz.f26 := Tryz.func26
theorem fn27 : TE.funcs 27 = some Tryz.f27 := Tryz.func27
theorem fn28 : TE.funcs 28 = some Tryz.f28 := Tryz.func28
theorem fn29 : TE.funcs 29 = some Tryz.f29 := Tryz.func29
theorem fn30 : TE.funcs 30 = some Tryz.f30 := Tryz.func30
theorem fn31 : TE.funcs 31 = some Tryz.f31 := Tryz.func31
theorem fn32 : TE.funcs 32 = some Tryz.f32 := Tryz.func32
theorem fn33 : TE.funcs 33 = some Tryz.f33 := Tryz.func33
theorem fn34 : TE.funcs 34 = some Tryz.f34 := Tryz.func34
theorem fn35 : TE.funcs 35 = some Tryz.f35 := Tryz.func35
theorem fn36 : TE.funcs 36 = some Tryz.f36 := Tryz.func36
theorem fn37 : TE.funcs 37 = some Tryz.f37 := Tryz.func37
theorem fn38 : TE.funcs 38 = some Tryz.f38 := Tryz.func38
theorem fn39 : TE.funcs 39 = some Tryz.f39 := Tryz.func39
theorem fn40 : TE.funcs 40 = some Tryz.f40 := Tryz.func40
theorem fn41 : TE.funcs 41 = some Tryz.f41 := Tryz.func41
theorem fn42 : TE.funcs 42 = some Tryz.f42 := Tryz.func42
theorem fn43 : TE.funcs 43 = some Tryz.f43 := Tryz.func43
theorem fn44 : TE.funcs 44 = some Tryz.f44 := Tryz.func44
theorem fn45 : TE.funcs 45 = some Tryz.f45 := Tryz.func45
theorem fn46 : TE.funcs 46 = some Tryz.f46 := Tryz.func46
theorem fn47 : TE.funcs 47 = some Tryz.f47 := Tryz.func47
theorem fn48 : TE.funcs 48 = some Tryz.f48 := Tryz.func48
theorem fn49 : TE.funcs 49 = some Tryz.f49 := Tryz.func49
theorem fn50 : TE.funcs 50 = some Tryz.f50 := Tryz.func50
theorem fn51 : TE.funcs 51 = some Tryz.f51 := Tryz.func51
theorem fn52 : TE.funcs 52 = some Tryz.f52 := Tryz.func52
theorem fn53 : TE.funcs 53 = some Tryz.f53 := Tryz.func53
theorem fn54 : TE.funcs 54 = some Tryz.f54 := Tryz.func54
theorem fn55 : TE.funcs 55 = some Tryz.f55 := Tryz.func55
theorem fn56 : TE.funcs 56 = some Tryz.f56 := Tryz.func56
theorem fn57 : TE.funcs 57 = some Tryz.f57 := Tryz.func57
theorem fn58 : TE.funcs 58 = some Tryz.f58 := Tryz.func58
theorem fn59 : TE.funcs 59 = some Tryz.f59 := Tryz.func59
theorem fn60 : TE.funcs 60 = some Tryz.f60 := Tryz.func60
theorem fn61 : TE.funcs 61 = some Tryz.f61 := Tryz.func61
theorem fn62 : TE.funcs 62 = some Tryz.f62 := Tryz.func62
theorem fn63 : TE.funcs 63 = some Tryz.f63 := Tryz.func63
theorem fn64 : TE.funcs 64 = some Tryz.f64 := Tryz.func64
theorem fn65 : TE.funcs 65 = some Tryz.f65 := Tryz.func65
theorem fn66 : TE.funcs 66 = some Tryz.f66 := Tryz.func66
theorem fn67 : TE.funcs 67 = some Tryz.f67 := Tryz.func67
theorem fn68 : TE.funcs 68 = some Tryz.f68 := Tryz.func68
theorem fn69 : TE.funcs 69 = some Tryz.f69 := Tryz.func69
theorem fn70 : TE.funcs 70 = some Tryz.f70 := Tryz.func70
theorem fn71 : TE.funcs 71 = some Tryz.f71 := Tryz.func71
theorem fn72 : TE.funcs 72 = some Tryz.f72 := Tryz.func72
theorem fn73 : TE.funcs 73 = some Tryz.f73 := Tryz.func73
theorem fn74 : TE.funcs 74 = some Tryz.f74 := Tryz.func74
theorem fn75 : TE.funcs 75 = some Tryz.f75 := Tryz.func75
theorem fn76 : TE.funcs 76 = some Tryz.f76 := Tryz.func76
theorem fn77 : TE.funcs 77 = some Tryz.f77 := Tryz.func77
theorem fn78 : TE.funcs 78 = some Tryz.f78 := Tryz.func78
theorem fn79 : TE.funcs 79 = some Tryz.f79 := Tryz.func79
theorem fn80 : TE.funcs 80 = some Tryz.f80 := Tryz.func80
theorem fn81 : TE.funcs 81 = some Tryz.f81 := Tryz.func81
theorem fn82 : TE.funcs 82 = some Tryz.f82 := Tryz.func82
theorem fn83 : TE.funcs 83 = some Tryz.f83 := Tryz.func83
theorem fn84 : TE.funcs 84 = some Tryz.f84 := Tryz.func84
theorem fn85 : TE.funcs 85 = some Tryz.f85 := Tryz.func85
theorem fn86 : TE.funcs 86 = some Tryz.f86 := Tryz.func86
theorem fn87 : TE.funcs 87 = some Tryz.f87 := Tryz.func87
theorem fn88 : TE.funcs 88 = some Tryz.f88 := Tryz.func88
theorem fn89 : TE.funcs 89 = some Tryz.f89 := Tryz.func89
theorem fn90 : TE.funcs 90 = some Tryz.f90 := Tryz.func90
theorem fn91 : TE.funcs 91 = some Tryz.f91 := Tryz.func91
theorem fn92 : TE.funcs 92 = some Tryz.f92 := Tryz.func92
theorem fn93 : TE.funcs 93 = some Tryz.f93 := Tryz.func93
theorem fn94 : TE.funcs 94 = some Tryz.f94 := Tryz.func94
theorem fn95 : TE.funcs 95 = some Tryz.f95 := Tryz.func95
theorem fn96 : TE.funcs 96 = some Tryz.f96 := Tryz.func96
theorem fn97 : TE.funcs 97 = some Tryz.f97 := Tryz.func97
theorem fn98 : TE.funcs 98 = some Tryz.f98 := Tryz.func98
theorem fn99 : TE.funcs 99 = some Tryz.f99 := Tryz.func99
theorem fn100 : TE.funcs 100 = some Tryz.f100 := Tryz.func100
theorem fn101 : TE.funcs 101 = some Tryz.f101 := Tryz.func101
theorem fn102 : TE.funcs 102 = some Tryz.f102 := Tryz.func102
theorem fn103 : TE.funcs 103 = some Tryz.f103 := Tryz.func103
theorem fn104 : TE.funcs 104 = some Tryz.f104 := Tryz.func104
theorem fn105 : TE.funcs 105 = some Tryz.f105 := Tryz.func105
theorem fn106 : TE.funcs 106 = some Tryz.f106 := Tryz.func106
theorem fn107 : TE.funcs 107 = some Tryz.f107 := Tryz.func107
theorem fn108 : TE.funcs 108 = some Tryz.f108 := Tryz.func108
theorem fn109 : TE.funcs 109 = some Tryz.f109 := Tryz.func109
theorem fn110 : TE.funcs 110 = some Tryz.f110 := Tryz.func110
theorem fn111 : TE.funcs 111 = some Tryz.f111 := Tryz.func111
theorem fn112 : TE.funcs 112 = some Tryz.f112 := Tryz.func112
theorem fn113 : TE.funcs 113 = some Tryz.f113 := Tryz.func113
theorem fn114 : TE.funcs 114 = some Tryz.f114 := Tryz.func114
theorem fn115 : TE.funcs 115 = some Tryz.f115 := Tryz.func115
theorem fn116 : TE.funcs 116 = some Tryz.f116 := Tryz.func116
theorem fn117 : TE.funcs 117 = some Tryz.f117 := Tryz.func117
theorem fn118 : TE.funcs 118 = some Tryz.f118 := Tryz.func118
theorem fn119 : TE.funcs 119 = some Tryz.f119 := Tryz.func119
theorem fn120 : TE.funcs 120 = some Tryz.f120 := Tryz.func120
theorem fn121 : TE.funcs 121 = some Tryz.f121 := Tryz.func121
theorem fn122 : TE.funcs 122 = some Tryz.f122 := Tryz.func122
theorem fn123 : TE.funcs 123 = some Tryz.f123 := Tryz.func123
theorem fn124 : TE.funcs 124 = some Tryz.f124 := Tryz.func124
theorem fn125 : TE.funcs 125 = some Tryz.f125 := Tryz.func125
theorem fn126 : TE.funcs 126 = some Tryz.f126 := Tryz.func126
theorem fn127 : TE.funcs 127 = some Tryz.f127 := Tryz.func127
theorem fn128 : TE.funcs 128 = some Tryz.f128 := Tryz.func128
theorem fn129 : TE.funcs 129 = some Tryz.f129 := Tryz.func129
theorem fn130 : TE.funcs 130 = some Tryz.f130 := Tryz.func130
theorem fn131 : TE.funcs 131 = some Tryz.f131 := Tryz.func131
theorem fn132 : TE.funcs 132 = some Tryz.f132 := Tryz.func132
theorem fn133 : TE.funcs 133 = some Tryz.f133 := Tryz.func133
theorem fn134 : TE.funcs 134 = some Tryz.f134 := Tryz.func134
theorem fn135 : TE.funcs 135 = some Tryz.f135 := Tryz.func135
theorem fn136 : TE.funcs 136 = some Tryz.f136 := Tryz.func136
theorem fn137 : TE.funcs 137 = some Tryz.f137 := Tryz.func137
theorem fn138 : TE.funcs 138 = some Tryz.f138 := Tryz.func138
theorem fn139 : TE.funcs 139 = some Tryz.f139 := Tryz.func139
theorem fn140 : TE.funcs 140 = some Tryz.f140 := Tryz.func140
theorem fn141 : TE.funcs 141 = some Tryz.f141 := Tryz.func141
theorem fn142 : TE.funcs 142 = some Tryz.f142 := Tryz.func142
theorem fn143 : TE.funcs 143 = some Tryz.f143 := Tryz.func143
theorem fn144 : TE.funcs 144 = some Tryz.f144 := Tryz.func144
theorem fn145 : TE.funcs 145 = some Tryz.f145 := Tryz.func145
theorem fn146 : TE.funcs 146 = some Tryz.f146 := Tryz.func146
theorem fn147 : TE.funcs 147 = some Tryz.f147 := Tryz.func147
theorem fn148 : TE.funcs 148 = some Tryz.f148 := Tryz.func148
theorem fn149 : TE.funcs 149 = some Tryz.f149 := Tryz.func149
theorem fn150 : TE.funcs 150 = some Tryz.f150 := Tryz.func150
theorem fn151 : TE.funcs 151 = some Tryz.f151 := Tryz.func151
theorem fn152 : TE.funcs 152 = some Tryz.f152 := Tryz.func152
theorem fn153 : TE.funcs 153 = some Tryz.f153 := Tryz.func153
theorem fn154 : TE.funcs 154 = some Tryz.f154 := Tryz.func154
theorem fn155 : TE.funcs 155 = some Tryz.f155 := Tryz.func155
theorem fn156 : TE.funcs 156 = some Tryz.f156 := Tryz.func156
theorem fn157 : TE.funcs 157 = some Tryz.f157 := Tryz.func157
theorem fn158 : TE.funcs 158 = some Tryz.f158 := Tryz.func158
theorem fn159 : TE.funcs 159 = some Tryz.f159 := Tryz.func159
theorem fn160 : TE.funcs 160 = some Tryz.f160 := Tryz.func160
theorem fn161 : TE.funcs 161 = some Tryz.f161 := Tryz.func161
theorem fn162 : TE.funcs 162 = some Tryz.f162 := Tryz.func162
theorem fn163 : TE.funcs 163 = some Tryz.f163 := Tryz.func163
theorem fn164 : TE.funcs 164 = some Tryz.f164 := Tryz.func164
theorem fn165 : TE.funcs 165 = some Tryz.f165 := Tryz.func165
theorem fn166 : TE.funcs 166 = some Tryz.f166 := Tryz.func166
theorem fn167 : TE.funcs 167 = some Tryz.f167 := Tryz.func167
theorem fn168 : TE.funcs 168 = some Tryz.f168 := Tryz.func168
theorem fn169 : TE.funcs 169 = some Tryz.f169 := Tryz.func169
theorem fn170 : TE.funcs 170 = some Tryz.f170 := Tryz.func170
theorem fn171 : TE.funcs 171 = some Tryz.f171 := Tryz.func171
theorem fn172 : TE.funcs 172 = some Tryz.f172 := Tryz.func172
theorem fn173 : TE.funcs 173 = some Tryz.f173 := Tryz.func173
theorem fn174 : TE.funcs 174 = some Tryz.f174 := Tryz.func174
theorem fn175 : TE.funcs 175 = some Tryz.f175 := Tryz.func175
theorem fn176 : TE.funcs 176 = some Tryz.f176 := Tryz.func176
theorem fn177 : TE.funcs 177 = some Tryz.f177 := Tryz.func177
theorem fn178 : TE.funcs 178 = some Tryz.f178 := Tryz.func178
theorem fn179 : TE.funcs 179 = some Tryz.f179 := Tryz.func179
theorem fn180 : TE.funcs 180 = some Tryz.f180 := Tryz.func180
theorem fn181 : TE.funcs 181 = some Tryz.f181 := Tryz.func181
theorem fn182 : TE.funcs 182 = some Tryz.f182 := Tryz.func182
theorem fn183 : TE.funcs 183 = some Tryz.f183 := Tryz.func183
theorem fn184 : TE.funcs 184 = some Tryz.f184 := Tryz.func184
theorem fn185 : TE.funcs 185 = some Tryz.f185 := Tryz.func185
theorem fn186 : TE.funcs 186 = some Tryz.f186 := Tryz.func186
theorem fn187 : TE.funcs 187 = some Tryz.f187 := Tryz.func187
theorem fn188 : TE.funcs 188 = some Tryz.f188 := Tryz.func188
theorem fn189 : TE.funcs 189 = some Tryz.f189 := Tryz.func189
theorem fn190 : TE.funcs 190 = some Tryz.f190 := Tryz.func190
theorem fn191 : TE.funcs 191 = some Tryz.f191 := Tryz.func191
theorem fn192 : TE.funcs 192 = some Tryz.f192 := Tryz.func192
theorem fn193 : TE.funcs 193 = some Tryz.f193 := Tryz.func193
theorem fn194 : TE.funcs 194 = some Tryz.f194 := Tryz.func194
theorem fn195 : TE.funcs 195 = some Tryz.f195 := Tryz.func195
theorem fn196 : TE.funcs 196 = some Tryz.f196 := Tryz.func196
theorem fn197 : TE.funcs 197 = some Tryz.f197 := Tryz.func197
theorem fn198 : TE.funcs 198 = some Tryz.f198 := Tryz.func198
theorem fn199 : TE.funcs 199 = some Tryz.f199 := Tryz.func199
theorem fn200 : TE.funcs 200 = some Tryz.f200 := Tryz.func200
theorem fn201 : TE.funcs 201 = some Tryz.f201 := Tryz.func201
theorem fn202 : TE.funcs 202 = some Tryz.f202 := Tryz.func202
theorem fn203 : TE.funcs 203 = some Tryz.f203 := Tryz.func203
theorem fn204 : TE.funcs 204 = some Tryz.f204 := Tryz.func204
theorem fn205 : TE.funcs 205 = some Tryz.f205 := Tryz.func205
theorem fn206 : TE.funcs 206 = some Tryz.f206 := Tryz.func206
theorem fn207 : TE.funcs 207 = some Tryz.f207 := Tryz.func207
theorem fn208 : TE.funcs 208 = some Tryz.f208 := Tryz.func208
theorem fn209 : TE.funcs 209 = some Tryz.f209 := Tryz.func209
theorem fn210 : TE.funcs 210 = some Tryz.f210 := Tryz.func210
theorem fn211 : TE.funcs 211 = some Tryz.f211 := Tryz.func211
theorem fn212 : TE.funcs 212 = some Tryz.f212 := Tryz.func212
theorem fn213 : TE.funcs 213 = some Tryz.f213 := Tryz.func213
theorem fn214 : TE.funcs 214 = some Tryz.f214 := Tryz.func214
theorem fn215 : TE.funcs 215 = some Tryz.f215 := Tryz.func215
theorem fn216 : TE.funcs 216 = some Tryz.f216 := Tryz.func216
theorem fn217 : TE.funcs 217 = some Tryz.f217 := Tryz.func217
theorem fn218 : TE.funcs 218 = some Tryz.f218 := Tryz.func218
theorem fn219 : TE.funcs 219 = some Tryz.f219 := Tryz.func219
theorem fn220 : TE.funcs 220 = some Tryz.f220 := Tryz.func220
theorem fn221 : TE.funcs 221 = some Tryz.f221 := Tryz.func221
theorem fn222 : TE.funcs 222 = some Tryz.f222 := Tryz.func222
theorem fn223 : TE.funcs 223 = some Tryz.f223 := Tryz.func223
theorem fn224 : TE.funcs 224 = some Tryz.f224 := Tryz.func224
theorem fn225 : TE.funcs 225 = some Tryz.f225 := Tryz.func225
theorem fn226 : TE.funcs 226 = some Tryz.f226 := Tryz.func226
theorem fn227 : TE.funcs 227 = some Tryz.f227 := Tryz.func227
theorem fn228 : TE.funcs 228 = some Tryz.f228 := Tryz.func228
theorem fn229 : TE.funcs 229 = some Tryz.f229 := Tryz.func229
theorem fn230 : TE.funcs 230 = some Tryz.f230 := Tryz.func230
theorem fn231 : TE.funcs 231 = some Tryz.f231 := Tryz.func231
theorem fn232 : TE.funcs 232 = some Tryz.f232 := Tryz.func232
theorem fn233 : TE.funcs 233 = some Tryz.f233 := Tryz.func233
theorem fn234 : TE.funcs 234 = some Tryz.f234 := Tryz.func234
theorem fn235 : TE.funcs 235 = some Tryz.f235 := Tryz.func235
theorem fn236 : TE.funcs 236 = some Tryz.f236 := Tryz.func236
end Go.Ab
