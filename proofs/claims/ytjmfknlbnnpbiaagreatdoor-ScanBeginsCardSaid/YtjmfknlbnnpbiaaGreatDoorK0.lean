/- The chapter's example, in two parts. -/
import Derived.Test.YtjmfknlbnnpbiaaGreatDoorOpT

set_option linter.all false

/- The chapter's example, in two parts: definitions. -/
namespace Go.Ab
open Go.Proofs
/-- No call is answered at once. -/
@[reducible] noncomputable def noOrc : HasOrc Tryz.prog := ⟨fun _ _ _ => none⟩
noncomputable def TE0 : Env := @envOf Tryz.prog noOrc
/-- The package-level variables. -/
noncomputable def H0 : Hp := (((((((T.leaf : Hp).put 0 (.cells (gcells 0) 143 .ro)).put 1 (.cells (gcells 1) 143 .ro)).put 2 (.cells (gcells 2) 144 .ro)).put 3 (.cells (gcells 3) 144 .ro)).put 4 (.cells (gcells 4) 289 .ro)).put 5 (.cells (gcells 5) 294 .ro)).put 6 (.cells (gcells 6) 297 .ro)
def seqL : Code → Code
  | .seq a _ => a
  | c => c
def seqR : Code → Code
  | .seq _ b => b
  | c => c
noncomputable def body9 : Code := (Tryz.f9.body).getD .skip
noncomputable def a0 : Code := seqL body9
noncomputable def a1 : Code := seqL (seqR body9)
noncomputable def a2 : Code := seqR (seqR body9)
def exBytes : List Value := [(.int .u8 102), (.int .u8 76), (.int .u8 97), (.int .u8 67), (.int .u8 128), (.int .u8 0), (.int .u8 0), (.int .u8 34), (.int .u8 0), (.int .u8 16), (.int .u8 0), (.int .u8 16), (.int .u8 0), (.int .u8 0), (.int .u8 11), (.int .u8 0), (.int .u8 0), (.int .u8 11), (.int .u8 1), (.int .u8 244), (.int .u8 0), (.int .u8 112), (.int .u8 0), (.int .u8 0), (.int .u8 0), (.int .u8 32), (.int .u8 112), (.int .u8 188), (.int .u8 143), (.int .u8 75), (.int .u8 114), (.int .u8 168), (.int .u8 105), (.int .u8 33), (.int .u8 70), (.int .u8 139), (.int .u8 248), (.int .u8 232), (.int .u8 68), (.int .u8 29), (.int .u8 206), (.int .u8 81), (.int .u8 255), (.int .u8 248), (.int .u8 100), (.int .u8 2), (.int .u8 0), (.int .u8 15), (.int .u8 73), (.int .u8 0), (.int .u8 0), (.int .u8 251), (.int .u8 234), (.int .u8 255), (.int .u8 248), (.int .u8 100), (.int .u8 2), (.int .u8 1), (.int .u8 15), (.int .u8 92), (.int .u8 0), (.int .u8 0), (.int .u8 250), (.int .u8 150)]
/-- The frame between. -/
def frL : List (Option Value) := [(some (.bool false)), (some (.slice (some ⟨1873, 0, none⟩) 64 64)), (some (.int .i64 0)), none, (some (.tuple #[(.slice (some ⟨1873, 0, none⟩) 64 64), (.int .i64 0)])), (some (.agg #[(.int .i64 8000), (.int .i64 1), (.int .i64 8)])), (some (.slice (some ⟨1000, 0, none⟩) 2 2)), (some (.slice (some ⟨1001, 0, none⟩) 32 32)), (some (.slice (some ⟨1002, 0, none⟩) 1 1)), (some (.tuple #[(.slice (some ⟨1873, 0, none⟩) 64 64), (.int .i64 0)])), (some (.slice (some ⟨1873, 0, none⟩) 64 64)), (some (.int .i64 0)), none, none, none, none, none, none, none, none, none, none, none, none, none, none, none, none, none, none, none]
noncomputable def frOfL : List (Option Value) → Nat → Fr → Fr
  | [], _, fr => fr
  | none :: r, i, fr => frOfL r (i + 1) fr
  | some v :: r, i, fr => frOfL r (i + 1) (fr.put i v)
noncomputable def fr2 : Fr := frOfL frL 0 .leaf
noncomputable def H2 : Hp := H0.put 1873 (.cells exBytes 5 .grown)
def teq : Value → Value → Bool
  | .tuple a, .tuple b => veqs a.toList b.toList
  | a, b => veq a b
noncomputable def frEq (fr : Fr) : List (Option Value) → Nat → Bool
  | [], _ => true
  | o :: r, i => (match fr.get i, o with
    | some a, some b => teq a b
    | none, none => true
    | _, _ => false) && frEq fr r (i + 1)
def isGrown : Kind → Bool
  | .grown => true
  | _ => false
noncomputable def okA (fr : Fr) (H : Hp) (n : Nat) : Bool := n.beq 1874 && (frEq fr frL 0 && (gchk H && (match H.get 1873 with
  | some (.cells c e k) => veqs c exBytes && (e.beq 5 && isGrown k)
  | _ => false)))
noncomputable def chkA : Bool :=
  match evc TE0 5000 31 a0 .leaf H0 1000 with
  | some (.normal, fr, H, n) => (match evc TE0 5000 31 a1 fr H n with
    | some (.normal, fr, H, n) => okA fr H n
    | _ => false)
  | _ => false
noncomputable def chkB : Bool :=
  match evc TE0 5000 31 a2 fr2 H2 1874 with
  | some (.ret, fr, _, _) => (match fr.get 0 with
    | some (.bool b) => b
    | _ => false)
  | _ => false
end Go.Ab
