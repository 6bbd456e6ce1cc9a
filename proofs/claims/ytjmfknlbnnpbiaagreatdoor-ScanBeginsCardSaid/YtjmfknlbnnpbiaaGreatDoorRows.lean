/-
  NARROWER THAN 'FOR EVERY INPUT', by the rows' own cells (each row's printed sentence says how): ScanAt: laid · ScanMoves: laid · ScanNone: laid · ScanAll: laid · ScanBegins: laid · ScanRaw: laid.
  DERIVED. THE GIVEN ROWS OF THIS SEAT. 6 by the template 'for every input the law returns true; each argument reads behind the call as it read before'; 0 by the template 'total and deterministic' (their statements: YtjmfknlbnnpbiaaGreatDoorTotals.lean).
  GIVEN WITH THE SEED: the statements are not yours to turn. If you find one false, say at which input.
  Laid BY PROGRAM, IN A SANDBOX (cutbox-rows.mjs): the forced cells as the released guide's own fill.sh prints them over the translation f5f747ef5b7b09e5… (all of the seat's roots in one cut). By AI agents, Wed Nov 11 2026. No macro, syntax, notation, axiom, sorry.
-/
import Derived.Test.YtjmfknlbnnpbiaaGreatDoorChecked
import GoSem.Claim
import GoSem.ClaimJoined
import GoSem.ClaimMapViews
import Derived.JoinedTies
import Derived.KernelRfl
namespace Go.Proofs.YtjmfknlbnnpbiaaGreatDoor
/- THE CELL 'sum', in the pinned program and in every row, IS THE sha256 OF THE DUMP (.gsa) THAT YtjmfknlbnnpbiaaGreatDoorProg.lean LOADS. Nothing in Lean hashes anything: it is a label: what it is worth is what the hold of that sum in a sandbox is worth. -/
noncomputable def Tryz.pinned : Pinned := { name := "ytjmfknlbnnpbiaagreatdoor", sum := "f5f747ef5b7b09e5687bae476677f43fd2031121d76f6e4f6d087803288e1078", checked := Tryz.checked }
namespace Rows
def none {H : Type} : Left H := { results := [], args := [] }

/- WHAT THE LISTED PACKAGE-LEVEL VARIABLES READ AS WHEN THE CALL BEGINS. Each datum BY PROGRAM (the guide's laid-datum.mjs) off the statement by which the dump's own 'gosem.cut.vars' lays the variable. In a bare row this is a premise. The card (YtjmfknlbnnpbiaaGreatDoorCards.lean) ties it to the program's text. -/
def laid_jetsam_coded_limits {H : Type} : DataW H := .agg [.lit (.int .i64 0), .lit (.int .i64 128), .lit (.int .i64 2048), .lit (.int .i64 65536), .lit (.int .i64 2097152), .lit (.int .i64 67108864), .lit (.int .i64 2147483648), .lit (.int .i64 68719476736)]
def laid_jetsam_digest_sines {H : Type} : DataW H := .agg [.lit (.int .u32 3614090360), .lit (.int .u32 3905402710), .lit (.int .u32 606105819), .lit (.int .u32 3250441966), .lit (.int .u32 4118548399), .lit (.int .u32 1200080426), .lit (.int .u32 2821735955), .lit (.int .u32 4249261313), .lit (.int .u32 1770035416), .lit (.int .u32 2336552879), .lit (.int .u32 4294925233), .lit (.int .u32 2304563134), .lit (.int .u32 1804603682), .lit (.int .u32 4254626195), .lit (.int .u32 2792965006), .lit (.int .u32 1236535329), .lit (.int .u32 4129170786), .lit (.int .u32 3225465664), .lit (.int .u32 643717713), .lit (.int .u32 3921069994), .lit (.int .u32 3593408605), .lit (.int .u32 38016083), .lit (.int .u32 3634488961), .lit (.int .u32 3889429448), .lit (.int .u32 568446438), .lit (.int .u32 3275163606), .lit (.int .u32 4107603335), .lit (.int .u32 1163531501), .lit (.int .u32 2850285829), .lit (.int .u32 4243563512), .lit (.int .u32 1735328473), .lit (.int .u32 2368359562), .lit (.int .u32 4294588738), .lit (.int .u32 2272392833), .lit (.int .u32 1839030562), .lit (.int .u32 4259657740), .lit (.int .u32 2763975236), .lit (.int .u32 1272893353), .lit (.int .u32 4139469664), .lit (.int .u32 3200236656), .lit (.int .u32 681279174), .lit (.int .u32 3936430074), .lit (.int .u32 3572445317), .lit (.int .u32 76029189), .lit (.int .u32 3654602809), .lit (.int .u32 3873151461), .lit (.int .u32 530742520), .lit (.int .u32 3299628645), .lit (.int .u32 4096336452), .lit (.int .u32 1126891415), .lit (.int .u32 2878612391), .lit (.int .u32 4237533241), .lit (.int .u32 1700485571), .lit (.int .u32 2399980690), .lit (.int .u32 4293915773), .lit (.int .u32 2240044497), .lit (.int .u32 1873313359), .lit (.int .u32 4264355552), .lit (.int .u32 2734768916), .lit (.int .u32 1309151649), .lit (.int .u32 4149444226), .lit (.int .u32 3174756917), .lit (.int .u32 718787259), .lit (.int .u32 3951481745)]
def laid_jetsam_digest_turns {H : Type} : DataW H := .agg [.agg [.lit (.int .i64 7), .lit (.int .i64 12), .lit (.int .i64 17), .lit (.int .i64 22)], .agg [.lit (.int .i64 5), .lit (.int .i64 9), .lit (.int .i64 14), .lit (.int .i64 20)], .agg [.lit (.int .i64 4), .lit (.int .i64 11), .lit (.int .i64 16), .lit (.int .i64 23)], .agg [.lit (.int .i64 6), .lit (.int .i64 10), .lit (.int .i64 15), .lit (.int .i64 21)]]
def laid_jetsam_predict_fixed {H : Type} : DataW H := .agg [.agg [.lit (.int .i64 0), .lit (.int .i64 0), .lit (.int .i64 0), .lit (.int .i64 0)], .agg [.lit (.int .i64 1), .lit (.int .i64 0), .lit (.int .i64 0), .lit (.int .i64 0)], .agg [.lit (.int .i64 2), .lit (.int .i64 (-1)), .lit (.int .i64 0), .lit (.int .i64 0)], .agg [.lit (.int .i64 3), .lit (.int .i64 (-3)), .lit (.int .i64 1), .lit (.int .i64 0)], .agg [.lit (.int .i64 4), .lit (.int .i64 (-6)), .lit (.int .i64 4), .lit (.int .i64 (-1))]]
def laid_jetsam_header_blocks {H : Type} : DataW H := .agg [.lit (.int .i64 (-1)), .lit (.int .i64 192), .lit (.int .i64 576), .lit (.int .i64 1152), .lit (.int .i64 2304), .lit (.int .i64 4608), .lit (.int .i64 (-2)), .lit (.int .i64 (-2)), .lit (.int .i64 256), .lit (.int .i64 512), .lit (.int .i64 1024), .lit (.int .i64 2048), .lit (.int .i64 4096), .lit (.int .i64 8192), .lit (.int .i64 16384), .lit (.int .i64 32768)]
def laid_jetsam_header_rates {H : Type} : DataW H := .agg [.lit (.int .i64 0), .lit (.int .i64 88200), .lit (.int .i64 176400), .lit (.int .i64 192000), .lit (.int .i64 8000), .lit (.int .i64 16000), .lit (.int .i64 22050), .lit (.int .i64 24000), .lit (.int .i64 32000), .lit (.int .i64 44100), .lit (.int .i64 48000), .lit (.int .i64 96000), .lit (.int .i64 (-2)), .lit (.int .i64 (-2)), .lit (.int .i64 (-2)), .lit (.int .i64 (-1))]
def laid_jetsam_header_depths {H : Type} : DataW H := .agg [.lit (.int .i64 0), .lit (.int .i64 8), .lit (.int .i64 12), .lit (.int .i64 (-1)), .lit (.int .i64 16), .lit (.int .i64 20), .lit (.int .i64 24), .lit (.int .i64 32)]

/-- 'jetsamlaw16.ScanAt': WHATEVER THE INPUT: true; the input reads as it did. -/
def scanAtSpec : ChangeSpec := { name := "scanAt", fn := fun _ => fun
  | [d1, d2, d3] => { results := [.lit (.bool true)], args := [d1, d2, d3] }
  | _ => none }
def scanAtRow : OpenClaim := { program := "ytjmfknlbnnpbiaagreatdoor", sum := "f5f747ef5b7b09e5687bae476677f43fd2031121d76f6e4f6d087803288e1078", func := "jetsam/jetsamlaw16.ScanAt", spec := "scanAt", unfollowed := true, recurses := true, named := ["jetsam/header.blocks", "jetsam/header.rates", "jetsam/header.depths", "jetsam/predict.fixed", "jetsam/coded.limits", "jetsam/digest.sines", "jetsam/digest.turns"], apart := false, laid := [("jetsam/coded.limits", laid_jetsam_coded_limits), ("jetsam/digest.sines", laid_jetsam_digest_sines), ("jetsam/digest.turns", laid_jetsam_digest_turns), ("jetsam/predict.fixed", laid_jetsam_predict_fixed), ("jetsam/header.blocks", laid_jetsam_header_blocks), ("jetsam/header.rates", laid_jetsam_header_rates), ("jetsam/header.depths", laid_jetsam_header_depths)] }
def ScanAtSaid : Prop := scanAtRow.holds Tryz.pinned (OpenSpec.ofChange scanAtSpec)

/-- ITS FALSE NEIGHBOUR: 'it returns false'. Refute it at one input. -/
def scanAtWrong : ChangeSpec := { name := "scanAt", fn := fun _ => fun
  | [d1, d2, d3] => { results := [.lit (.bool false)], args := [d1, d2, d3] }
  | _ => none }
def ScanAtWrongFalsely : Prop := scanAtRow.holds Tryz.pinned (OpenSpec.ofChange scanAtWrong)

/-- 'jetsamlaw16.ScanMoves': WHATEVER THE INPUT: true; the input reads as it did. -/
def scanMovesSpec : ChangeSpec := { name := "scanMoves", fn := fun _ => fun
  | [d1, d2, d3] => { results := [.lit (.bool true)], args := [d1, d2, d3] }
  | _ => none }
def scanMovesRow : OpenClaim := { program := "ytjmfknlbnnpbiaagreatdoor", sum := "f5f747ef5b7b09e5687bae476677f43fd2031121d76f6e4f6d087803288e1078", func := "jetsam/jetsamlaw16.ScanMoves", spec := "scanMoves", unfollowed := true, recurses := true, named := ["jetsam/header.blocks", "jetsam/header.rates", "jetsam/header.depths", "jetsam/predict.fixed", "jetsam/coded.limits", "jetsam/digest.sines", "jetsam/digest.turns"], apart := false, laid := [("jetsam/coded.limits", laid_jetsam_coded_limits), ("jetsam/digest.sines", laid_jetsam_digest_sines), ("jetsam/digest.turns", laid_jetsam_digest_turns), ("jetsam/predict.fixed", laid_jetsam_predict_fixed), ("jetsam/header.blocks", laid_jetsam_header_blocks), ("jetsam/header.rates", laid_jetsam_header_rates), ("jetsam/header.depths", laid_jetsam_header_depths)] }
def ScanMovesSaid : Prop := scanMovesRow.holds Tryz.pinned (OpenSpec.ofChange scanMovesSpec)

/-- ITS FALSE NEIGHBOUR: 'it returns false'. Refute it at one input. -/
def scanMovesWrong : ChangeSpec := { name := "scanMoves", fn := fun _ => fun
  | [d1, d2, d3] => { results := [.lit (.bool false)], args := [d1, d2, d3] }
  | _ => none }
def ScanMovesWrongFalsely : Prop := scanMovesRow.holds Tryz.pinned (OpenSpec.ofChange scanMovesWrong)

/-- 'jetsamlaw16.ScanNone': WHATEVER THE INPUT: true; the input reads as it did. -/
def scanNoneSpec : ChangeSpec := { name := "scanNone", fn := fun _ => fun
  | [d1, d2, d3] => { results := [.lit (.bool true)], args := [d1, d2, d3] }
  | _ => none }
def scanNoneRow : OpenClaim := { program := "ytjmfknlbnnpbiaagreatdoor", sum := "f5f747ef5b7b09e5687bae476677f43fd2031121d76f6e4f6d087803288e1078", func := "jetsam/jetsamlaw16.ScanNone", spec := "scanNone", unfollowed := true, recurses := true, named := ["jetsam/header.blocks", "jetsam/header.rates", "jetsam/header.depths", "jetsam/predict.fixed", "jetsam/coded.limits", "jetsam/digest.sines", "jetsam/digest.turns"], apart := false, laid := [("jetsam/coded.limits", laid_jetsam_coded_limits), ("jetsam/digest.sines", laid_jetsam_digest_sines), ("jetsam/digest.turns", laid_jetsam_digest_turns), ("jetsam/predict.fixed", laid_jetsam_predict_fixed), ("jetsam/header.blocks", laid_jetsam_header_blocks), ("jetsam/header.rates", laid_jetsam_header_rates), ("jetsam/header.depths", laid_jetsam_header_depths)] }
def ScanNoneSaid : Prop := scanNoneRow.holds Tryz.pinned (OpenSpec.ofChange scanNoneSpec)

/-- ITS FALSE NEIGHBOUR: 'it returns false'. Refute it at one input. -/
def scanNoneWrong : ChangeSpec := { name := "scanNone", fn := fun _ => fun
  | [d1, d2, d3] => { results := [.lit (.bool false)], args := [d1, d2, d3] }
  | _ => none }
def ScanNoneWrongFalsely : Prop := scanNoneRow.holds Tryz.pinned (OpenSpec.ofChange scanNoneWrong)

/-- 'jetsamlaw16.ScanAll': WHATEVER THE INPUT: true; the input reads as it did. -/
def scanAllSpec : ChangeSpec := { name := "scanAll", fn := fun _ => fun
  | [d1, d2] => { results := [.lit (.bool true)], args := [d1, d2] }
  | _ => none }
def scanAllRow : OpenClaim := { program := "ytjmfknlbnnpbiaagreatdoor", sum := "f5f747ef5b7b09e5687bae476677f43fd2031121d76f6e4f6d087803288e1078", func := "jetsam/jetsamlaw16.ScanAll", spec := "scanAll", unfollowed := true, recurses := true, named := ["jetsam/header.blocks", "jetsam/header.rates", "jetsam/header.depths", "jetsam/predict.fixed", "jetsam/coded.limits", "jetsam/digest.sines", "jetsam/digest.turns"], apart := false, laid := [("jetsam/coded.limits", laid_jetsam_coded_limits), ("jetsam/digest.sines", laid_jetsam_digest_sines), ("jetsam/digest.turns", laid_jetsam_digest_turns), ("jetsam/predict.fixed", laid_jetsam_predict_fixed), ("jetsam/header.blocks", laid_jetsam_header_blocks), ("jetsam/header.rates", laid_jetsam_header_rates), ("jetsam/header.depths", laid_jetsam_header_depths)] }
def ScanAllSaid : Prop := scanAllRow.holds Tryz.pinned (OpenSpec.ofChange scanAllSpec)

/-- ITS FALSE NEIGHBOUR: 'it returns false'. Refute it at one input. -/
def scanAllWrong : ChangeSpec := { name := "scanAll", fn := fun _ => fun
  | [d1, d2] => { results := [.lit (.bool false)], args := [d1, d2] }
  | _ => none }
def ScanAllWrongFalsely : Prop := scanAllRow.holds Tryz.pinned (OpenSpec.ofChange scanAllWrong)

/-- 'jetsamlaw16.ScanBegins': WHATEVER THE INPUT: true; the input reads as it did. -/
def scanBeginsSpec : ChangeSpec := { name := "scanBegins", fn := fun _ => fun
  | [d] => { results := [.lit (.bool true)], args := [d] }
  | _ => none }
def scanBeginsRow : OpenClaim := { program := "ytjmfknlbnnpbiaagreatdoor", sum := "f5f747ef5b7b09e5687bae476677f43fd2031121d76f6e4f6d087803288e1078", func := "jetsam/jetsamlaw16.ScanBegins", spec := "scanBegins", unfollowed := true, recurses := true, named := ["jetsam/header.blocks", "jetsam/header.rates", "jetsam/header.depths", "jetsam/predict.fixed", "jetsam/coded.limits", "jetsam/digest.sines", "jetsam/digest.turns"], apart := false, laid := [("jetsam/coded.limits", laid_jetsam_coded_limits), ("jetsam/digest.sines", laid_jetsam_digest_sines), ("jetsam/digest.turns", laid_jetsam_digest_turns), ("jetsam/predict.fixed", laid_jetsam_predict_fixed), ("jetsam/header.blocks", laid_jetsam_header_blocks), ("jetsam/header.rates", laid_jetsam_header_rates), ("jetsam/header.depths", laid_jetsam_header_depths)] }
def ScanBeginsSaid : Prop := scanBeginsRow.holds Tryz.pinned (OpenSpec.ofChange scanBeginsSpec)

/-- ITS FALSE NEIGHBOUR: 'it returns false'. Refute it at one input. -/
def scanBeginsWrong : ChangeSpec := { name := "scanBegins", fn := fun _ => fun
  | [d] => { results := [.lit (.bool false)], args := [d] }
  | _ => none }
def ScanBeginsWrongFalsely : Prop := scanBeginsRow.holds Tryz.pinned (OpenSpec.ofChange scanBeginsWrong)

/-- 'jetsamlaw16.ScanRaw': WHATEVER THE INPUT: true; the input reads as it did. -/
def scanRawSpec : ChangeSpec := { name := "scanRaw", fn := fun _ => fun
  | [d1, d2] => { results := [.lit (.bool true)], args := [d1, d2] }
  | _ => none }
def scanRawRow : OpenClaim := { program := "ytjmfknlbnnpbiaagreatdoor", sum := "f5f747ef5b7b09e5687bae476677f43fd2031121d76f6e4f6d087803288e1078", func := "jetsam/jetsamlaw16.ScanRaw", spec := "scanRaw", unfollowed := true, recurses := true, named := ["jetsam/header.blocks", "jetsam/header.rates", "jetsam/header.depths", "jetsam/predict.fixed", "jetsam/coded.limits", "jetsam/digest.sines", "jetsam/digest.turns"], apart := false, laid := [("jetsam/coded.limits", laid_jetsam_coded_limits), ("jetsam/digest.sines", laid_jetsam_digest_sines), ("jetsam/digest.turns", laid_jetsam_digest_turns), ("jetsam/predict.fixed", laid_jetsam_predict_fixed), ("jetsam/header.blocks", laid_jetsam_header_blocks), ("jetsam/header.rates", laid_jetsam_header_rates), ("jetsam/header.depths", laid_jetsam_header_depths)] }
def ScanRawSaid : Prop := scanRawRow.holds Tryz.pinned (OpenSpec.ofChange scanRawSpec)

/-- ITS FALSE NEIGHBOUR: 'it returns false'. Refute it at one input. -/
def scanRawWrong : ChangeSpec := { name := "scanRaw", fn := fun _ => fun
  | [d1, d2] => { results := [.lit (.bool false)], args := [d1, d2] }
  | _ => none }
def ScanRawWrongFalsely : Prop := scanRawRow.holds Tryz.pinned (OpenSpec.ofChange scanRawWrong)

/- THE SECOND FORM. 'bulk': how many values and letters a reading holds, each counted each time it is reached (what is shared counts as often as it is met; a slice's spare places count too). A statement '..UptoSaid' is the law's where the arguments, and the package variables that the reading takes, are together of bulk at most 1048576: NARROWER than '..Said'. Prove '..Said' where nothing that the law and all that it calls make is longer than what came in: it says more and counts as full. Else prove '..UptoSaid'. A law counts once. -/
mutual
def uptoBulk {H : Type} : DataW H → Nat
  | .lit (.string bytes) => bytes.length + 1
  | .lit _ => 1
  | .nil => 1
  | .ptr d => uptoBulk d + 1
  | .slice elems spare => uptoBulkAll elems + uptoBulkAll spare + 1
  | .agg parts => uptoBulkAll parts + 1
  | .iface _ d => uptoBulk d + 1
  | .map entries => uptoBulkEntries entries + 1
  | .held _ => 1
def uptoBulkAll {H : Type} : List (DataW H) → Nat
  | [] => 0
  | d :: r => uptoBulk d + uptoBulkAll r
def uptoBulkEntries {H : Type} : List (Lit × DataW H) → Nat
  | [] => 0
  | x :: r => uptoBulkEntry x + uptoBulkEntries r
def uptoBulkEntry {H : Type} : Lit × DataW H → Nat
  | (.string bytes, d) => bytes.length + uptoBulk d + 1
  | (_, d) => uptoBulk d + 1
 end
def uptoSmall : (H : Type) → List (DataW H) → Bool := fun _ ds => decide (uptoBulkAll ds ≤ 1048576)
def OpenSpec.upto (s : _root_.Go.ChangeSpec) : _root_.Go.OpenSpec := { _root_.Go.OpenSpec.ofChange s with cond := some uptoSmall }

/-- 'jetsamlaw16.ScanAt', WHERE WHAT IT READS IS OF BULK AT MOST 1048576: true; the input reads as it did. -/
def scanAtUptoRow : OpenClaim := { program := "ytjmfknlbnnpbiaagreatdoor", sum := "f5f747ef5b7b09e5687bae476677f43fd2031121d76f6e4f6d087803288e1078", func := "jetsam/jetsamlaw16.ScanAt", spec := "scanAt", unfollowed := true, recurses := true, named := ["jetsam/header.blocks", "jetsam/header.rates", "jetsam/header.depths", "jetsam/predict.fixed", "jetsam/coded.limits", "jetsam/digest.sines", "jetsam/digest.turns"], apart := false, laid := [("jetsam/coded.limits", laid_jetsam_coded_limits), ("jetsam/digest.sines", laid_jetsam_digest_sines), ("jetsam/digest.turns", laid_jetsam_digest_turns), ("jetsam/predict.fixed", laid_jetsam_predict_fixed), ("jetsam/header.blocks", laid_jetsam_header_blocks), ("jetsam/header.rates", laid_jetsam_header_rates), ("jetsam/header.depths", laid_jetsam_header_depths)], narrowed := true }
def ScanAtUptoSaid : Prop := scanAtUptoRow.holds Tryz.pinned (OpenSpec.upto scanAtSpec)

/-- 'jetsamlaw16.ScanMoves', WHERE WHAT IT READS IS OF BULK AT MOST 1048576: true; the input reads as it did. -/
def scanMovesUptoRow : OpenClaim := { program := "ytjmfknlbnnpbiaagreatdoor", sum := "f5f747ef5b7b09e5687bae476677f43fd2031121d76f6e4f6d087803288e1078", func := "jetsam/jetsamlaw16.ScanMoves", spec := "scanMoves", unfollowed := true, recurses := true, named := ["jetsam/header.blocks", "jetsam/header.rates", "jetsam/header.depths", "jetsam/predict.fixed", "jetsam/coded.limits", "jetsam/digest.sines", "jetsam/digest.turns"], apart := false, laid := [("jetsam/coded.limits", laid_jetsam_coded_limits), ("jetsam/digest.sines", laid_jetsam_digest_sines), ("jetsam/digest.turns", laid_jetsam_digest_turns), ("jetsam/predict.fixed", laid_jetsam_predict_fixed), ("jetsam/header.blocks", laid_jetsam_header_blocks), ("jetsam/header.rates", laid_jetsam_header_rates), ("jetsam/header.depths", laid_jetsam_header_depths)], narrowed := true }
def ScanMovesUptoSaid : Prop := scanMovesUptoRow.holds Tryz.pinned (OpenSpec.upto scanMovesSpec)

/-- 'jetsamlaw16.ScanNone', WHERE WHAT IT READS IS OF BULK AT MOST 1048576: true; the input reads as it did. -/
def scanNoneUptoRow : OpenClaim := { program := "ytjmfknlbnnpbiaagreatdoor", sum := "f5f747ef5b7b09e5687bae476677f43fd2031121d76f6e4f6d087803288e1078", func := "jetsam/jetsamlaw16.ScanNone", spec := "scanNone", unfollowed := true, recurses := true, named := ["jetsam/header.blocks", "jetsam/header.rates", "jetsam/header.depths", "jetsam/predict.fixed", "jetsam/coded.limits", "jetsam/digest.sines", "jetsam/digest.turns"], apart := false, laid := [("jetsam/coded.limits", laid_jetsam_coded_limits), ("jetsam/digest.sines", laid_jetsam_digest_sines), ("jetsam/digest.turns", laid_jetsam_digest_turns), ("jetsam/predict.fixed", laid_jetsam_predict_fixed), ("jetsam/header.blocks", laid_jetsam_header_blocks), ("jetsam/header.rates", laid_jetsam_header_rates), ("jetsam/header.depths", laid_jetsam_header_depths)], narrowed := true }
def ScanNoneUptoSaid : Prop := scanNoneUptoRow.holds Tryz.pinned (OpenSpec.upto scanNoneSpec)

/-- 'jetsamlaw16.ScanAll', WHERE WHAT IT READS IS OF BULK AT MOST 1048576: true; the input reads as it did. -/
def scanAllUptoRow : OpenClaim := { program := "ytjmfknlbnnpbiaagreatdoor", sum := "f5f747ef5b7b09e5687bae476677f43fd2031121d76f6e4f6d087803288e1078", func := "jetsam/jetsamlaw16.ScanAll", spec := "scanAll", unfollowed := true, recurses := true, named := ["jetsam/header.blocks", "jetsam/header.rates", "jetsam/header.depths", "jetsam/predict.fixed", "jetsam/coded.limits", "jetsam/digest.sines", "jetsam/digest.turns"], apart := false, laid := [("jetsam/coded.limits", laid_jetsam_coded_limits), ("jetsam/digest.sines", laid_jetsam_digest_sines), ("jetsam/digest.turns", laid_jetsam_digest_turns), ("jetsam/predict.fixed", laid_jetsam_predict_fixed), ("jetsam/header.blocks", laid_jetsam_header_blocks), ("jetsam/header.rates", laid_jetsam_header_rates), ("jetsam/header.depths", laid_jetsam_header_depths)], narrowed := true }
def ScanAllUptoSaid : Prop := scanAllUptoRow.holds Tryz.pinned (OpenSpec.upto scanAllSpec)

/-- 'jetsamlaw16.ScanBegins', WHERE WHAT IT READS IS OF BULK AT MOST 1048576: true; the input reads as it did. -/
def scanBeginsUptoRow : OpenClaim := { program := "ytjmfknlbnnpbiaagreatdoor", sum := "f5f747ef5b7b09e5687bae476677f43fd2031121d76f6e4f6d087803288e1078", func := "jetsam/jetsamlaw16.ScanBegins", spec := "scanBegins", unfollowed := true, recurses := true, named := ["jetsam/header.blocks", "jetsam/header.rates", "jetsam/header.depths", "jetsam/predict.fixed", "jetsam/coded.limits", "jetsam/digest.sines", "jetsam/digest.turns"], apart := false, laid := [("jetsam/coded.limits", laid_jetsam_coded_limits), ("jetsam/digest.sines", laid_jetsam_digest_sines), ("jetsam/digest.turns", laid_jetsam_digest_turns), ("jetsam/predict.fixed", laid_jetsam_predict_fixed), ("jetsam/header.blocks", laid_jetsam_header_blocks), ("jetsam/header.rates", laid_jetsam_header_rates), ("jetsam/header.depths", laid_jetsam_header_depths)], narrowed := true }
def ScanBeginsUptoSaid : Prop := scanBeginsUptoRow.holds Tryz.pinned (OpenSpec.upto scanBeginsSpec)

/-- 'jetsamlaw16.ScanRaw', WHERE WHAT IT READS IS OF BULK AT MOST 1048576: true; the input reads as it did. -/
def scanRawUptoRow : OpenClaim := { program := "ytjmfknlbnnpbiaagreatdoor", sum := "f5f747ef5b7b09e5687bae476677f43fd2031121d76f6e4f6d087803288e1078", func := "jetsam/jetsamlaw16.ScanRaw", spec := "scanRaw", unfollowed := true, recurses := true, named := ["jetsam/header.blocks", "jetsam/header.rates", "jetsam/header.depths", "jetsam/predict.fixed", "jetsam/coded.limits", "jetsam/digest.sines", "jetsam/digest.turns"], apart := false, laid := [("jetsam/coded.limits", laid_jetsam_coded_limits), ("jetsam/digest.sines", laid_jetsam_digest_sines), ("jetsam/digest.turns", laid_jetsam_digest_turns), ("jetsam/predict.fixed", laid_jetsam_predict_fixed), ("jetsam/header.blocks", laid_jetsam_header_blocks), ("jetsam/header.rates", laid_jetsam_header_rates), ("jetsam/header.depths", laid_jetsam_header_depths)], narrowed := true }
def ScanRawUptoSaid : Prop := scanRawUptoRow.holds Tryz.pinned (OpenSpec.upto scanRawSpec)

end Rows
end Go.Proofs.YtjmfknlbnnpbiaaGreatDoor
