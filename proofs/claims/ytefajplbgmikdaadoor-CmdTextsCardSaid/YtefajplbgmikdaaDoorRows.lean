/-
  NARROWER THAN 'FOR EVERY INPUT', by the rows' own cells (each row's printed sentence says how): PathTexts: laid · PathBack: laid · PathSmall: laid · PathMirrors: laid · PathAgain: laid · CmdTexts: laid · CmdBack: laid · CmdFirst: laid · CmdLines: laid.
  DERIVED. THE GIVEN ROWS OF THIS SEAT. 9 by the template 'for every input the law returns true; each argument reads behind the call as it read before'; 0 by the template 'total and deterministic' (their statements: YtefajplbgmikdaaDoorTotals.lean).
  GIVEN WITH THE SEED: the statements are not yours to turn. If you find one false, say at which input.
  Laid BY PROGRAM, IN A SANDBOX (cutbox-rows.mjs): the forced cells as the released guide's own fill.sh prints them over the translation e3d70821a304fea5… (all of the seat's roots in one cut). By AI agents, Wed Nov 11 2026. No macro, syntax, notation, axiom, sorry.
-/
import Derived.Test.YtefajplbgmikdaaDoorChecked
import GoSem.Claim
import GoSem.ClaimJoined
import GoSem.ClaimMapViews
import Derived.JoinedTies
import Derived.KernelRfl
namespace Go.Proofs.YtefajplbgmikdaaDoor
/- THE CELL 'sum', in the pinned program and in every row, IS THE sha256 OF THE DUMP (.gsa) THAT YtefajplbgmikdaaDoorProg.lean LOADS. Nothing in Lean hashes anything: it is a label: what it is worth is what the hold of that sum in a sandbox is worth. -/
noncomputable def Tryd.pinned : Pinned := { name := "ytefajplbgmikdaadoor", sum := "e3d70821a304fea57eca9b3bb400cbab1876733589b844602a9ace7c11efbd45", checked := Tryd.checked }
namespace Rows
def none {H : Type} : Left H := { results := [], args := [] }

/- WHAT THE LISTED PACKAGE-LEVEL VARIABLES READ AS WHEN THE CALL BEGINS. Each datum BY PROGRAM (the guide's laid-datum.mjs) off the statement by which the dump's own 'gosem.cut.vars' lays the variable. In a bare row this is a premise. The card (YtefajplbgmikdaaDoorCards.lean) ties it to the program's text. -/
def laid_math_bits_deBruijn32tab {H : Type} : DataW H := .agg [.lit (.int .u8 0), .lit (.int .u8 1), .lit (.int .u8 28), .lit (.int .u8 2), .lit (.int .u8 29), .lit (.int .u8 14), .lit (.int .u8 24), .lit (.int .u8 3), .lit (.int .u8 30), .lit (.int .u8 22), .lit (.int .u8 20), .lit (.int .u8 15), .lit (.int .u8 25), .lit (.int .u8 17), .lit (.int .u8 4), .lit (.int .u8 8), .lit (.int .u8 31), .lit (.int .u8 27), .lit (.int .u8 13), .lit (.int .u8 23), .lit (.int .u8 21), .lit (.int .u8 19), .lit (.int .u8 16), .lit (.int .u8 7), .lit (.int .u8 26), .lit (.int .u8 12), .lit (.int .u8 18), .lit (.int .u8 6), .lit (.int .u8 11), .lit (.int .u8 5), .lit (.int .u8 10), .lit (.int .u8 9)]
def laid_math_bits_deBruijn64tab {H : Type} : DataW H := .agg [.lit (.int .u8 0), .lit (.int .u8 1), .lit (.int .u8 56), .lit (.int .u8 2), .lit (.int .u8 57), .lit (.int .u8 49), .lit (.int .u8 28), .lit (.int .u8 3), .lit (.int .u8 61), .lit (.int .u8 58), .lit (.int .u8 42), .lit (.int .u8 50), .lit (.int .u8 38), .lit (.int .u8 29), .lit (.int .u8 17), .lit (.int .u8 4), .lit (.int .u8 62), .lit (.int .u8 47), .lit (.int .u8 59), .lit (.int .u8 36), .lit (.int .u8 45), .lit (.int .u8 43), .lit (.int .u8 51), .lit (.int .u8 22), .lit (.int .u8 53), .lit (.int .u8 39), .lit (.int .u8 33), .lit (.int .u8 30), .lit (.int .u8 24), .lit (.int .u8 18), .lit (.int .u8 12), .lit (.int .u8 5), .lit (.int .u8 63), .lit (.int .u8 55), .lit (.int .u8 48), .lit (.int .u8 27), .lit (.int .u8 60), .lit (.int .u8 41), .lit (.int .u8 37), .lit (.int .u8 16), .lit (.int .u8 46), .lit (.int .u8 35), .lit (.int .u8 44), .lit (.int .u8 21), .lit (.int .u8 52), .lit (.int .u8 32), .lit (.int .u8 23), .lit (.int .u8 11), .lit (.int .u8 54), .lit (.int .u8 26), .lit (.int .u8 40), .lit (.int .u8 15), .lit (.int .u8 34), .lit (.int .u8 20), .lit (.int .u8 31), .lit (.int .u8 10), .lit (.int .u8 25), .lit (.int .u8 14), .lit (.int .u8 19), .lit (.int .u8 9), .lit (.int .u8 13), .lit (.int .u8 8), .lit (.int .u8 7), .lit (.int .u8 6)]
def laid_internal_strconv_uint64pow10 {H : Type} : DataW H := .agg [.lit (.int .u64 1), .lit (.int .u64 10), .lit (.int .u64 100), .lit (.int .u64 1000), .lit (.int .u64 10000), .lit (.int .u64 100000), .lit (.int .u64 1000000), .lit (.int .u64 10000000), .lit (.int .u64 100000000), .lit (.int .u64 1000000000), .lit (.int .u64 10000000000), .lit (.int .u64 100000000000), .lit (.int .u64 1000000000000), .lit (.int .u64 10000000000000), .lit (.int .u64 100000000000000), .lit (.int .u64 1000000000000000), .lit (.int .u64 10000000000000000), .lit (.int .u64 100000000000000000), .lit (.int .u64 1000000000000000000), .lit (.int .u64 10000000000000000000)]
def laid_gesso_path_rules {H : Type} : DataW H := .agg [.agg [.lit (.int .u8 77), .lit (.int .i64 2), .lit (.int .i64 1)], .agg [.lit (.int .u8 76), .lit (.int .i64 2), .lit (.int .i64 2)], .agg [.lit (.int .u8 72), .lit (.int .i64 1), .lit (.int .i64 2)], .agg [.lit (.int .u8 86), .lit (.int .i64 1), .lit (.int .i64 2)], .agg [.lit (.int .u8 81), .lit (.int .i64 4), .lit (.int .i64 3)], .agg [.lit (.int .u8 67), .lit (.int .i64 6), .lit (.int .i64 4)], .agg [.lit (.int .u8 83), .lit (.int .i64 4), .lit (.int .i64 4)], .agg [.lit (.int .u8 84), .lit (.int .i64 2), .lit (.int .i64 3)], .agg [.lit (.int .u8 75), .lit (.int .i64 5), .lit (.int .i64 5)], .agg [.lit (.int .u8 90), .lit (.int .i64 0), .lit (.int .i64 6)]]

/-- 'gessolaw11.PathTexts': WHATEVER THE INPUT: true; the input reads as it did. -/
def pathTextsSpec : ChangeSpec := { name := "pathTexts", fn := fun _ => fun
  | [d] => { results := [.lit (.bool true)], args := [d] }
  | _ => none }
def pathTextsRow : OpenClaim := { program := "ytefajplbgmikdaadoor", sum := "e3d70821a304fea57eca9b3bb400cbab1876733589b844602a9ace7c11efbd45", func := "gesso/gessolaw11.PathTexts", spec := "pathTexts", inPlace := ["internal/abi.NoEscape", "internal/bytealg.MakeNoZero"], unfollowed := true, recurses := true, named := ["gesso/path.rules", "internal/strconv.uint64pow10", "math/bits.deBruijn32tab", "math/bits.deBruijn64tab"], apart := false, laid := [("math/bits.deBruijn32tab", laid_math_bits_deBruijn32tab), ("math/bits.deBruijn64tab", laid_math_bits_deBruijn64tab), ("internal/strconv.uint64pow10", laid_internal_strconv_uint64pow10), ("gesso/path.rules", laid_gesso_path_rules)] }
def PathTextsSaid : Prop := pathTextsRow.holds Tryd.pinned (OpenSpec.ofChange pathTextsSpec)

/-- ITS FALSE NEIGHBOUR: 'it returns false'. Refute it at one input. -/
def pathTextsWrong : ChangeSpec := { name := "pathTexts", fn := fun _ => fun
  | [d] => { results := [.lit (.bool false)], args := [d] }
  | _ => none }
def PathTextsWrongFalsely : Prop := pathTextsRow.holds Tryd.pinned (OpenSpec.ofChange pathTextsWrong)

/-- 'gessolaw11.PathBack': WHATEVER THE INPUT: true; the input reads as it did. -/
def pathBackSpec : ChangeSpec := { name := "pathBack", fn := fun _ => fun
  | [d1, d2] => { results := [.lit (.bool true)], args := [d1, d2] }
  | _ => none }
def pathBackRow : OpenClaim := { program := "ytefajplbgmikdaadoor", sum := "e3d70821a304fea57eca9b3bb400cbab1876733589b844602a9ace7c11efbd45", func := "gesso/gessolaw11.PathBack", spec := "pathBack", inPlace := ["internal/abi.NoEscape", "internal/bytealg.MakeNoZero"], unfollowed := true, recurses := true, named := ["gesso/path.rules", "internal/strconv.uint64pow10", "math/bits.deBruijn32tab", "math/bits.deBruijn64tab"], apart := false, laid := [("math/bits.deBruijn32tab", laid_math_bits_deBruijn32tab), ("math/bits.deBruijn64tab", laid_math_bits_deBruijn64tab), ("internal/strconv.uint64pow10", laid_internal_strconv_uint64pow10), ("gesso/path.rules", laid_gesso_path_rules)] }
def PathBackSaid : Prop := pathBackRow.holds Tryd.pinned (OpenSpec.ofChange pathBackSpec)

/-- ITS FALSE NEIGHBOUR: 'it returns false'. Refute it at one input. -/
def pathBackWrong : ChangeSpec := { name := "pathBack", fn := fun _ => fun
  | [d1, d2] => { results := [.lit (.bool false)], args := [d1, d2] }
  | _ => none }
def PathBackWrongFalsely : Prop := pathBackRow.holds Tryd.pinned (OpenSpec.ofChange pathBackWrong)

/-- 'gessolaw11.PathSmall': WHATEVER THE INPUT: true; the input reads as it did. -/
def pathSmallSpec : ChangeSpec := { name := "pathSmall", fn := fun _ => fun
  | [d] => { results := [.lit (.bool true)], args := [d] }
  | _ => none }
def pathSmallRow : OpenClaim := { program := "ytefajplbgmikdaadoor", sum := "e3d70821a304fea57eca9b3bb400cbab1876733589b844602a9ace7c11efbd45", func := "gesso/gessolaw11.PathSmall", spec := "pathSmall", inPlace := ["internal/abi.NoEscape", "internal/bytealg.MakeNoZero"], unfollowed := true, recurses := true, named := ["gesso/path.rules", "internal/strconv.uint64pow10", "math/bits.deBruijn32tab", "math/bits.deBruijn64tab"], apart := false, laid := [("math/bits.deBruijn32tab", laid_math_bits_deBruijn32tab), ("math/bits.deBruijn64tab", laid_math_bits_deBruijn64tab), ("internal/strconv.uint64pow10", laid_internal_strconv_uint64pow10), ("gesso/path.rules", laid_gesso_path_rules)] }
def PathSmallSaid : Prop := pathSmallRow.holds Tryd.pinned (OpenSpec.ofChange pathSmallSpec)

/-- ITS FALSE NEIGHBOUR: 'it returns false'. Refute it at one input. -/
def pathSmallWrong : ChangeSpec := { name := "pathSmall", fn := fun _ => fun
  | [d] => { results := [.lit (.bool false)], args := [d] }
  | _ => none }
def PathSmallWrongFalsely : Prop := pathSmallRow.holds Tryd.pinned (OpenSpec.ofChange pathSmallWrong)

/-- 'gessolaw11.PathMirrors': WHATEVER THE INPUT: true; the input reads as it did. -/
def pathMirrorsSpec : ChangeSpec := { name := "pathMirrors", fn := fun _ => fun
  | [d1, d2] => { results := [.lit (.bool true)], args := [d1, d2] }
  | _ => none }
def pathMirrorsRow : OpenClaim := { program := "ytefajplbgmikdaadoor", sum := "e3d70821a304fea57eca9b3bb400cbab1876733589b844602a9ace7c11efbd45", func := "gesso/gessolaw11.PathMirrors", spec := "pathMirrors", inPlace := ["internal/abi.NoEscape", "internal/bytealg.MakeNoZero"], unfollowed := true, recurses := true, named := ["gesso/path.rules", "internal/strconv.uint64pow10", "math/bits.deBruijn32tab", "math/bits.deBruijn64tab"], apart := false, laid := [("math/bits.deBruijn32tab", laid_math_bits_deBruijn32tab), ("math/bits.deBruijn64tab", laid_math_bits_deBruijn64tab), ("internal/strconv.uint64pow10", laid_internal_strconv_uint64pow10), ("gesso/path.rules", laid_gesso_path_rules)] }
def PathMirrorsSaid : Prop := pathMirrorsRow.holds Tryd.pinned (OpenSpec.ofChange pathMirrorsSpec)

/-- ITS FALSE NEIGHBOUR: 'it returns false'. Refute it at one input. -/
def pathMirrorsWrong : ChangeSpec := { name := "pathMirrors", fn := fun _ => fun
  | [d1, d2] => { results := [.lit (.bool false)], args := [d1, d2] }
  | _ => none }
def PathMirrorsWrongFalsely : Prop := pathMirrorsRow.holds Tryd.pinned (OpenSpec.ofChange pathMirrorsWrong)

/-- 'gessolaw11.PathAgain': WHATEVER THE INPUT: true; the input reads as it did. -/
def pathAgainSpec : ChangeSpec := { name := "pathAgain", fn := fun _ => fun
  | [d1, d2] => { results := [.lit (.bool true)], args := [d1, d2] }
  | _ => none }
def pathAgainRow : OpenClaim := { program := "ytefajplbgmikdaadoor", sum := "e3d70821a304fea57eca9b3bb400cbab1876733589b844602a9ace7c11efbd45", func := "gesso/gessolaw11.PathAgain", spec := "pathAgain", inPlace := ["internal/abi.NoEscape", "internal/bytealg.MakeNoZero"], unfollowed := true, recurses := true, named := ["gesso/path.rules", "internal/strconv.uint64pow10", "math/bits.deBruijn32tab", "math/bits.deBruijn64tab"], apart := false, laid := [("math/bits.deBruijn32tab", laid_math_bits_deBruijn32tab), ("math/bits.deBruijn64tab", laid_math_bits_deBruijn64tab), ("internal/strconv.uint64pow10", laid_internal_strconv_uint64pow10), ("gesso/path.rules", laid_gesso_path_rules)] }
def PathAgainSaid : Prop := pathAgainRow.holds Tryd.pinned (OpenSpec.ofChange pathAgainSpec)

/-- ITS FALSE NEIGHBOUR: 'it returns false'. Refute it at one input. -/
def pathAgainWrong : ChangeSpec := { name := "pathAgain", fn := fun _ => fun
  | [d1, d2] => { results := [.lit (.bool false)], args := [d1, d2] }
  | _ => none }
def PathAgainWrongFalsely : Prop := pathAgainRow.holds Tryd.pinned (OpenSpec.ofChange pathAgainWrong)

/-- 'gessolaw12.CmdTexts': WHATEVER THE INPUT: true; the input reads as it did. -/
def cmdTextsSpec : ChangeSpec := { name := "cmdTexts", fn := fun _ => fun
  | [d] => { results := [.lit (.bool true)], args := [d] }
  | _ => none }
def cmdTextsRow : OpenClaim := { program := "ytefajplbgmikdaadoor", sum := "e3d70821a304fea57eca9b3bb400cbab1876733589b844602a9ace7c11efbd45", func := "gesso/gessolaw12.CmdTexts", spec := "cmdTexts", inPlace := ["internal/abi.NoEscape", "internal/bytealg.MakeNoZero"], unfollowed := true, recurses := true, named := ["gesso/path.rules", "internal/strconv.uint64pow10", "math/bits.deBruijn32tab", "math/bits.deBruijn64tab"], apart := false, laid := [("math/bits.deBruijn32tab", laid_math_bits_deBruijn32tab), ("math/bits.deBruijn64tab", laid_math_bits_deBruijn64tab), ("internal/strconv.uint64pow10", laid_internal_strconv_uint64pow10), ("gesso/path.rules", laid_gesso_path_rules)] }
def CmdTextsSaid : Prop := cmdTextsRow.holds Tryd.pinned (OpenSpec.ofChange cmdTextsSpec)

/-- ITS FALSE NEIGHBOUR: 'it returns false'. Refute it at one input. -/
def cmdTextsWrong : ChangeSpec := { name := "cmdTexts", fn := fun _ => fun
  | [d] => { results := [.lit (.bool false)], args := [d] }
  | _ => none }
def CmdTextsWrongFalsely : Prop := cmdTextsRow.holds Tryd.pinned (OpenSpec.ofChange cmdTextsWrong)

/-- 'gessolaw12.CmdBack': WHATEVER THE INPUT: true; the input reads as it did. -/
def cmdBackSpec : ChangeSpec := { name := "cmdBack", fn := fun _ => fun
  | [d1, d2] => { results := [.lit (.bool true)], args := [d1, d2] }
  | _ => none }
def cmdBackRow : OpenClaim := { program := "ytefajplbgmikdaadoor", sum := "e3d70821a304fea57eca9b3bb400cbab1876733589b844602a9ace7c11efbd45", func := "gesso/gessolaw12.CmdBack", spec := "cmdBack", inPlace := ["internal/abi.NoEscape", "internal/bytealg.MakeNoZero"], unfollowed := true, recurses := true, named := ["gesso/path.rules", "internal/strconv.uint64pow10", "math/bits.deBruijn32tab", "math/bits.deBruijn64tab"], apart := false, laid := [("math/bits.deBruijn32tab", laid_math_bits_deBruijn32tab), ("math/bits.deBruijn64tab", laid_math_bits_deBruijn64tab), ("internal/strconv.uint64pow10", laid_internal_strconv_uint64pow10), ("gesso/path.rules", laid_gesso_path_rules)] }
def CmdBackSaid : Prop := cmdBackRow.holds Tryd.pinned (OpenSpec.ofChange cmdBackSpec)

/-- ITS FALSE NEIGHBOUR: 'it returns false'. Refute it at one input. -/
def cmdBackWrong : ChangeSpec := { name := "cmdBack", fn := fun _ => fun
  | [d1, d2] => { results := [.lit (.bool false)], args := [d1, d2] }
  | _ => none }
def CmdBackWrongFalsely : Prop := cmdBackRow.holds Tryd.pinned (OpenSpec.ofChange cmdBackWrong)

/-- 'gessolaw12.CmdFirst': WHATEVER THE INPUT: true; the input reads as it did. -/
def cmdFirstSpec : ChangeSpec := { name := "cmdFirst", fn := fun _ => fun
  | [d1, d2, d3] => { results := [.lit (.bool true)], args := [d1, d2, d3] }
  | _ => none }
def cmdFirstRow : OpenClaim := { program := "ytefajplbgmikdaadoor", sum := "e3d70821a304fea57eca9b3bb400cbab1876733589b844602a9ace7c11efbd45", func := "gesso/gessolaw12.CmdFirst", spec := "cmdFirst", inPlace := ["internal/abi.NoEscape", "internal/bytealg.MakeNoZero"], unfollowed := true, recurses := true, named := ["gesso/path.rules", "internal/strconv.uint64pow10", "math/bits.deBruijn32tab", "math/bits.deBruijn64tab"], apart := false, laid := [("math/bits.deBruijn32tab", laid_math_bits_deBruijn32tab), ("math/bits.deBruijn64tab", laid_math_bits_deBruijn64tab), ("internal/strconv.uint64pow10", laid_internal_strconv_uint64pow10), ("gesso/path.rules", laid_gesso_path_rules)] }
def CmdFirstSaid : Prop := cmdFirstRow.holds Tryd.pinned (OpenSpec.ofChange cmdFirstSpec)

/-- ITS FALSE NEIGHBOUR: 'it returns false'. Refute it at one input. -/
def cmdFirstWrong : ChangeSpec := { name := "cmdFirst", fn := fun _ => fun
  | [d1, d2, d3] => { results := [.lit (.bool false)], args := [d1, d2, d3] }
  | _ => none }
def CmdFirstWrongFalsely : Prop := cmdFirstRow.holds Tryd.pinned (OpenSpec.ofChange cmdFirstWrong)

/-- 'gessolaw12.CmdLines': WHATEVER THE INPUT: true; the input reads as it did. -/
def cmdLinesSpec : ChangeSpec := { name := "cmdLines", fn := fun _ => fun
  | [d1, d2] => { results := [.lit (.bool true)], args := [d1, d2] }
  | _ => none }
def cmdLinesRow : OpenClaim := { program := "ytefajplbgmikdaadoor", sum := "e3d70821a304fea57eca9b3bb400cbab1876733589b844602a9ace7c11efbd45", func := "gesso/gessolaw12.CmdLines", spec := "cmdLines", inPlace := ["internal/abi.NoEscape", "internal/bytealg.MakeNoZero"], unfollowed := true, recurses := true, named := ["gesso/path.rules", "internal/strconv.uint64pow10", "math/bits.deBruijn32tab", "math/bits.deBruijn64tab"], apart := false, laid := [("math/bits.deBruijn32tab", laid_math_bits_deBruijn32tab), ("math/bits.deBruijn64tab", laid_math_bits_deBruijn64tab), ("internal/strconv.uint64pow10", laid_internal_strconv_uint64pow10), ("gesso/path.rules", laid_gesso_path_rules)] }
def CmdLinesSaid : Prop := cmdLinesRow.holds Tryd.pinned (OpenSpec.ofChange cmdLinesSpec)

/-- ITS FALSE NEIGHBOUR: 'it returns false'. Refute it at one input. -/
def cmdLinesWrong : ChangeSpec := { name := "cmdLines", fn := fun _ => fun
  | [d1, d2] => { results := [.lit (.bool false)], args := [d1, d2] }
  | _ => none }
def CmdLinesWrongFalsely : Prop := cmdLinesRow.holds Tryd.pinned (OpenSpec.ofChange cmdLinesWrong)

/- THE SECOND FORM. 'bulk': how many values and letters a reading holds, each counted each time it is reached (what is shared counts as often as it is met; a slice's spare places count too). A statement '..UptoSaid' is the law's where the arguments, and the package variables that the reading takes, are together of bulk at most 1048576: NARROWER than '..Said'. Prove '..Said' where nothing that the law and all that it calls make is longer than what came in: it says more and counts as full. Else prove '..UptoSaid'. A law counts once. -/
mutual
def uptoBulk {H : Type} : DataW H → Nat
  | .lit (.string bytes) => bytes.length + 1
  | .lit _ => 1
  | .nil => 1
  | .ptr d => uptoBulk d + 1
  | .slice elems spare => uptoBulkAll elems + uptoBulkAll spare + 1
  | .agg parts => uptoBulkAll parts + 1
  | .iface _ d => uptoBulk d + 1
  | .map entries => uptoBulkEntries entries + 1
  | .held _ => 1
def uptoBulkAll {H : Type} : List (DataW H) → Nat
  | [] => 0
  | d :: r => uptoBulk d + uptoBulkAll r
def uptoBulkEntries {H : Type} : List (Lit × DataW H) → Nat
  | [] => 0
  | x :: r => uptoBulkEntry x + uptoBulkEntries r
def uptoBulkEntry {H : Type} : Lit × DataW H → Nat
  | (.string bytes, d) => bytes.length + uptoBulk d + 1
  | (_, d) => uptoBulk d + 1
 end
def uptoSmall : (H : Type) → List (DataW H) → Bool := fun _ ds => decide (uptoBulkAll ds ≤ 1048576)
def OpenSpec.upto (s : _root_.Go.ChangeSpec) : _root_.Go.OpenSpec := { _root_.Go.OpenSpec.ofChange s with cond := some uptoSmall }

/-- 'gessolaw11.PathTexts', WHERE WHAT IT READS IS OF BULK AT MOST 1048576: true; the input reads as it did. -/
def pathTextsUptoRow : OpenClaim := { program := "ytefajplbgmikdaadoor", sum := "e3d70821a304fea57eca9b3bb400cbab1876733589b844602a9ace7c11efbd45", func := "gesso/gessolaw11.PathTexts", spec := "pathTexts", inPlace := ["internal/abi.NoEscape", "internal/bytealg.MakeNoZero"], unfollowed := true, recurses := true, named := ["gesso/path.rules", "internal/strconv.uint64pow10", "math/bits.deBruijn32tab", "math/bits.deBruijn64tab"], apart := false, laid := [("math/bits.deBruijn32tab", laid_math_bits_deBruijn32tab), ("math/bits.deBruijn64tab", laid_math_bits_deBruijn64tab), ("internal/strconv.uint64pow10", laid_internal_strconv_uint64pow10), ("gesso/path.rules", laid_gesso_path_rules)], narrowed := true }
def PathTextsUptoSaid : Prop := pathTextsUptoRow.holds Tryd.pinned (OpenSpec.upto pathTextsSpec)

/-- 'gessolaw11.PathBack', WHERE WHAT IT READS IS OF BULK AT MOST 1048576: true; the input reads as it did. -/
def pathBackUptoRow : OpenClaim := { program := "ytefajplbgmikdaadoor", sum := "e3d70821a304fea57eca9b3bb400cbab1876733589b844602a9ace7c11efbd45", func := "gesso/gessolaw11.PathBack", spec := "pathBack", inPlace := ["internal/abi.NoEscape", "internal/bytealg.MakeNoZero"], unfollowed := true, recurses := true, named := ["gesso/path.rules", "internal/strconv.uint64pow10", "math/bits.deBruijn32tab", "math/bits.deBruijn64tab"], apart := false, laid := [("math/bits.deBruijn32tab", laid_math_bits_deBruijn32tab), ("math/bits.deBruijn64tab", laid_math_bits_deBruijn64tab), ("internal/strconv.uint64pow10", laid_internal_strconv_uint64pow10), ("gesso/path.rules", laid_gesso_path_rules)], narrowed := true }
def PathBackUptoSaid : Prop := pathBackUptoRow.holds Tryd.pinned (OpenSpec.upto pathBackSpec)

/-- 'gessolaw11.PathSmall', WHERE WHAT IT READS IS OF BULK AT MOST 1048576: true; the input reads as it did. -/
def pathSmallUptoRow : OpenClaim := { program := "ytefajplbgmikdaadoor", sum := "e3d70821a304fea57eca9b3bb400cbab1876733589b844602a9ace7c11efbd45", func := "gesso/gessolaw11.PathSmall", spec := "pathSmall", inPlace := ["internal/abi.NoEscape", "internal/bytealg.MakeNoZero"], unfollowed := true, recurses := true, named := ["gesso/path.rules", "internal/strconv.uint64pow10", "math/bits.deBruijn32tab", "math/bits.deBruijn64tab"], apart := false, laid := [("math/bits.deBruijn32tab", laid_math_bits_deBruijn32tab), ("math/bits.deBruijn64tab", laid_math_bits_deBruijn64tab), ("internal/strconv.uint64pow10", laid_internal_strconv_uint64pow10), ("gesso/path.rules", laid_gesso_path_rules)], narrowed := true }
def PathSmallUptoSaid : Prop := pathSmallUptoRow.holds Tryd.pinned (OpenSpec.upto pathSmallSpec)

/-- 'gessolaw11.PathMirrors', WHERE WHAT IT READS IS OF BULK AT MOST 1048576: true; the input reads as it did. -/
def pathMirrorsUptoRow : OpenClaim := { program := "ytefajplbgmikdaadoor", sum := "e3d70821a304fea57eca9b3bb400cbab1876733589b844602a9ace7c11efbd45", func := "gesso/gessolaw11.PathMirrors", spec := "pathMirrors", inPlace := ["internal/abi.NoEscape", "internal/bytealg.MakeNoZero"], unfollowed := true, recurses := true, named := ["gesso/path.rules", "internal/strconv.uint64pow10", "math/bits.deBruijn32tab", "math/bits.deBruijn64tab"], apart := false, laid := [("math/bits.deBruijn32tab", laid_math_bits_deBruijn32tab), ("math/bits.deBruijn64tab", laid_math_bits_deBruijn64tab), ("internal/strconv.uint64pow10", laid_internal_strconv_uint64pow10), ("gesso/path.rules", laid_gesso_path_rules)], narrowed := true }
def PathMirrorsUptoSaid : Prop := pathMirrorsUptoRow.holds Tryd.pinned (OpenSpec.upto pathMirrorsSpec)

/-- 'gessolaw11.PathAgain', WHERE WHAT IT READS IS OF BULK AT MOST 1048576: true; the input reads as it did. -/
def pathAgainUptoRow : OpenClaim := { program := "ytefajplbgmikdaadoor", sum := "e3d70821a304fea57eca9b3bb400cbab1876733589b844602a9ace7c11efbd45", func := "gesso/gessolaw11.PathAgain", spec := "pathAgain", inPlace := ["internal/abi.NoEscape", "internal/bytealg.MakeNoZero"], unfollowed := true, recurses := true, named := ["gesso/path.rules", "internal/strconv.uint64pow10", "math/bits.deBruijn32tab", "math/bits.deBruijn64tab"], apart := false, laid := [("math/bits.deBruijn32tab", laid_math_bits_deBruijn32tab), ("math/bits.deBruijn64tab", laid_math_bits_deBruijn64tab), ("internal/strconv.uint64pow10", laid_internal_strconv_uint64pow10), ("gesso/path.rules", laid_gesso_path_rules)], narrowed := true }
def PathAgainUptoSaid : Prop := pathAgainUptoRow.holds Tryd.pinned (OpenSpec.upto pathAgainSpec)

/-- 'gessolaw12.CmdTexts', WHERE WHAT IT READS IS OF BULK AT MOST 1048576: true; the input reads as it did. -/
def cmdTextsUptoRow : OpenClaim := { program := "ytefajplbgmikdaadoor", sum := "e3d70821a304fea57eca9b3bb400cbab1876733589b844602a9ace7c11efbd45", func := "gesso/gessolaw12.CmdTexts", spec := "cmdTexts", inPlace := ["internal/abi.NoEscape", "internal/bytealg.MakeNoZero"], unfollowed := true, recurses := true, named := ["gesso/path.rules", "internal/strconv.uint64pow10", "math/bits.deBruijn32tab", "math/bits.deBruijn64tab"], apart := false, laid := [("math/bits.deBruijn32tab", laid_math_bits_deBruijn32tab), ("math/bits.deBruijn64tab", laid_math_bits_deBruijn64tab), ("internal/strconv.uint64pow10", laid_internal_strconv_uint64pow10), ("gesso/path.rules", laid_gesso_path_rules)], narrowed := true }
def CmdTextsUptoSaid : Prop := cmdTextsUptoRow.holds Tryd.pinned (OpenSpec.upto cmdTextsSpec)

/-- 'gessolaw12.CmdBack', WHERE WHAT IT READS IS OF BULK AT MOST 1048576: true; the input reads as it did. -/
def cmdBackUptoRow : OpenClaim := { program := "ytefajplbgmikdaadoor", sum := "e3d70821a304fea57eca9b3bb400cbab1876733589b844602a9ace7c11efbd45", func := "gesso/gessolaw12.CmdBack", spec := "cmdBack", inPlace := ["internal/abi.NoEscape", "internal/bytealg.MakeNoZero"], unfollowed := true, recurses := true, named := ["gesso/path.rules", "internal/strconv.uint64pow10", "math/bits.deBruijn32tab", "math/bits.deBruijn64tab"], apart := false, laid := [("math/bits.deBruijn32tab", laid_math_bits_deBruijn32tab), ("math/bits.deBruijn64tab", laid_math_bits_deBruijn64tab), ("internal/strconv.uint64pow10", laid_internal_strconv_uint64pow10), ("gesso/path.rules", laid_gesso_path_rules)], narrowed := true }
def CmdBackUptoSaid : Prop := cmdBackUptoRow.holds Tryd.pinned (OpenSpec.upto cmdBackSpec)

/-- 'gessolaw12.CmdFirst', WHERE WHAT IT READS IS OF BULK AT MOST 1048576: true; the input reads as it did. -/
def cmdFirstUptoRow : OpenClaim := { program := "ytefajplbgmikdaadoor", sum := "e3d70821a304fea57eca9b3bb400cbab1876733589b844602a9ace7c11efbd45", func := "gesso/gessolaw12.CmdFirst", spec := "cmdFirst", inPlace := ["internal/abi.NoEscape", "internal/bytealg.MakeNoZero"], unfollowed := true, recurses := true, named := ["gesso/path.rules", "internal/strconv.uint64pow10", "math/bits.deBruijn32tab", "math/bits.deBruijn64tab"], apart := false, laid := [("math/bits.deBruijn32tab", laid_math_bits_deBruijn32tab), ("math/bits.deBruijn64tab", laid_math_bits_deBruijn64tab), ("internal/strconv.uint64pow10", laid_internal_strconv_uint64pow10), ("gesso/path.rules", laid_gesso_path_rules)], narrowed := true }
def CmdFirstUptoSaid : Prop := cmdFirstUptoRow.holds Tryd.pinned (OpenSpec.upto cmdFirstSpec)

/-- 'gessolaw12.CmdLines', WHERE WHAT IT READS IS OF BULK AT MOST 1048576: true; the input reads as it did. -/
def cmdLinesUptoRow : OpenClaim := { program := "ytefajplbgmikdaadoor", sum := "e3d70821a304fea57eca9b3bb400cbab1876733589b844602a9ace7c11efbd45", func := "gesso/gessolaw12.CmdLines", spec := "cmdLines", inPlace := ["internal/abi.NoEscape", "internal/bytealg.MakeNoZero"], unfollowed := true, recurses := true, named := ["gesso/path.rules", "internal/strconv.uint64pow10", "math/bits.deBruijn32tab", "math/bits.deBruijn64tab"], apart := false, laid := [("math/bits.deBruijn32tab", laid_math_bits_deBruijn32tab), ("math/bits.deBruijn64tab", laid_math_bits_deBruijn64tab), ("internal/strconv.uint64pow10", laid_internal_strconv_uint64pow10), ("gesso/path.rules", laid_gesso_path_rules)], narrowed := true }
def CmdLinesUptoSaid : Prop := cmdLinesUptoRow.holds Tryd.pinned (OpenSpec.upto cmdLinesSpec)

end Rows
end Go.Proofs.YtefajplbgmikdaaDoor
