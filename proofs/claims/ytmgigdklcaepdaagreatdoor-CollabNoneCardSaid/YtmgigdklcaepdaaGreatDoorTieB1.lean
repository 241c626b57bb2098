/-
  The tie of CollabNone's row to the program's text: the closed facts one theorem each (in one theorem they pass the builder's memory).
-/
import Derived.Test.YtmgigdklcaepdaaGreatDoorRows
import Derived.LaidByTextLater
import Derived.SevenTiedAt
set_option linter.unusedVariables false
set_option linter.unusedSimpArgs false
namespace Go.Proofs.YtmgigdklcaepdaaGreatDoor.tieOwn
open Go
def lst : List (String × DataW Unit) := [("strconv.ErrSyntax", Rows.laid_strconv_ErrSyntax), ("strconv.ErrRange", Rows.laid_strconv_ErrRange), ("internal/strconv.uint64pow10", Rows.laid_internal_strconv_uint64pow10), ("math/bits.deBruijn32tab", Rows.laid_math_bits_deBruijn32tab), ("math/bits.deBruijn64tab", Rows.laid_math_bits_deBruijn64tab), ("unicode/utf8.acceptRanges", Rows.laid_unicode_utf8_acceptRanges)]
theorem hg : Tryz.prog.funcNamed "gosem.cut.vars" = some 566 := by kernel_rfl
theorem hd (os : Os) (tape : Tape) : varsDone Tryz.prog 400 566 os tape = true := by kernel_rfl
theorem h1 (os : Os) (tape : Tape) : (DataW.laidRun Tryz.prog (varsWorld Tryz.prog 400 566 os tape).memory 8 (lst.map (·.1))).map (·.1) = some lst := by kernel_rfl
theorem h2 (os : Os) (tape : Tape) : (DataW.laidRun Tryz.prog (varsWorld Tryz.prog 400 566 os tape).memory 8 (lst.map (·.1))).map (fun x => decide x.2.Nodup && laidRowsB Tryz.prog (varsWorld Tryz.prog 400 566 os tape).memory x.2) = some true := by kernel_rfl
