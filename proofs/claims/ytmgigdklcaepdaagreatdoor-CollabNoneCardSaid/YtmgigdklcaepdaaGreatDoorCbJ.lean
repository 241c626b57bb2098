/-
  collabNone's row: its closed facts, one theorem each (printed by a program).
-/
import Derived.Test.YtmgigdklcaepdaaGreatDoorRows
import Derived.Test.YtmgigdklcaepdaaGreatDoorJF
set_option linter.unusedVariables false
set_option linter.unusedSimpArgs false
namespace Go.Proofs.YtmgigdklcaepdaaGreatDoor.collabNone
open Go.Proofs.YtmgigdklcaepdaaGreatDoor.Ax
theorem j0 : jf0 Tryz.prog 4 Tryz.f4 Rows.collabNoneSpec Rows.collabNoneRow = true := by kernel_rfl
theorem j1 : jf1 Tryz.prog 4 Tryz.f4 Rows.collabNoneSpec Rows.collabNoneRow = true := by kernel_rfl
theorem j2 : jf2 Tryz.prog 4 Tryz.f4 Rows.collabNoneSpec Rows.collabNoneRow = true := by kernel_rfl
theorem j3 : jf3 Tryz.prog 4 Tryz.f4 Rows.collabNoneSpec Rows.collabNoneRow = true := by kernel_rfl
theorem j4 : jf4 Tryz.prog 4 Tryz.f4 Rows.collabNoneSpec Rows.collabNoneRow = true := by kernel_rfl
theorem j5 : jf5 Tryz.prog 4 Tryz.f4 Rows.collabNoneSpec Rows.collabNoneRow = true := by kernel_rfl
theorem j6 : jf6 Tryz.prog 4 Tryz.f4 Rows.collabNoneSpec Rows.collabNoneRow = true := by kernel_rfl
theorem j7 : jf7 Tryz.prog 4 Tryz.f4 Rows.collabNoneSpec Rows.collabNoneRow = true := by kernel_rfl
theorem j8 : jf8 Tryz.prog 4 Tryz.f4 Rows.collabNoneSpec Rows.collabNoneRow = true := by kernel_rfl
theorem j9 : jf9 Tryz.prog 4 Tryz.f4 Rows.collabNoneSpec Rows.collabNoneRow = true := by kernel_rfl
theorem j10 : jf10 Tryz.prog 4 Tryz.f4 Rows.collabNoneSpec Rows.collabNoneRow = true := by kernel_rfl
theorem j11 : jf11 Tryz.prog 4 Tryz.f4 Rows.collabNoneSpec Rows.collabNoneRow = true := by kernel_rfl
theorem j12 : jf12 Tryz.prog 4 Tryz.f4 Rows.collabNoneSpec Rows.collabNoneRow = true := by kernel_rfl
theorem j13 : jf13 Tryz.prog 4 Tryz.f4 Rows.collabNoneSpec Rows.collabNoneRow = true := by kernel_rfl
theorem j14 : jf14 Tryz.prog 4 Tryz.f4 Rows.collabNoneSpec Rows.collabNoneRow = true := by kernel_rfl
theorem j15 : jf15 Tryz.prog 4 Tryz.f4 Rows.collabNoneSpec Rows.collabNoneRow = true := by kernel_rfl
theorem j16 : jf16 Tryz.prog 4 Tryz.f4 Rows.collabNoneSpec Rows.collabNoneRow = true := by kernel_rfl
theorem j17 : jf17 Tryz.prog 4 Tryz.f4 Rows.collabNoneSpec Rows.collabNoneRow = true := by kernel_rfl
theorem j18 : jf18 Tryz.prog 4 Tryz.f4 Rows.collabNoneSpec Rows.collabNoneRow = true := by kernel_rfl
theorem j19 : jf19 Tryz.prog 4 Tryz.f4 Rows.collabNoneSpec Rows.collabNoneRow = true := by kernel_rfl
theorem j20 : jf20 Tryz.prog 4 Tryz.f4 Rows.collabNoneSpec Rows.collabNoneRow = true := by kernel_rfl
theorem j21 : jf21 Tryz.prog 4 Tryz.f4 Rows.collabNoneSpec Rows.collabNoneRow = true := by kernel_rfl
theorem j22 : jf22 Tryz.prog 4 Tryz.f4 Rows.collabNoneSpec Rows.collabNoneRow = true := by kernel_rfl
theorem j23 : jf23 Tryz.prog 4 Tryz.f4 Rows.collabNoneSpec Rows.collabNoneRow = true := by kernel_rfl
theorem j24 : jf24 Tryz.prog 4 Tryz.f4 Rows.collabNoneSpec Rows.collabNoneRow = true := by kernel_rfl
theorem j25 : jf25 Tryz.prog 4 Tryz.f4 Rows.collabNoneSpec Rows.collabNoneRow = true := by kernel_rfl
theorem j26 : jf26 Tryz.prog 4 Tryz.f4 Rows.collabNoneSpec Rows.collabNoneRow = true := by kernel_rfl
theorem j27 : jf27 Tryz.prog 4 Tryz.f4 Rows.collabNoneSpec Rows.collabNoneRow = true := by kernel_rfl
theorem j28 : jf28 Tryz.prog 4 Tryz.f4 Rows.collabNoneSpec Rows.collabNoneRow = true := by kernel_rfl
theorem j29 : jf29 Tryz.prog 4 Tryz.f4 Rows.collabNoneSpec Rows.collabNoneRow = true := by kernel_rfl
theorem j30 : jf30 Tryz.prog 4 Tryz.f4 Rows.collabNoneSpec Rows.collabNoneRow = true := by kernel_rfl
theorem j31 : jf31 Tryz.prog 4 Tryz.f4 Rows.collabNoneSpec Rows.collabNoneRow = true := by kernel_rfl
theorem closed : joinedFacts Tryz.prog 4 Tryz.f4 Rows.collabNoneSpec Rows.collabNoneRow = true := joined_of j0 j1 j2 j3 j4 j5 j6 j7 j8 j9 j10 j11 j12 j13 j14 j15 j16 j17 j18 j19 j20 j21 j22 j23 j24 j25 j26 j27 j28 j29 j30 j31
theorem named : Tryz.pinned.checked.prog.funcNamed Rows.collabNoneRow.func = some 4 := by kernel_rfl
theorem inst : Tryz.f4.isInstance Tryz.prog Rows.collabNoneRow.origin Rows.collabNoneRow.targs := of_decide_eq_true (by kernel_rfl)
theorem wrap : Tryz.f4.isWrapper Tryz.prog Rows.collabNoneRow.wrapper Rows.collabNoneRow.mainSum := by unfold Func.isWrapper; first | (rw [if_pos (by decide +kernel)]; kernel_rfl) | (rw [if_neg (by decide +kernel)]; exact ⟨rfl, rfl⟩)
end Go.Proofs.YtmgigdklcaepdaaGreatDoor.collabNone
