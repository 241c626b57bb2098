/-
  The tie of CollabNone's row to the program's text: joined.
-/
import Derived.Test.YtmgigdklcaepdaaGreatDoorTie0
import Derived.Test.YtmgigdklcaepdaaGreatDoorTieB1
import Derived.SevenTiedAt
set_option linter.unusedVariables false
set_option linter.unusedSimpArgs false
namespace Go.Proofs.YtmgigdklcaepdaaGreatDoor.tieOwn
open Go
theorem hk : lst.map (fun x => Tryz.prog.kindOfLater x.1) = [LaidKind.sentinel, .sentinel, .data, .data, .data, .data].map some := by kernel_rfl
theorem hn : varsNamedLaterB Tryz.prog 566 lst = true := by kernel_rfl
theorem noOwnUnsafe : Tryz.pinned.checked.prog.headLifts.contains "ownunsafe" = false := by kernel_rfl
theorem pin1 : Tryz.pinned.checked.prog.pinnedFits "unicode/utf8.first" = true := by kernel_rfl
theorem fits1 : Tryz.pinned.checked.prog.listedFits Rows.collabNoneRow.laid = true := by
  unfold Program.listedFits
  rw [noOwnUnsafe]
  kernel_rfl
theorem tie : Tryz.prog.laidByTextLater lst [.sentinel, .sentinel, .data, .data, .data, .data] true :=
  Program.laidByTextLater_of_run 566 400 8 hw hw' hroot hk hg hn hd h1 h2 (by kernel_rfl)
theorem row_tie : Rows.collabNoneRow.laidByTextAt .later Tryz.pinned [.sentinel, .sentinel, .data, .data, .data, .pinned, .data] true :=
  OpenClaim.laidByTextAt_pinned rfl rfl tie rfl rfl rfl rfl (fun y hy _e => by
    simp only [Rows.collabNoneRow, List.zip_cons_cons, List.zip_nil_right, List.mem_cons, List.mem_nil_iff, or_false] at hy
    rcases hy with rfl | rfl | rfl | rfl | rfl | rfl | rfl
    · cases _e
    · cases _e
    · cases _e
    · cases _e
    · cases _e
    · exact ⟨pin1, by kernel_rfl⟩
    · cases _e) fits1
end Go.Proofs.YtmgigdklcaepdaaGreatDoor.tieOwn
