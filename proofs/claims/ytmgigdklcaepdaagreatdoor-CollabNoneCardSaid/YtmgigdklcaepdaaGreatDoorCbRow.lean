/-
  CollabNone's row: the witness lays the listed variables by the function; the contract is the one call.
-/
import Derived.Test.YtmgigdklcaepdaaGreatDoorRows
import Derived.WalkKit
import Derived.ProofKit
import Derived.OpenShut
import Derived.Lay
import Derived.LaidMore
import Derived.Stop.Joined
import Derived.Test.YtmgigdklcaepdaaGreatDoorRb
import Derived.Test.YtmgigdklcaepdaaGreatDoorCbJ
set_option linter.unusedVariables false
set_option linter.unusedSimpArgs false
namespace Go.Proofs.YtmgigdklcaepdaaGreatDoor.collabNone
open Go.ChangeShapes Go.WideShapes Go.ChangeAt Go.RowKit
set_option linter.unusedVariables false

theorem own : ownKnob Tryz.prog.godebug = none := by kernel_rfl
theorem noinit : Tryz.prog.inits.idxOf? 4 = none := by kernel_rfl
noncomputable def w0 (os : Os) : World := World.laidAll Tryz.prog os Rows.collabNoneRow.laid
noncomputable def w1 (os : Os) : World := ((w0 os).forCall (fun _ _ => 0) ⟨#[], #[], []⟩)
theorem zipB (os : Os) : (w1 os).variablesZipB Tryz.prog = true := by kernel_rfl
theorem dropB (os : Os) : ((w1 os).heap.toList.drop Tryz.prog.globals.size).take ((begin Tryz.prog (fun _ _ => 0) default).world.heap.size - Tryz.prog.globals.size) =
      (begin Tryz.prog (fun _ _ => 0) default).world.heap.toList.drop Tryz.prog.globals.size := by kernel_rfl
theorem okB (os : Os) : Input.okWideB Tryz.prog (w1 os) 4 ⟨#[], #[], []⟩ = true := by kernel_rfl
theorem preB {H : Type} (enc : TypeId × Value → H) (os : Os) : Rows.collabNoneSpec.preB enc Tryz.prog Tryz.f4 Rows.collabNoneRow.domain false (w1 os).memory #[] 8 = true := by kernel_rfl
theorem sizedB {H : Type} (enc : TypeId × Value → H) (os : Os) : Rows.collabNoneSpec.sizedB enc Tryz.prog Tryz.f4 false (w1 os).memory #[] 8 = true := by kernel_rfl
theorem fitsB (os : Os) : (World.holding Tryz.prog os ⟨#[], #[], []⟩).layFits Tryz.prog Rows.collabNoneRow.laid [] = true := by kernel_rfl
theorem ifacesB (os : Os) : (World.holding Tryz.prog os ⟨#[], #[], []⟩).layIfaces Tryz.prog Rows.collabNoneRow.laid (World.laidAll Tryz.prog os Rows.collabNoneRow.laid) = true := by kernel_rfl
theorem plain : (Rows.collabNoneRow.laid.all fun x => x.2.handleName?.isNone) = true := by kernel_rfl
theorem met (os : Os) : laidMetH Tryz.prog Rows.collabNoneRow.laid (w1 os).memory := by
  rw [MakeChecks.laidMetH_plain _ _ _ plain]
  exact laidMet_laidAll _ (fitsB os) (ifacesB os)

set_option maxRecDepth 100000 in
theorem lifted (os : Os) (started : os.Started) (H : Type) (enc : TypeId × Value → H) :
    ReturnsInHanded {} Tryz.checked os 4 .any (fun w args => (Rows.collabNoneSpec.pre enc Tryz.prog Tryz.f4 Rows.collabNoneRow.domain false w args ∧ laidMetH Tryz.prog Rows.collabNoneRow.laid w) ∧ sizedMet enc Tryz.prog Tryz.f4 (OpenSpec.ofChange Rows.collabNoneSpec) false w args)
      (Rows.collabNoneSpec.post enc Tryz.prog Tryz.f4 false true false false) := by
  refine returnsInHanded_of_change_and (C := Tryz.checked) (X := fun w _ => laidMetH Tryz.prog Rows.collabNoneRow.laid w) (fun _ _ _ hh h => h.of_heap hh) own started noinit Tryz.func4
    (ChangeSpec.witness_shaped (enc := enc) (C := Tryz.checked) (os := os) (X := fun w _ => laidMetH Tryz.prog Rows.collabNoneRow.laid w) false (w0 os) #[] 8 (World.laidAll_os _ _ _)
      (World.shaped_of_ZipB (zipB os) (dropB os)) (okB os) (preB enc os) (sizedB enc os) (met os)) ?_
  intro W base args ds gs before _ hW hc _ _ _
  have hW' := hW
  obtain ⟨p, q, hA0, hV, rfl, _, _⟩ := hW
  have hA : DataW.TrodAll enc Tryz.prog W 0 (fun _ => true) true Tryz.f4.params.toList args.toList ds p := hA0
  rw [Tryz.params4] at hA
  obtain ⟨rfl, rfl, rfl⟩ := trodAll_none hA
  obtain ⟨rfl, rfl⟩ := trodVars_none hV
  refine (Go.Proofs.YtmgigdklcaepdaaGreatDoor.Ax.collabNone_calls W).mono fun e W' ⟨he, hg⟩ => ?_
  subst he
  refine ⟨_, rfl, [], [], _, [], [], [], hW', trodAll_mk1 (shut_bool Tryz.underlying4 _), rfl, rfl, ⟨hg.os, hg.out, fun i hi => ?_⟩, fun h => by cases h⟩
  rw [hg.same i hi]
  cases W.heap[i]? with
  | none => rfl
  | some o => cases o <;> first | exact rfl | exact ⟨rfl, rfl, rfl, fun _ _ => rfl⟩ | exact Or.inr ⟨rfl, rfl⟩

/-- ████ THE STATEMENT ████ -/
theorem proved : Rows.CollabNoneSaid :=
  OpenClaim.holds_of_wide 4 Tryz.f4 rfl rfl rfl rfl rfl rfl rfl ⟨rfl, rfl, rfl, rfl, rfl⟩ rfl rfl rfl rfl rfl named Tryz.func4 closed inst wrap
    (fun os started H enc _ => lifted os started H enc)
end Go.Proofs.YtmgigdklcaepdaaGreatDoor.collabNone
