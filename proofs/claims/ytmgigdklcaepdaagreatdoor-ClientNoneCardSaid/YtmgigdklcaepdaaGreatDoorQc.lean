/-
  Each of these functions is what the translation's text means. Printed by a program.
-/
import Derived.Test.YtmgigdklcaepdaaGreatDoorTa
import Derived.Test.YtmgigdklcaepdaaGreatDoorFa
import Derived.Test.YtmgigdklcaepdaaGreatDoorFb
set_option linter.unusedVariables false
set_option linter.unusedSimpArgs false
namespace Go.Proofs.YtmgigdklcaepdaaGreatDoor.Ax
set_option linter.unusedVariables false
set_option maxRecDepth 100000
theorem e6 : F6 = denF tabT G [0, 1, 2, 4, 5, 6, 7, 8] 0 Go.Proofs.Tryz.f6 := by kernel_rfl
theorem k6 : FnOk Go.Proofs.Tryz.prog [] 6 F6 := denF_ok (G_ok []) tabT_ok mixedT e6 Go.Proofs.Tryz.func6 (by kernel_rfl)
theorem e10 : F10 = denF tabT G [0, 1, 2, 3, 4] 1 Go.Proofs.Tryz.f10 := by kernel_rfl
theorem k10 : FnOk Go.Proofs.Tryz.prog [] 10 F10 := denF_ok (G_ok []) tabT_ok mixedT e10 Go.Proofs.Tryz.func10 (by kernel_rfl)
theorem e20 : F20 = denF tabT G [0, 1, 2, 3, 8, 9, 10, 11, 12, 13, 14] 4 Go.Proofs.Tryz.f20 := by kernel_rfl
theorem k20 : FnOk Go.Proofs.Tryz.prog [] 20 F20 := denF_ok (G_ok []) tabT_ok mixedT e20 Go.Proofs.Tryz.func20 (by kernel_rfl)
theorem e24 : F24 = denF tabT G [0] 0 Go.Proofs.Tryz.f24 := by kernel_rfl
theorem k24 : FnOk Go.Proofs.Tryz.prog [] 24 F24 := denF_ok (G_ok []) tabT_ok mixedT e24 Go.Proofs.Tryz.func24 (by kernel_rfl)
theorem e28 : F28 = denF tabT G [0] 1 Go.Proofs.Tryz.f28 := by kernel_rfl
theorem k28 : FnOk Go.Proofs.Tryz.prog [] 28 F28 := denF_ok (G_ok []) tabT_ok mixedT e28 Go.Proofs.Tryz.func28 (by kernel_rfl)
theorem e33 : F33 = denF tabT G [0, 1, 2, 3, 4, 5] 3 Go.Proofs.Tryz.f33 := by kernel_rfl
theorem k33 : FnOk Go.Proofs.Tryz.prog [] 33 F33 := denF_ok (G_ok []) tabT_ok mixedT e33 Go.Proofs.Tryz.func33 (by kernel_rfl)
theorem e54 : F54 = denF tabT G [0, 1, 2, 3, 5, 11, 12, 13] 1 Go.Proofs.Tryz.f54 := by kernel_rfl
theorem k54 : FnOk Go.Proofs.Tryz.prog [] 54 F54 := denF_ok (G_ok []) tabT_ok mixedT e54 Go.Proofs.Tryz.func54 (by kernel_rfl)
theorem e58 : F58 = denF tabT G [0, 1, 4, 5, 6] 2 Go.Proofs.Tryz.f58 := by kernel_rfl
theorem k58 : FnOk Go.Proofs.Tryz.prog [] 58 F58 := denF_ok (G_ok []) tabT_ok mixedT e58 Go.Proofs.Tryz.func58 (by kernel_rfl)
theorem e62 : F62 = denF tabT G [0, 2, 3, 4, 5, 20] 1 Go.Proofs.Tryz.f62 := by kernel_rfl
theorem k62 : FnOk Go.Proofs.Tryz.prog [] 62 F62 := denF_ok (G_ok []) tabT_ok mixedT e62 Go.Proofs.Tryz.func62 (by kernel_rfl)
theorem e66 : F66 = denF tabT G [0, 1, 2, 4] 2 Go.Proofs.Tryz.f66 := by kernel_rfl
theorem k66 : FnOk Go.Proofs.Tryz.prog [] 66 F66 := denF_ok (G_ok []) tabT_ok mixedT e66 Go.Proofs.Tryz.func66 (by kernel_rfl)
theorem e70 : F70 = denF tabT G [0, 2] 1 Go.Proofs.Tryz.f70 := by kernel_rfl
theorem k70 : FnOk Go.Proofs.Tryz.prog [] 70 F70 := denF_ok (G_ok []) tabT_ok mixedT e70 Go.Proofs.Tryz.func70 (by kernel_rfl)
theorem e74 : F74 = denF tabT G [0, 1, 4, 5, 6, 7, 10, 11, 12] 2 Go.Proofs.Tryz.f74 := by kernel_rfl
theorem k74 : FnOk Go.Proofs.Tryz.prog [] 74 F74 := denF_ok (G_ok []) tabT_ok mixedT e74 Go.Proofs.Tryz.func74 (by kernel_rfl)
theorem e81 : F81 = denF tabT G [0, 2] 1 Go.Proofs.Tryz.f81 := by kernel_rfl
theorem k81 : FnOk Go.Proofs.Tryz.prog [] 81 F81 := denF_ok (G_ok []) tabT_ok mixedT e81 Go.Proofs.Tryz.func81 (by kernel_rfl)
theorem e86 : F86 = denF tabT G [0, 2, 3, 4, 6, 8, 10, 18, 19, 20, 33, 48, 80, 81, 82, 94, 95, 96, 106] 1 Go.Proofs.Tryz.f86 := by kernel_rfl
theorem k86 : FnOk Go.Proofs.Tryz.prog [] 86 F86 := denF_ok (G_ok []) tabT_ok mixedT e86 Go.Proofs.Tryz.func86 (by kernel_rfl)
theorem e112 : F112 = denF tabT G [0, 2] 1 Go.Proofs.Tryz.f112 := by kernel_rfl
theorem k112 : FnOk Go.Proofs.Tryz.prog [] 112 F112 := denF_ok (G_ok []) tabT_ok mixedT e112 Go.Proofs.Tryz.func112 (by kernel_rfl)
theorem e116 : F116 = denF tabT G [0, 1, 4] 2 Go.Proofs.Tryz.f116 := by kernel_rfl
theorem k116 : FnOk Go.Proofs.Tryz.prog [] 116 F116 := denF_ok (G_ok []) tabT_ok mixedT e116 Go.Proofs.Tryz.func116 (by kernel_rfl)
theorem e124 : F124 = denF tabT G [0, 1, 2] 1 Go.Proofs.Tryz.f124 := by kernel_rfl
theorem k124 : FnOk Go.Proofs.Tryz.prog [] 124 F124 := denF_ok (G_ok []) tabT_ok mixedT e124 Go.Proofs.Tryz.func124 (by kernel_rfl)
theorem e128 : F128 = denF tabT G [0, 1, 5, 7, 12, 13, 14, 29, 30, 31] 2 Go.Proofs.Tryz.f128 := by kernel_rfl
theorem k128 : FnOk Go.Proofs.Tryz.prog [] 128 F128 := denF_ok (G_ok []) tabT_ok mixedT e128 Go.Proofs.Tryz.func128 (by kernel_rfl)
theorem e133 : F133 = denF tabT G [0, 2, 3] 1 Go.Proofs.Tryz.f133 := by kernel_rfl
theorem k133 : FnOk Go.Proofs.Tryz.prog [] 133 F133 := denF_ok (G_ok []) tabT_ok mixedT e133 Go.Proofs.Tryz.func133 (by kernel_rfl)
theorem e140 : F140 = denF tabT G [0, 1, 4] 2 Go.Proofs.Tryz.f140 := by kernel_rfl
theorem k140 : FnOk Go.Proofs.Tryz.prog [] 140 F140 := denF_ok (G_ok []) tabT_ok mixedT e140 Go.Proofs.Tryz.func140 (by kernel_rfl)
theorem e146 : F146 = denF tabT G [0, 1, 4, 5, 6, 7, 8, 9, 10, 15, 16, 90, 91] 2 Go.Proofs.Tryz.f146 := by kernel_rfl
theorem k146 : FnOk Go.Proofs.Tryz.prog [] 146 F146 := denF_ok (G_ok []) tabT_ok mixedT e146 Go.Proofs.Tryz.func146 (by kernel_rfl)
theorem e180 : F180 = denF tabT G [0, 2, 3, 4, 6] 1 Go.Proofs.Tryz.f180 := by kernel_rfl
theorem k180 : FnOk Go.Proofs.Tryz.prog [] 180 F180 := denF_ok (G_ok []) tabT_ok mixedT e180 Go.Proofs.Tryz.func180 (by kernel_rfl)
theorem e184 : F184 = denF tabT G [0, 1, 4, 5, 6, 8] 2 Go.Proofs.Tryz.f184 := by kernel_rfl
theorem k184 : FnOk Go.Proofs.Tryz.prog [] 184 F184 := denF_ok (G_ok []) tabT_ok mixedT e184 Go.Proofs.Tryz.func184 (by kernel_rfl)
theorem e192 : F192 = denF tabT G [0, 2, 3, 5, 8, 9, 10] 1 Go.Proofs.Tryz.f192 := by kernel_rfl
theorem k192 : FnOk Go.Proofs.Tryz.prog [] 192 F192 := denF_ok (G_ok []) tabT_ok mixedT e192 Go.Proofs.Tryz.func192 (by kernel_rfl)
theorem e199 : F199 = denF tabT G [0, 2, 3, 5, 6] 1 Go.Proofs.Tryz.f199 := by kernel_rfl
theorem k199 : FnOk Go.Proofs.Tryz.prog [] 199 F199 := denF_ok (G_ok []) tabT_ok mixedT e199 Go.Proofs.Tryz.func199 (by kernel_rfl)
theorem e207 : F207 = denF tabT G [0, 1, 3] 2 Go.Proofs.Tryz.f207 := by kernel_rfl
theorem k207 : FnOk Go.Proofs.Tryz.prog [] 207 F207 := denF_ok (G_ok []) tabT_ok mixedT e207 Go.Proofs.Tryz.func207 (by kernel_rfl)
theorem e246 : F246 = denF tabT G [0, 1, 4] 2 Go.Proofs.Tryz.f246 := by kernel_rfl
theorem k246 : FnOk Go.Proofs.Tryz.prog [] 246 F246 := denF_ok (G_ok []) tabT_ok mixedT e246 Go.Proofs.Tryz.func246 (by kernel_rfl)
theorem e254 : F254 = denF tabT G [0, 1, 4] 2 Go.Proofs.Tryz.f254 := by kernel_rfl
theorem k254 : FnOk Go.Proofs.Tryz.prog [] 254 F254 := denF_ok (G_ok []) tabT_ok mixedT e254 Go.Proofs.Tryz.func254 (by kernel_rfl)
theorem e261 : F261 = denF tabT G [0, 1, 4, 5, 6, 7, 8, 9, 10, 11, 42, 43] 2 Go.Proofs.Tryz.f261 := by kernel_rfl
theorem k261 : FnOk Go.Proofs.Tryz.prog [] 261 F261 := denF_ok (G_ok []) tabT_ok mixedT e261 Go.Proofs.Tryz.func261 (by kernel_rfl)
theorem e272 : F272 = denF tabT G [0, 1, 2, 3, 4] 2 Go.Proofs.Tryz.f272 := by kernel_rfl
theorem k272 : FnOk Go.Proofs.Tryz.prog [] 272 F272 := denF_ok (G_ok []) tabT_ok mixedT e272 Go.Proofs.Tryz.func272 (by kernel_rfl)
theorem e302 : F302 = denF tabT G [0, 1, 2, 3, 4, 10, 11, 12, 13, 14, 15, 16, 17, 18, 19, 20] 5 Go.Proofs.Tryz.f302 := by kernel_rfl
theorem k302 : FnOk Go.Proofs.Tryz.prog [] 302 F302 := denF_ok (G_ok []) tabT_ok mixedT e302 Go.Proofs.Tryz.func302 (by kernel_rfl)
theorem e313 : F313 = denF tabT G [0, 1, 2, 6, 7, 8, 9, 10, 11, 12, 13, 15, 16, 17, 85, 99, 100, 101] 3 Go.Proofs.Tryz.f313 := by kernel_rfl
theorem k313 : FnOk Go.Proofs.Tryz.prog [] 313 F313 := denF_ok (G_ok []) tabT_ok mixedT e313 Go.Proofs.Tryz.func313 (by kernel_rfl)
theorem e352 : F352 = denF tabT G [0, 1, 2, 6, 7] 3 Go.Proofs.Tryz.f352 := by kernel_rfl
theorem k352 : FnOk Go.Proofs.Tryz.prog [] 352 F352 := denF_ok (G_ok []) tabT_ok mixedT e352 Go.Proofs.Tryz.func352 (by kernel_rfl)
theorem e382 : F382 = denF tabT G [0, 1, 4, 5, 6, 7, 8, 9, 10, 11, 12, 13] 2 Go.Proofs.Tryz.f382 := by kernel_rfl
theorem k382 : FnOk Go.Proofs.Tryz.prog [] 382 F382 := denF_ok (G_ok []) tabT_ok mixedT e382 Go.Proofs.Tryz.func382 (by kernel_rfl)
theorem e462 : F462 = denF tabT G [0, 2] 1 Go.Proofs.Tryz.f462 := by kernel_rfl
theorem k462 : FnOk Go.Proofs.Tryz.prog [] 462 F462 := denF_ok (G_ok []) tabT_ok mixedT e462 Go.Proofs.Tryz.func462 (by kernel_rfl)
end Go.Proofs.YtmgigdklcaepdaaGreatDoor.Ax
