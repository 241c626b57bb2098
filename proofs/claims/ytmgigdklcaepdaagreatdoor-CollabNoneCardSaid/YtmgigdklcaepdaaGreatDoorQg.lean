/-
  Each of these functions is what the translation's text means. Printed by a program.
-/
import Derived.Test.YtmgigdklcaepdaaGreatDoorUb
import Derived.Test.YtmgigdklcaepdaaGreatDoorGa
import Derived.Test.YtmgigdklcaepdaaGreatDoorGb
set_option linter.unusedVariables false
set_option linter.unusedSimpArgs false
namespace Go.Proofs.YtmgigdklcaepdaaGreatDoor.Ax
set_option linter.unusedVariables false
set_option maxRecDepth 100000
theorem e7 : F7 = denF tabT G [0, 2] 1 Go.Proofs.Tryz.f7 := by kernel_rfl
theorem k7 : FnOk Go.Proofs.Tryz.prog [] 7 F7 := denF_ok (G_ok []) tabT_ok mixedT e7 Go.Proofs.Tryz.func7 (by kernel_rfl)
theorem e11 : F11 = denF tabT G [0, 2] 1 Go.Proofs.Tryz.f11 := by kernel_rfl
theorem k11 : FnOk Go.Proofs.Tryz.prog [] 11 F11 := denF_ok (G_ok []) tabT_ok mixedT e11 Go.Proofs.Tryz.func11 (by kernel_rfl)
theorem e15 : F15 = denF tabT G [0, 1, 3, 4, 8, 9, 63] 2 Go.Proofs.Tryz.f15 := by kernel_rfl
theorem k15 : FnOk Go.Proofs.Tryz.prog [] 15 F15 := denF_ok (G_ok []) tabT_ok mixedT e15 Go.Proofs.Tryz.func15 (by kernel_rfl)
theorem e19 : F19 = denF tabT G [0, 2, 3, 5, 6, 7, 8] 1 Go.Proofs.Tryz.f19 := by kernel_rfl
theorem k19 : FnOk Go.Proofs.Tryz.prog [] 19 F19 := denF_ok (G_ok []) tabT_ok mixedT e19 Go.Proofs.Tryz.func19 (by kernel_rfl)
theorem e26 : F26 = denF tabT G [0, 1, 4, 5, 6, 7, 9, 22, 29, 30, 31, 41] 2 Go.Proofs.Tryz.f26 := by kernel_rfl
theorem k26 : FnOk Go.Proofs.Tryz.prog [] 26 F26 := denF_ok (G_ok []) tabT_ok mixedT e26 Go.Proofs.Tryz.func26 (by kernel_rfl)
theorem e30 : F30 = denF tabT G [0, 1, 3, 4, 5, 6] 2 Go.Proofs.Tryz.f30 := by kernel_rfl
theorem k30 : FnOk Go.Proofs.Tryz.prog [] 30 F30 := denF_ok (G_ok []) tabT_ok mixedT e30 Go.Proofs.Tryz.func30 (by kernel_rfl)
theorem e34 : F34 = denF tabT G [0, 1, 2, 3, 4, 5, 8, 30, 52, 53, 54] 1 Go.Proofs.Tryz.f34 := by kernel_rfl
theorem k34 : FnOk Go.Proofs.Tryz.prog [] 34 F34 := denF_ok (G_ok []) tabT_ok mixedT e34 Go.Proofs.Tryz.func34 (by kernel_rfl)
theorem e38 : F38 = denF tabT G [0, 1, 4, 5] 2 Go.Proofs.Tryz.f38 := by kernel_rfl
theorem k38 : FnOk Go.Proofs.Tryz.prog [] 38 F38 := denF_ok (G_ok []) tabT_ok mixedT e38 Go.Proofs.Tryz.func38 (by kernel_rfl)
theorem e42 : F42 = denF tabT G [0, 1, 3, 4, 5] 2 Go.Proofs.Tryz.f42 := by kernel_rfl
theorem k42 : FnOk Go.Proofs.Tryz.prog [] 42 F42 := denF_ok (G_ok []) tabT_ok mixedT e42 Go.Proofs.Tryz.func42 (by kernel_rfl)
theorem e48 : F48 = denF tabT G [0, 2] 1 Go.Proofs.Tryz.f48 := by kernel_rfl
theorem k48 : FnOk Go.Proofs.Tryz.prog [] 48 F48 := denF_ok (G_ok []) tabT_ok mixedT e48 Go.Proofs.Tryz.func48 (by kernel_rfl)
theorem e53 : F53 = denF tabT G [0, 2] 1 Go.Proofs.Tryz.f53 := by kernel_rfl
theorem k53 : FnOk Go.Proofs.Tryz.prog [] 53 F53 := denF_ok (G_ok []) tabT_ok mixedT e53 Go.Proofs.Tryz.func53 (by kernel_rfl)
theorem e62 : F62 = denF tabT G [0, 2, 3, 4, 5, 20] 1 Go.Proofs.Tryz.f62 := by kernel_rfl
theorem k62 : FnOk Go.Proofs.Tryz.prog [] 62 F62 := denF_ok (G_ok []) tabT_ok mixedT e62 Go.Proofs.Tryz.func62 (by kernel_rfl)
theorem e66 : F66 = denF tabT G [0, 1, 2, 4] 2 Go.Proofs.Tryz.f66 := by kernel_rfl
theorem k66 : FnOk Go.Proofs.Tryz.prog [] 66 F66 := denF_ok (G_ok []) tabT_ok mixedT e66 Go.Proofs.Tryz.func66 (by kernel_rfl)
theorem e70 : F70 = denF tabT G [0, 2] 1 Go.Proofs.Tryz.f70 := by kernel_rfl
theorem k70 : FnOk Go.Proofs.Tryz.prog [] 70 F70 := denF_ok (G_ok []) tabT_ok mixedT e70 Go.Proofs.Tryz.func70 (by kernel_rfl)
theorem e75 : F75 = denF tabT G [0, 2, 3, 5, 6, 7, 8, 16] 1 Go.Proofs.Tryz.f75 := by kernel_rfl
theorem k75 : FnOk Go.Proofs.Tryz.prog [] 75 F75 := denF_ok (G_ok []) tabT_ok mixedT e75 Go.Proofs.Tryz.func75 (by kernel_rfl)
theorem e79 : F79 = denF tabT G [0, 1, 4, 5] 2 Go.Proofs.Tryz.f79 := by kernel_rfl
theorem k79 : FnOk Go.Proofs.Tryz.prog [] 79 F79 := denF_ok (G_ok []) tabT_ok mixedT e79 Go.Proofs.Tryz.func79 (by kernel_rfl)
theorem e83 : F83 = denF tabT G [0, 2, 3, 4, 6, 19, 20, 21] 1 Go.Proofs.Tryz.f83 := by kernel_rfl
theorem k83 : FnOk Go.Proofs.Tryz.prog [] 83 F83 := denF_ok (G_ok []) tabT_ok mixedT e83 Go.Proofs.Tryz.func83 (by kernel_rfl)
theorem e87 : F87 = denF tabT G [0, 1, 4] 2 Go.Proofs.Tryz.f87 := by kernel_rfl
theorem k87 : FnOk Go.Proofs.Tryz.prog [] 87 F87 := denF_ok (G_ok []) tabT_ok mixedT e87 Go.Proofs.Tryz.func87 (by kernel_rfl)
theorem e91 : F91 = denF tabT G [0, 2, 3, 4] 1 Go.Proofs.Tryz.f91 := by kernel_rfl
theorem k91 : FnOk Go.Proofs.Tryz.prog [] 91 F91 := denF_ok (G_ok []) tabT_ok mixedT e91 Go.Proofs.Tryz.func91 (by kernel_rfl)
theorem e95 : F95 = denF tabT G [0, 2, 3, 4, 18, 19] 1 Go.Proofs.Tryz.f95 := by kernel_rfl
theorem k95 : FnOk Go.Proofs.Tryz.prog [] 95 F95 := denF_ok (G_ok []) tabT_ok mixedT e95 Go.Proofs.Tryz.func95 (by kernel_rfl)
theorem e100 : F100 = denF tabT G [0, 1, 4, 5, 6, 7] 2 Go.Proofs.Tryz.f100 := by kernel_rfl
theorem k100 : FnOk Go.Proofs.Tryz.prog [] 100 F100 := denF_ok (G_ok []) tabT_ok mixedT e100 Go.Proofs.Tryz.func100 (by kernel_rfl)
theorem e104 : F104 = denF tabT G [0, 1, 3, 4, 5, 6, 8] 2 Go.Proofs.Tryz.f104 := by kernel_rfl
theorem k104 : FnOk Go.Proofs.Tryz.prog [] 104 F104 := denF_ok (G_ok []) tabT_ok mixedT e104 Go.Proofs.Tryz.func104 (by kernel_rfl)
theorem e110 : F110 = denF tabT G [0, 1, 3, 4, 5, 6, 26, 58] 2 Go.Proofs.Tryz.f110 := by kernel_rfl
theorem k110 : FnOk Go.Proofs.Tryz.prog [] 110 F110 := denF_ok (G_ok []) tabT_ok mixedT e110 Go.Proofs.Tryz.func110 (by kernel_rfl)
theorem e115 : F115 = denF tabT G [0, 1, 4] 2 Go.Proofs.Tryz.f115 := by kernel_rfl
theorem k115 : FnOk Go.Proofs.Tryz.prog [] 115 F115 := denF_ok (G_ok []) tabT_ok mixedT e115 Go.Proofs.Tryz.func115 (by kernel_rfl)
theorem e126 : F126 = denF tabT G [0, 2] 1 Go.Proofs.Tryz.f126 := by kernel_rfl
theorem k126 : FnOk Go.Proofs.Tryz.prog [] 126 F126 := denF_ok (G_ok []) tabT_ok mixedT e126 Go.Proofs.Tryz.func126 (by kernel_rfl)
theorem e131 : F131 = denF tabT G [0, 1, 2, 3, 4, 14, 42, 78] 1 Go.Proofs.Tryz.f131 := by kernel_rfl
theorem k131 : FnOk Go.Proofs.Tryz.prog [] 131 F131 := denF_ok (G_ok []) tabT_ok mixedT e131 Go.Proofs.Tryz.func131 (by kernel_rfl)
theorem k135 : FnOk Go.Proofs.Tryz.prog [] 135 F135 := mapsClone_ok Go.Proofs.Tryz.func135 (by kernel_rfl) (by kernel_rfl) (by kernel_rfl) (by kernel_rfl)
theorem e143 : F143 = denF tabT G [0, 2] 1 Go.Proofs.Tryz.f143 := by kernel_rfl
theorem k143 : FnOk Go.Proofs.Tryz.prog [] 143 F143 := denF_ok (G_ok []) tabT_ok mixedT e143 Go.Proofs.Tryz.func143 (by kernel_rfl)
theorem e147 : F147 = denF tabT G [0, 1, 4] 2 Go.Proofs.Tryz.f147 := by kernel_rfl
theorem k147 : FnOk Go.Proofs.Tryz.prog [] 147 F147 := denF_ok (G_ok []) tabT_ok mixedT e147 Go.Proofs.Tryz.func147 (by kernel_rfl)
theorem e153 : F153 = denF tabT G [0, 2] 1 Go.Proofs.Tryz.f153 := by kernel_rfl
theorem k153 : FnOk Go.Proofs.Tryz.prog [] 153 F153 := denF_ok (G_ok []) tabT_ok mixedT e153 Go.Proofs.Tryz.func153 (by kernel_rfl)
theorem e158 : F158 = denF tabT G [0] 1 Go.Proofs.Tryz.f158 := by kernel_rfl
theorem k158 : FnOk Go.Proofs.Tryz.prog [] 158 F158 := denF_ok (G_ok []) tabT_ok mixedT e158 Go.Proofs.Tryz.func158 (by kernel_rfl)
theorem e167 : F167 = denF tabT G [0, 1, 2, 3, 6, 8] 3 Go.Proofs.Tryz.f167 := by kernel_rfl
theorem k167 : FnOk Go.Proofs.Tryz.prog [] 167 F167 := denF_ok (G_ok []) tabT_ok mixedT e167 Go.Proofs.Tryz.func167 (by kernel_rfl)
theorem e183 : F183 = denF tabT G [0, 1, 4, 5, 6, 8] 2 Go.Proofs.Tryz.f183 := by kernel_rfl
theorem k183 : FnOk Go.Proofs.Tryz.prog [] 183 F183 := denF_ok (G_ok []) tabT_ok mixedT e183 Go.Proofs.Tryz.func183 (by kernel_rfl)
theorem e193 : F193 = denF tabT G [0, 2] 1 Go.Proofs.Tryz.f193 := by kernel_rfl
theorem k193 : FnOk Go.Proofs.Tryz.prog [] 193 F193 := denF_ok (G_ok []) tabT_ok mixedT e193 Go.Proofs.Tryz.func193 (by kernel_rfl)
theorem e201 : F201 = denF tabT G [0, 2, 3, 4, 5, 6, 7, 8, 9] 1 Go.Proofs.Tryz.f201 := by kernel_rfl
theorem k201 : FnOk Go.Proofs.Tryz.prog [] 201 F201 := denF_ok (G_ok []) tabT_ok mixedT e201 Go.Proofs.Tryz.func201 (by kernel_rfl)
theorem e215 : F215 = denF tabT G [0, 1, 2] 3 Go.Proofs.Tryz.f215 := by kernel_rfl
theorem k215 : FnOk Go.Proofs.Tryz.prog [] 215 F215 := denF_ok (G_ok []) tabT_ok mixedT e215 Go.Proofs.Tryz.func215 (by kernel_rfl)
theorem e254 : F254 = denF tabT G [0, 1, 4] 2 Go.Proofs.Tryz.f254 := by kernel_rfl
theorem k254 : FnOk Go.Proofs.Tryz.prog [] 254 F254 := denF_ok (G_ok []) tabT_ok mixedT e254 Go.Proofs.Tryz.func254 (by kernel_rfl)
theorem e270 : F270 = denF tabT G [0, 1, 4, 5, 12, 13] 2 Go.Proofs.Tryz.f270 := by kernel_rfl
theorem k270 : FnOk Go.Proofs.Tryz.prog [] 270 F270 := denF_ok (G_ok []) tabT_ok mixedT e270 Go.Proofs.Tryz.func270 (by kernel_rfl)
theorem e300 : F300 = denF tabT G [0, 1, 2, 3, 8, 9, 10, 11, 12, 13, 14, 15, 16, 17, 18] 4 Go.Proofs.Tryz.f300 := by kernel_rfl
theorem k300 : FnOk Go.Proofs.Tryz.prog [] 300 F300 := denF_ok (G_ok []) tabT_ok mixedT e300 Go.Proofs.Tryz.func300 (by kernel_rfl)
theorem e312 : F312 = denF tabT G [0, 1, 4, 5, 6, 7] 2 Go.Proofs.Tryz.f312 := by kernel_rfl
theorem k312 : FnOk Go.Proofs.Tryz.prog [] 312 F312 := denF_ok (G_ok []) tabT_ok mixedT e312 Go.Proofs.Tryz.func312 (by kernel_rfl)
theorem e352 : F352 = denF tabT G [0, 1, 2, 6, 7] 3 Go.Proofs.Tryz.f352 := by kernel_rfl
theorem k352 : FnOk Go.Proofs.Tryz.prog [] 352 F352 := denF_ok (G_ok []) tabT_ok mixedT e352 Go.Proofs.Tryz.func352 (by kernel_rfl)
theorem e382 : F382 = denF tabT G [0, 1, 4, 5, 6, 7, 8, 9, 10, 11, 12, 13] 2 Go.Proofs.Tryz.f382 := by kernel_rfl
theorem k382 : FnOk Go.Proofs.Tryz.prog [] 382 F382 := denF_ok (G_ok []) tabT_ok mixedT e382 Go.Proofs.Tryz.func382 (by kernel_rfl)
theorem k472 : FnOk Go.Proofs.Tryz.prog [] 472 F472 := indexByte_ok Go.Proofs.Tryz.func472 (by kernel_rfl) (by kernel_rfl) (by kernel_rfl) (by kernel_rfl)
end Go.Proofs.YtmgigdklcaepdaaGreatDoor.Ax
