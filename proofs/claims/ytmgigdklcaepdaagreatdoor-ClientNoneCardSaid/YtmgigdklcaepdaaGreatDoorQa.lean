/-
  Each of these functions is what the translation's text means. Printed by a program.
-/
import Derived.Test.YtmgigdklcaepdaaGreatDoorTa
import Derived.Test.YtmgigdklcaepdaaGreatDoorFa
import Derived.Test.YtmgigdklcaepdaaGreatDoorFb
set_option linter.unusedVariables false
set_option linter.unusedSimpArgs false
namespace Go.Proofs.YtmgigdklcaepdaaGreatDoor.Ax
set_option linter.unusedVariables false
set_option maxRecDepth 100000
theorem e3 : F3 = denF tabT G [0, 1, 2, 3, 4] 0 Go.Proofs.Tryz.f3 := by kernel_rfl
theorem k3 : FnOk Go.Proofs.Tryz.prog [] 3 F3 := denF_ok (G_ok []) tabT_ok mixedT e3 Go.Proofs.Tryz.func3 (by kernel_rfl)
theorem e8 : F8 = denF tabT G [0, 1, 4] 2 Go.Proofs.Tryz.f8 := by kernel_rfl
theorem k8 : FnOk Go.Proofs.Tryz.prog [] 8 F8 := denF_ok (G_ok []) tabT_ok mixedT e8 Go.Proofs.Tryz.func8 (by kernel_rfl)
theorem e12 : F12 = denF tabT G [0, 2] 1 Go.Proofs.Tryz.f12 := by kernel_rfl
theorem k12 : FnOk Go.Proofs.Tryz.prog [] 12 F12 := denF_ok (G_ok []) tabT_ok mixedT e12 Go.Proofs.Tryz.func12 (by kernel_rfl)
theorem e22 : F22 = denF tabT G [0, 1, 3, 4, 5] 2 Go.Proofs.Tryz.f22 := by kernel_rfl
theorem k22 : FnOk Go.Proofs.Tryz.prog [] 22 F22 := denF_ok (G_ok []) tabT_ok mixedT e22 Go.Proofs.Tryz.func22 (by kernel_rfl)
theorem e26 : F26 = denF tabT G [0, 1, 4, 5, 6, 7, 9, 22, 29, 30, 31, 41] 2 Go.Proofs.Tryz.f26 := by kernel_rfl
theorem k26 : FnOk Go.Proofs.Tryz.prog [] 26 F26 := denF_ok (G_ok []) tabT_ok mixedT e26 Go.Proofs.Tryz.func26 (by kernel_rfl)
theorem e30 : F30 = denF tabT G [0, 1, 3, 4, 5, 6] 2 Go.Proofs.Tryz.f30 := by kernel_rfl
theorem k30 : FnOk Go.Proofs.Tryz.prog [] 30 F30 := denF_ok (G_ok []) tabT_ok mixedT e30 Go.Proofs.Tryz.func30 (by kernel_rfl)
theorem e40 : F40 = denF tabT G [0, 1, 4] 2 Go.Proofs.Tryz.f40 := by kernel_rfl
theorem k40 : FnOk Go.Proofs.Tryz.prog [] 40 F40 := denF_ok (G_ok []) tabT_ok mixedT e40 Go.Proofs.Tryz.func40 (by kernel_rfl)
theorem e56 : F56 = denF tabT G [0, 1, 4, 5, 6] 2 Go.Proofs.Tryz.f56 := by kernel_rfl
theorem k56 : FnOk Go.Proofs.Tryz.prog [] 56 F56 := denF_ok (G_ok []) tabT_ok mixedT e56 Go.Proofs.Tryz.func56 (by kernel_rfl)
theorem e60 : F60 = denF tabT G [0, 2, 3, 4, 5, 6, 7, 8, 9] 1 Go.Proofs.Tryz.f60 := by kernel_rfl
theorem k60 : FnOk Go.Proofs.Tryz.prog [] 60 F60 := denF_ok (G_ok []) tabT_ok mixedT e60 Go.Proofs.Tryz.func60 (by kernel_rfl)
theorem e64 : F64 = denF tabT G [0, 2] 1 Go.Proofs.Tryz.f64 := by kernel_rfl
theorem k64 : FnOk Go.Proofs.Tryz.prog [] 64 F64 := denF_ok (G_ok []) tabT_ok mixedT e64 Go.Proofs.Tryz.func64 (by kernel_rfl)
theorem e68 : F68 = denF tabT G [0, 1, 2] 1 Go.Proofs.Tryz.f68 := by kernel_rfl
theorem k68 : FnOk Go.Proofs.Tryz.prog [] 68 F68 := denF_ok (G_ok []) tabT_ok mixedT e68 Go.Proofs.Tryz.func68 (by kernel_rfl)
theorem e72 : F72 = denF tabT G [0, 1, 2, 4, 5] 3 Go.Proofs.Tryz.f72 := by kernel_rfl
theorem k72 : FnOk Go.Proofs.Tryz.prog [] 72 F72 := denF_ok (G_ok []) tabT_ok mixedT e72 Go.Proofs.Tryz.func72 (by kernel_rfl)
theorem e76 : F76 = denF tabT G [0, 2] 1 Go.Proofs.Tryz.f76 := by kernel_rfl
theorem k76 : FnOk Go.Proofs.Tryz.prog [] 76 F76 := denF_ok (G_ok []) tabT_ok mixedT e76 Go.Proofs.Tryz.func76 (by kernel_rfl)
theorem e83 : F83 = denF tabT G [0, 2, 3, 4, 6, 19, 20, 21] 1 Go.Proofs.Tryz.f83 := by kernel_rfl
theorem k83 : FnOk Go.Proofs.Tryz.prog [] 83 F83 := denF_ok (G_ok []) tabT_ok mixedT e83 Go.Proofs.Tryz.func83 (by kernel_rfl)
theorem e96 : F96 = denF tabT G [0, 1, 4] 2 Go.Proofs.Tryz.f96 := by kernel_rfl
theorem k96 : FnOk Go.Proofs.Tryz.prog [] 96 F96 := denF_ok (G_ok []) tabT_ok mixedT e96 Go.Proofs.Tryz.func96 (by kernel_rfl)
theorem e114 : F114 = denF tabT G [0, 1, 4] 2 Go.Proofs.Tryz.f114 := by kernel_rfl
theorem k114 : FnOk Go.Proofs.Tryz.prog [] 114 F114 := denF_ok (G_ok []) tabT_ok mixedT e114 Go.Proofs.Tryz.func114 (by kernel_rfl)
theorem e122 : F122 = denF tabT G [0, 2, 3, 4, 5, 6, 75] 1 Go.Proofs.Tryz.f122 := by kernel_rfl
theorem k122 : FnOk Go.Proofs.Tryz.prog [] 122 F122 := denF_ok (G_ok []) tabT_ok mixedT e122 Go.Proofs.Tryz.func122 (by kernel_rfl)
theorem e126 : F126 = denF tabT G [0, 2] 1 Go.Proofs.Tryz.f126 := by kernel_rfl
theorem k126 : FnOk Go.Proofs.Tryz.prog [] 126 F126 := denF_ok (G_ok []) tabT_ok mixedT e126 Go.Proofs.Tryz.func126 (by kernel_rfl)
theorem e131 : F131 = denF tabT G [0, 1, 2, 3, 4, 14, 42, 78] 1 Go.Proofs.Tryz.f131 := by kernel_rfl
theorem k131 : FnOk Go.Proofs.Tryz.prog [] 131 F131 := denF_ok (G_ok []) tabT_ok mixedT e131 Go.Proofs.Tryz.func131 (by kernel_rfl)
theorem k135 : FnOk Go.Proofs.Tryz.prog [] 135 F135 := mapsClone_ok Go.Proofs.Tryz.func135 (by kernel_rfl) (by kernel_rfl) (by kernel_rfl) (by kernel_rfl)
theorem e144 : F144 = denF tabT G [0, 1, 2, 3, 4, 8] 4 Go.Proofs.Tryz.f144 := by kernel_rfl
theorem k144 : FnOk Go.Proofs.Tryz.prog [] 144 F144 := denF_ok (G_ok []) tabT_ok mixedT e144 Go.Proofs.Tryz.func144 (by kernel_rfl)
theorem e149 : F149 = denF tabT G [0, 1, 3, 4] 2 Go.Proofs.Tryz.f149 := by kernel_rfl
theorem k149 : FnOk Go.Proofs.Tryz.prog [] 149 F149 := denF_ok (G_ok []) tabT_ok mixedT e149 Go.Proofs.Tryz.func149 (by kernel_rfl)
theorem e182 : F182 = denF tabT G [0, 1, 4, 5, 7, 8] 2 Go.Proofs.Tryz.f182 := by kernel_rfl
theorem k182 : FnOk Go.Proofs.Tryz.prog [] 182 F182 := denF_ok (G_ok []) tabT_ok mixedT e182 Go.Proofs.Tryz.func182 (by kernel_rfl)
theorem e186 : F186 = denF tabT G [0, 1, 4, 5] 2 Go.Proofs.Tryz.f186 := by kernel_rfl
theorem k186 : FnOk Go.Proofs.Tryz.prog [] 186 F186 := denF_ok (G_ok []) tabT_ok mixedT e186 Go.Proofs.Tryz.func186 (by kernel_rfl)
theorem e195 : F195 = denF tabT G [0, 2] 1 Go.Proofs.Tryz.f195 := by kernel_rfl
theorem k195 : FnOk Go.Proofs.Tryz.prog [] 195 F195 := denF_ok (G_ok []) tabT_ok mixedT e195 Go.Proofs.Tryz.func195 (by kernel_rfl)
theorem e201 : F201 = denF tabT G [0, 2, 3, 4, 5, 6, 7, 8, 9] 1 Go.Proofs.Tryz.f201 := by kernel_rfl
theorem k201 : FnOk Go.Proofs.Tryz.prog [] 201 F201 := denF_ok (G_ok []) tabT_ok mixedT e201 Go.Proofs.Tryz.func201 (by kernel_rfl)
theorem e212 : F212 = denF tabT G [0, 1, 3, 4, 11] 2 Go.Proofs.Tryz.f212 := by kernel_rfl
theorem k212 : FnOk Go.Proofs.Tryz.prog [] 212 F212 := denF_ok (G_ok []) tabT_ok mixedT e212 Go.Proofs.Tryz.func212 (by kernel_rfl)
theorem e252 : F252 = denF tabT G [0, 1, 2, 3, 8] 1 Go.Proofs.Tryz.f252 := by kernel_rfl
theorem k252 : FnOk Go.Proofs.Tryz.prog [] 252 F252 := denF_ok (G_ok []) tabT_ok mixedT e252 Go.Proofs.Tryz.func252 (by kernel_rfl)
theorem e259 : F259 = denF tabT G [0, 2, 3, 5, 6] 1 Go.Proofs.Tryz.f259 := by kernel_rfl
theorem k259 : FnOk Go.Proofs.Tryz.prog [] 259 F259 := denF_ok (G_ok []) tabT_ok mixedT e259 Go.Proofs.Tryz.func259 (by kernel_rfl)
theorem e263 : F263 = denF tabT G [0, 2, 3, 4, 5, 6, 7, 9, 10, 11, 13, 22, 34, 35, 36, 70, 71, 72] 1 Go.Proofs.Tryz.f263 := by kernel_rfl
theorem k263 : FnOk Go.Proofs.Tryz.prog [] 263 F263 := denF_ok (G_ok []) tabT_ok mixedT e263 Go.Proofs.Tryz.func263 (by kernel_rfl)
theorem e300 : F300 = denF tabT G [0, 1, 2, 3, 8, 9, 10, 11, 12, 13, 14, 15, 16, 17, 18] 4 Go.Proofs.Tryz.f300 := by kernel_rfl
theorem k300 : FnOk Go.Proofs.Tryz.prog [] 300 F300 := denF_ok (G_ok []) tabT_ok mixedT e300 Go.Proofs.Tryz.func300 (by kernel_rfl)
theorem e308 : F308 = denF tabT G [0, 1, 4] 2 Go.Proofs.Tryz.f308 := by kernel_rfl
theorem k308 : FnOk Go.Proofs.Tryz.prog [] 308 F308 := denF_ok (G_ok []) tabT_ok mixedT e308 Go.Proofs.Tryz.func308 (by kernel_rfl)
theorem e321 : F321 = denF tabT G [0, 2, 3] 1 Go.Proofs.Tryz.f321 := by kernel_rfl
theorem k321 : FnOk Go.Proofs.Tryz.prog [] 321 F321 := denF_ok (G_ok []) tabT_ok mixedT e321 Go.Proofs.Tryz.func321 (by kernel_rfl)
theorem e363 : F363 = denF tabT G [0, 1, 2, 3, 8, 9] 4 Go.Proofs.Tryz.f363 := by kernel_rfl
theorem k363 : FnOk Go.Proofs.Tryz.prog [] 363 F363 := denF_ok (G_ok []) tabT_ok mixedT e363 Go.Proofs.Tryz.func363 (by kernel_rfl)
theorem e410 : F410 = denF tabT G [0, 1, 4, 5, 6, 8] 2 Go.Proofs.Tryz.f410 := by kernel_rfl
theorem k410 : FnOk Go.Proofs.Tryz.prog [] 410 F410 := denF_ok (G_ok []) tabT_ok mixedT e410 Go.Proofs.Tryz.func410 (by kernel_rfl)
theorem e548 : F548 = denF tabT G [0, 2] 1 Go.Proofs.Tryz.f548 := by kernel_rfl
theorem k548 : FnOk Go.Proofs.Tryz.prog [] 548 F548 := denF_ok (G_ok []) tabT_ok mixedT e548 Go.Proofs.Tryz.func548 (by kernel_rfl)
end Go.Proofs.YtmgigdklcaepdaaGreatDoor.Ax
