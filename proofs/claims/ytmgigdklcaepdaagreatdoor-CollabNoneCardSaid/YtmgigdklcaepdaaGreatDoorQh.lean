/-
  Each of these functions is what the translation's text means. Printed by a program.
-/
import Derived.Test.YtmgigdklcaepdaaGreatDoorUb
import Derived.Test.YtmgigdklcaepdaaGreatDoorGa
import Derived.Test.YtmgigdklcaepdaaGreatDoorGb
set_option linter.unusedVariables false
set_option linter.unusedSimpArgs false
namespace Go.Proofs.YtmgigdklcaepdaaGreatDoor.Ax
set_option linter.unusedVariables false
set_option maxRecDepth 100000
theorem e8 : F8 = denF tabT G [0, 1, 4] 2 Go.Proofs.Tryz.f8 := by kernel_rfl
theorem k8 : FnOk Go.Proofs.Tryz.prog [] 8 F8 := denF_ok (G_ok []) tabT_ok mixedT e8 Go.Proofs.Tryz.func8 (by kernel_rfl)
theorem e12 : F12 = denF tabT G [0, 2] 1 Go.Proofs.Tryz.f12 := by kernel_rfl
theorem k12 : FnOk Go.Proofs.Tryz.prog [] 12 F12 := denF_ok (G_ok []) tabT_ok mixedT e12 Go.Proofs.Tryz.func12 (by kernel_rfl)
theorem e16 : F16 = denF tabT G [0, 2] 1 Go.Proofs.Tryz.f16 := by kernel_rfl
theorem k16 : FnOk Go.Proofs.Tryz.prog [] 16 F16 := denF_ok (G_ok []) tabT_ok mixedT e16 Go.Proofs.Tryz.func16 (by kernel_rfl)
theorem e23 : F23 = denF tabT G [0, 2, 3] 1 Go.Proofs.Tryz.f23 := by kernel_rfl
theorem k23 : FnOk Go.Proofs.Tryz.prog [] 23 F23 := denF_ok (G_ok []) tabT_ok mixedT e23 Go.Proofs.Tryz.func23 (by kernel_rfl)
theorem e27 : F27 = denF tabT G [0, 1, 4, 5, 6, 7, 9, 11, 14, 15, 16, 31, 44, 52, 53, 54] 2 Go.Proofs.Tryz.f27 := by kernel_rfl
theorem k27 : FnOk Go.Proofs.Tryz.prog [] 27 F27 := denF_ok (G_ok []) tabT_ok mixedT e27 Go.Proofs.Tryz.func27 (by kernel_rfl)
theorem e31 : F31 = denF tabT G [0, 1, 3, 4] 2 Go.Proofs.Tryz.f31 := by kernel_rfl
theorem k31 : FnOk Go.Proofs.Tryz.prog [] 31 F31 := denF_ok (G_ok []) tabT_ok mixedT e31 Go.Proofs.Tryz.func31 (by kernel_rfl)
theorem e35 : F35 = denF tabT G [0] 0 Go.Proofs.Tryz.f35 := by kernel_rfl
theorem k35 : FnOk Go.Proofs.Tryz.prog [] 35 F35 := denF_ok (G_ok []) tabT_ok mixedT e35 Go.Proofs.Tryz.func35 (by kernel_rfl)
theorem e39 : F39 = denF tabT G [0, 2] 1 Go.Proofs.Tryz.f39 := by kernel_rfl
theorem k39 : FnOk Go.Proofs.Tryz.prog [] 39 F39 := denF_ok (G_ok []) tabT_ok mixedT e39 Go.Proofs.Tryz.func39 (by kernel_rfl)
theorem e43 : F43 = denF tabT G [0, 1, 4] 2 Go.Proofs.Tryz.f43 := by kernel_rfl
theorem k43 : FnOk Go.Proofs.Tryz.prog [] 43 F43 := denF_ok (G_ok []) tabT_ok mixedT e43 Go.Proofs.Tryz.func43 (by kernel_rfl)
theorem e49 : F49 = denF tabT G [0] 1 Go.Proofs.Tryz.f49 := by kernel_rfl
theorem k49 : FnOk Go.Proofs.Tryz.prog [] 49 F49 := denF_ok (G_ok []) tabT_ok mixedT e49 Go.Proofs.Tryz.func49 (by kernel_rfl)
theorem e54 : F54 = denF tabT G [0, 1, 2, 3, 5, 11, 12, 13] 1 Go.Proofs.Tryz.f54 := by kernel_rfl
theorem k54 : FnOk Go.Proofs.Tryz.prog [] 54 F54 := denF_ok (G_ok []) tabT_ok mixedT e54 Go.Proofs.Tryz.func54 (by kernel_rfl)
theorem e63 : F63 = denF tabT G [0] 1 Go.Proofs.Tryz.f63 := by kernel_rfl
theorem k63 : FnOk Go.Proofs.Tryz.prog [] 63 F63 := denF_ok (G_ok []) tabT_ok mixedT e63 Go.Proofs.Tryz.func63 (by kernel_rfl)
theorem e67 : F67 = denF tabT G [0, 1, 4] 2 Go.Proofs.Tryz.f67 := by kernel_rfl
theorem k67 : FnOk Go.Proofs.Tryz.prog [] 67 F67 := denF_ok (G_ok []) tabT_ok mixedT e67 Go.Proofs.Tryz.func67 (by kernel_rfl)
theorem e71 : F71 = denF tabT G [0, 1, 2, 3, 6, 8] 3 Go.Proofs.Tryz.f71 := by kernel_rfl
theorem k71 : FnOk Go.Proofs.Tryz.prog [] 71 F71 := denF_ok (G_ok []) tabT_ok mixedT e71 Go.Proofs.Tryz.func71 (by kernel_rfl)
theorem e76 : F76 = denF tabT G [0, 2] 1 Go.Proofs.Tryz.f76 := by kernel_rfl
theorem k76 : FnOk Go.Proofs.Tryz.prog [] 76 F76 := denF_ok (G_ok []) tabT_ok mixedT e76 Go.Proofs.Tryz.func76 (by kernel_rfl)
theorem e80 : F80 = denF tabT G [0, 2, 3, 4, 5] 1 Go.Proofs.Tryz.f80 := by kernel_rfl
theorem k80 : FnOk Go.Proofs.Tryz.prog [] 80 F80 := denF_ok (G_ok []) tabT_ok mixedT e80 Go.Proofs.Tryz.func80 (by kernel_rfl)
theorem e84 : F84 = denF tabT G [0, 1, 2, 6, 7, 8, 10, 11, 12, 14, 15, 16, 19, 20, 21, 25, 26, 27] 3 Go.Proofs.Tryz.f84 := by kernel_rfl
theorem k84 : FnOk Go.Proofs.Tryz.prog [] 84 F84 := denF_ok (G_ok []) tabT_ok mixedT e84 Go.Proofs.Tryz.func84 (by kernel_rfl)
theorem e88 : F88 = denF tabT G [0, 1, 3, 4, 5] 2 Go.Proofs.Tryz.f88 := by kernel_rfl
theorem k88 : FnOk Go.Proofs.Tryz.prog [] 88 F88 := denF_ok (G_ok []) tabT_ok mixedT e88 Go.Proofs.Tryz.func88 (by kernel_rfl)
theorem e92 : F92 = denF tabT G [0, 1, 3] 2 Go.Proofs.Tryz.f92 := by kernel_rfl
theorem k92 : FnOk Go.Proofs.Tryz.prog [] 92 F92 := denF_ok (G_ok []) tabT_ok mixedT e92 Go.Proofs.Tryz.func92 (by kernel_rfl)
theorem e96 : F96 = denF tabT G [0, 1, 4] 2 Go.Proofs.Tryz.f96 := by kernel_rfl
theorem k96 : FnOk Go.Proofs.Tryz.prog [] 96 F96 := denF_ok (G_ok []) tabT_ok mixedT e96 Go.Proofs.Tryz.func96 (by kernel_rfl)
theorem e101 : F101 = denF tabT G [0, 1, 2] 3 Go.Proofs.Tryz.f101 := by kernel_rfl
theorem k101 : FnOk Go.Proofs.Tryz.prog [] 101 F101 := denF_ok (G_ok []) tabT_ok mixedT e101 Go.Proofs.Tryz.func101 (by kernel_rfl)
theorem e105 : F105 = denF tabT G [0, 1, 3, 4, 6, 7, 8, 10, 11, 65, 66, 67, 85, 86, 87] 2 Go.Proofs.Tryz.f105 := by kernel_rfl
theorem k105 : FnOk Go.Proofs.Tryz.prog [] 105 F105 := denF_ok (G_ok []) tabT_ok mixedT e105 Go.Proofs.Tryz.func105 (by kernel_rfl)
theorem e112 : F112 = denF tabT G [0, 2] 1 Go.Proofs.Tryz.f112 := by kernel_rfl
theorem k112 : FnOk Go.Proofs.Tryz.prog [] 112 F112 := denF_ok (G_ok []) tabT_ok mixedT e112 Go.Proofs.Tryz.func112 (by kernel_rfl)
theorem e116 : F116 = denF tabT G [0, 1, 4] 2 Go.Proofs.Tryz.f116 := by kernel_rfl
theorem k116 : FnOk Go.Proofs.Tryz.prog [] 116 F116 := denF_ok (G_ok []) tabT_ok mixedT e116 Go.Proofs.Tryz.func116 (by kernel_rfl)
theorem e127 : F127 = denF tabT G [0, 2, 3, 5, 7, 12, 13, 14, 20, 21, 22] 1 Go.Proofs.Tryz.f127 := by kernel_rfl
theorem k127 : FnOk Go.Proofs.Tryz.prog [] 127 F127 := denF_ok (G_ok []) tabT_ok mixedT e127 Go.Proofs.Tryz.func127 (by kernel_rfl)
theorem e132 : F132 = denF tabT G [0, 1, 2, 3] 2 Go.Proofs.Tryz.f132 := by kernel_rfl
theorem k132 : FnOk Go.Proofs.Tryz.prog [] 132 F132 := denF_ok (G_ok []) tabT_ok mixedT e132 Go.Proofs.Tryz.func132 (by kernel_rfl)
theorem e140 : F140 = denF tabT G [0, 1, 4] 2 Go.Proofs.Tryz.f140 := by kernel_rfl
theorem k140 : FnOk Go.Proofs.Tryz.prog [] 140 F140 := denF_ok (G_ok []) tabT_ok mixedT e140 Go.Proofs.Tryz.func140 (by kernel_rfl)
theorem e144 : F144 = denF tabT G [0, 1, 2, 3, 4, 8] 4 Go.Proofs.Tryz.f144 := by kernel_rfl
theorem k144 : FnOk Go.Proofs.Tryz.prog [] 144 F144 := denF_ok (G_ok []) tabT_ok mixedT e144 Go.Proofs.Tryz.func144 (by kernel_rfl)
theorem e150 : F150 = denF tabT G [0, 2, 4, 6, 7, 8, 9, 10, 45] 1 Go.Proofs.Tryz.f150 := by kernel_rfl
theorem k150 : FnOk Go.Proofs.Tryz.prog [] 150 F150 := denF_ok (G_ok []) tabT_ok mixedT e150 Go.Proofs.Tryz.func150 (by kernel_rfl)
theorem e154 : F154 = denF tabT G [0, 2, 3] 1 Go.Proofs.Tryz.f154 := by kernel_rfl
theorem k154 : FnOk Go.Proofs.Tryz.prog [] 154 F154 := denF_ok (G_ok []) tabT_ok mixedT e154 Go.Proofs.Tryz.func154 (by kernel_rfl)
theorem e161 : F161 = denF tabT G [0, 1, 2, 6, 7] 3 Go.Proofs.Tryz.f161 := by kernel_rfl
theorem k161 : FnOk Go.Proofs.Tryz.prog [] 161 F161 := denF_ok (G_ok []) tabT_ok mixedT e161 Go.Proofs.Tryz.func161 (by kernel_rfl)
theorem e180 : F180 = denF tabT G [0, 2, 3, 4, 6] 1 Go.Proofs.Tryz.f180 := by kernel_rfl
theorem k180 : FnOk Go.Proofs.Tryz.prog [] 180 F180 := denF_ok (G_ok []) tabT_ok mixedT e180 Go.Proofs.Tryz.func180 (by kernel_rfl)
theorem e184 : F184 = denF tabT G [0, 1, 4, 5, 6, 8] 2 Go.Proofs.Tryz.f184 := by kernel_rfl
theorem k184 : FnOk Go.Proofs.Tryz.prog [] 184 F184 := denF_ok (G_ok []) tabT_ok mixedT e184 Go.Proofs.Tryz.func184 (by kernel_rfl)
theorem e195 : F195 = denF tabT G [0, 2] 1 Go.Proofs.Tryz.f195 := by kernel_rfl
theorem k195 : FnOk Go.Proofs.Tryz.prog [] 195 F195 := denF_ok (G_ok []) tabT_ok mixedT e195 Go.Proofs.Tryz.func195 (by kernel_rfl)
theorem e203 : F203 = denF tabT G [0, 1, 4, 5, 6, 7, 14] 2 Go.Proofs.Tryz.f203 := by kernel_rfl
theorem k203 : FnOk Go.Proofs.Tryz.prog [] 203 F203 := denF_ok (G_ok []) tabT_ok mixedT e203 Go.Proofs.Tryz.func203 (by kernel_rfl)
theorem e245 : F245 = denF tabT G [0, 2] 1 Go.Proofs.Tryz.f245 := by kernel_rfl
theorem k245 : FnOk Go.Proofs.Tryz.prog [] 245 F245 := denF_ok (G_ok []) tabT_ok mixedT e245 Go.Proofs.Tryz.func245 (by kernel_rfl)
theorem e258 : F258 = denF tabT G [0, 1, 4, 5, 6] 2 Go.Proofs.Tryz.f258 := by kernel_rfl
theorem k258 : FnOk Go.Proofs.Tryz.prog [] 258 F258 := denF_ok (G_ok []) tabT_ok mixedT e258 Go.Proofs.Tryz.func258 (by kernel_rfl)
theorem e272 : F272 = denF tabT G [0, 1, 2, 3, 4] 2 Go.Proofs.Tryz.f272 := by kernel_rfl
theorem k272 : FnOk Go.Proofs.Tryz.prog [] 272 F272 := denF_ok (G_ok []) tabT_ok mixedT e272 Go.Proofs.Tryz.func272 (by kernel_rfl)
theorem e301 : F301 = denF tabT G [0, 2] 1 Go.Proofs.Tryz.f301 := by kernel_rfl
theorem k301 : FnOk Go.Proofs.Tryz.prog [] 301 F301 := denF_ok (G_ok []) tabT_ok mixedT e301 Go.Proofs.Tryz.func301 (by kernel_rfl)
theorem e313 : F313 = denF tabT G [0, 1, 2, 6, 7, 8, 9, 10, 11, 12, 13, 15, 16, 17, 85, 99, 100, 101] 3 Go.Proofs.Tryz.f313 := by kernel_rfl
theorem k313 : FnOk Go.Proofs.Tryz.prog [] 313 F313 := denF_ok (G_ok []) tabT_ok mixedT e313 Go.Proofs.Tryz.func313 (by kernel_rfl)
theorem e362 : F362 = denF tabT G [0, 2] 1 Go.Proofs.Tryz.f362 := by kernel_rfl
theorem k362 : FnOk Go.Proofs.Tryz.prog [] 362 F362 := denF_ok (G_ok []) tabT_ok mixedT e362 Go.Proofs.Tryz.func362 (by kernel_rfl)
theorem e410 : F410 = denF tabT G [0, 1, 4, 5, 6, 8] 2 Go.Proofs.Tryz.f410 := by kernel_rfl
theorem k410 : FnOk Go.Proofs.Tryz.prog [] 410 F410 := denF_ok (G_ok []) tabT_ok mixedT e410 Go.Proofs.Tryz.func410 (by kernel_rfl)
theorem e548 : F548 = denF tabT G [0, 2] 1 Go.Proofs.Tryz.f548 := by kernel_rfl
theorem k548 : FnOk Go.Proofs.Tryz.prog [] 548 F548 := denF_ok (G_ok []) tabT_ok mixedT e548 Go.Proofs.Tryz.func548 (by kernel_rfl)
end Go.Proofs.YtmgigdklcaepdaaGreatDoor.Ax
