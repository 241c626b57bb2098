/-
  Each of these functions is what the translation's text means. Printed by a program.
-/
import Derived.Test.YtmgigdklcaepdaaGreatDoorTa
import Derived.Test.YtmgigdklcaepdaaGreatDoorFa
import Derived.Test.YtmgigdklcaepdaaGreatDoorFb
set_option linter.unusedVariables false
set_option linter.unusedSimpArgs false
namespace Go.Proofs.YtmgigdklcaepdaaGreatDoor.Ax
set_option linter.unusedVariables false
set_option maxRecDepth 100000
theorem e5 : F5 = denF tabT G [0, 2, 3, 4, 5] 1 Go.Proofs.Tryz.f5 := by kernel_rfl
theorem k5 : FnOk Go.Proofs.Tryz.prog [] 5 F5 := denF_ok (G_ok []) tabT_ok mixedT e5 Go.Proofs.Tryz.func5 (by kernel_rfl)
theorem e9 : F9 = denF tabT G [0, 1, 4, 5, 6, 7, 9, 31, 90, 91, 92] 2 Go.Proofs.Tryz.f9 := by kernel_rfl
theorem k9 : FnOk Go.Proofs.Tryz.prog [] 9 F9 := denF_ok (G_ok []) tabT_ok mixedT e9 Go.Proofs.Tryz.func9 (by kernel_rfl)
theorem e19 : F19 = denF tabT G [0, 2, 3, 5, 6, 7, 8] 1 Go.Proofs.Tryz.f19 := by kernel_rfl
theorem k19 : FnOk Go.Proofs.Tryz.prog [] 19 F19 := denF_ok (G_ok []) tabT_ok mixedT e19 Go.Proofs.Tryz.func19 (by kernel_rfl)
theorem e23 : F23 = denF tabT G [0, 2, 3] 1 Go.Proofs.Tryz.f23 := by kernel_rfl
theorem k23 : FnOk Go.Proofs.Tryz.prog [] 23 F23 := denF_ok (G_ok []) tabT_ok mixedT e23 Go.Proofs.Tryz.func23 (by kernel_rfl)
theorem e27 : F27 = denF tabT G [0, 1, 4, 5, 6, 7, 9, 11, 14, 15, 16, 31, 44, 52, 53, 54] 2 Go.Proofs.Tryz.f27 := by kernel_rfl
theorem k27 : FnOk Go.Proofs.Tryz.prog [] 27 F27 := denF_ok (G_ok []) tabT_ok mixedT e27 Go.Proofs.Tryz.func27 (by kernel_rfl)
theorem e32 : F32 = denF tabT G [0, 2] 1 Go.Proofs.Tryz.f32 := by kernel_rfl
theorem k32 : FnOk Go.Proofs.Tryz.prog [] 32 F32 := denF_ok (G_ok []) tabT_ok mixedT e32 Go.Proofs.Tryz.func32 (by kernel_rfl)
theorem e53 : F53 = denF tabT G [0, 2] 1 Go.Proofs.Tryz.f53 := by kernel_rfl
theorem k53 : FnOk Go.Proofs.Tryz.prog [] 53 F53 := denF_ok (G_ok []) tabT_ok mixedT e53 Go.Proofs.Tryz.func53 (by kernel_rfl)
theorem e57 : F57 = denF tabT G [0, 1, 4, 5, 7, 8, 9, 10] 2 Go.Proofs.Tryz.f57 := by kernel_rfl
theorem k57 : FnOk Go.Proofs.Tryz.prog [] 57 F57 := denF_ok (G_ok []) tabT_ok mixedT e57 Go.Proofs.Tryz.func57 (by kernel_rfl)
theorem e61 : F61 = denF tabT G [0, 1, 3, 4] 2 Go.Proofs.Tryz.f61 := by kernel_rfl
theorem k61 : FnOk Go.Proofs.Tryz.prog [] 61 F61 := denF_ok (G_ok []) tabT_ok mixedT e61 Go.Proofs.Tryz.func61 (by kernel_rfl)
theorem e65 : F65 = denF tabT G [0, 2] 1 Go.Proofs.Tryz.f65 := by kernel_rfl
theorem k65 : FnOk Go.Proofs.Tryz.prog [] 65 F65 := denF_ok (G_ok []) tabT_ok mixedT e65 Go.Proofs.Tryz.func65 (by kernel_rfl)
theorem e69 : F69 = denF tabT G [0, 1, 2, 4, 6, 7, 8] 1 Go.Proofs.Tryz.f69 := by kernel_rfl
theorem k69 : FnOk Go.Proofs.Tryz.prog [] 69 F69 := denF_ok (G_ok []) tabT_ok mixedT e69 Go.Proofs.Tryz.func69 (by kernel_rfl)
theorem e73 : F73 = denF tabT G [0, 1, 4, 5, 6, 41] 2 Go.Proofs.Tryz.f73 := by kernel_rfl
theorem k73 : FnOk Go.Proofs.Tryz.prog [] 73 F73 := denF_ok (G_ok []) tabT_ok mixedT e73 Go.Proofs.Tryz.func73 (by kernel_rfl)
theorem e78 : F78 = denF tabT G [0, 2] 1 Go.Proofs.Tryz.f78 := by kernel_rfl
theorem k78 : FnOk Go.Proofs.Tryz.prog [] 78 F78 := denF_ok (G_ok []) tabT_ok mixedT e78 Go.Proofs.Tryz.func78 (by kernel_rfl)
theorem e85 : F85 = denF tabT G [0, 1, 2, 6, 7, 8, 9] 3 Go.Proofs.Tryz.f85 := by kernel_rfl
theorem k85 : FnOk Go.Proofs.Tryz.prog [] 85 F85 := denF_ok (G_ok []) tabT_ok mixedT e85 Go.Proofs.Tryz.func85 (by kernel_rfl)
theorem e110 : F110 = denF tabT G [0, 1, 3, 4, 5, 6, 26, 58] 2 Go.Proofs.Tryz.f110 := by kernel_rfl
theorem k110 : FnOk Go.Proofs.Tryz.prog [] 110 F110 := denF_ok (G_ok []) tabT_ok mixedT e110 Go.Proofs.Tryz.func110 (by kernel_rfl)
theorem e115 : F115 = denF tabT G [0, 1, 4] 2 Go.Proofs.Tryz.f115 := by kernel_rfl
theorem k115 : FnOk Go.Proofs.Tryz.prog [] 115 F115 := denF_ok (G_ok []) tabT_ok mixedT e115 Go.Proofs.Tryz.func115 (by kernel_rfl)
theorem e123 : F123 = denF tabT G [0, 2, 3, 4, 5] 1 Go.Proofs.Tryz.f123 := by kernel_rfl
theorem k123 : FnOk Go.Proofs.Tryz.prog [] 123 F123 := denF_ok (G_ok []) tabT_ok mixedT e123 Go.Proofs.Tryz.func123 (by kernel_rfl)
theorem e127 : F127 = denF tabT G [0, 2, 3, 5, 7, 12, 13, 14, 20, 21, 22] 1 Go.Proofs.Tryz.f127 := by kernel_rfl
theorem k127 : FnOk Go.Proofs.Tryz.prog [] 127 F127 := denF_ok (G_ok []) tabT_ok mixedT e127 Go.Proofs.Tryz.func127 (by kernel_rfl)
theorem e132 : F132 = denF tabT G [0, 1, 2, 3] 2 Go.Proofs.Tryz.f132 := by kernel_rfl
theorem k132 : FnOk Go.Proofs.Tryz.prog [] 132 F132 := denF_ok (G_ok []) tabT_ok mixedT e132 Go.Proofs.Tryz.func132 (by kernel_rfl)
theorem e138 : F138 = denF tabT G [0, 1, 3, 4] 2 Go.Proofs.Tryz.f138 := by kernel_rfl
theorem k138 : FnOk Go.Proofs.Tryz.prog [] 138 F138 := denF_ok (G_ok []) tabT_ok mixedT e138 Go.Proofs.Tryz.func138 (by kernel_rfl)
theorem e145 : F145 = denF tabT G [0, 2, 3, 4, 6, 7, 12, 13, 51, 52, 53] 1 Go.Proofs.Tryz.f145 := by kernel_rfl
theorem k145 : FnOk Go.Proofs.Tryz.prog [] 145 F145 := denF_ok (G_ok []) tabT_ok mixedT e145 Go.Proofs.Tryz.func145 (by kernel_rfl)
theorem e167 : F167 = denF tabT G [0, 1, 2, 3, 6, 8] 3 Go.Proofs.Tryz.f167 := by kernel_rfl
theorem k167 : FnOk Go.Proofs.Tryz.prog [] 167 F167 := denF_ok (G_ok []) tabT_ok mixedT e167 Go.Proofs.Tryz.func167 (by kernel_rfl)
theorem e183 : F183 = denF tabT G [0, 1, 4, 5, 6, 8] 2 Go.Proofs.Tryz.f183 := by kernel_rfl
theorem k183 : FnOk Go.Proofs.Tryz.prog [] 183 F183 := denF_ok (G_ok []) tabT_ok mixedT e183 Go.Proofs.Tryz.func183 (by kernel_rfl)
theorem e190 : F190 = denF tabT G [0, 2, 3, 4, 5, 6, 7, 8, 9] 1 Go.Proofs.Tryz.f190 := by kernel_rfl
theorem k190 : FnOk Go.Proofs.Tryz.prog [] 190 F190 := denF_ok (G_ok []) tabT_ok mixedT e190 Go.Proofs.Tryz.func190 (by kernel_rfl)
theorem e196 : F196 = denF tabT G [0, 2] 1 Go.Proofs.Tryz.f196 := by kernel_rfl
theorem k196 : FnOk Go.Proofs.Tryz.prog [] 196 F196 := denF_ok (G_ok []) tabT_ok mixedT e196 Go.Proofs.Tryz.func196 (by kernel_rfl)
theorem e203 : F203 = denF tabT G [0, 1, 4, 5, 6, 7, 14] 2 Go.Proofs.Tryz.f203 := by kernel_rfl
theorem k203 : FnOk Go.Proofs.Tryz.prog [] 203 F203 := denF_ok (G_ok []) tabT_ok mixedT e203 Go.Proofs.Tryz.func203 (by kernel_rfl)
theorem e245 : F245 = denF tabT G [0, 2] 1 Go.Proofs.Tryz.f245 := by kernel_rfl
theorem k245 : FnOk Go.Proofs.Tryz.prog [] 245 F245 := denF_ok (G_ok []) tabT_ok mixedT e245 Go.Proofs.Tryz.func245 (by kernel_rfl)
theorem e253 : F253 = denF tabT G [0, 1, 2] 1 Go.Proofs.Tryz.f253 := by kernel_rfl
theorem k253 : FnOk Go.Proofs.Tryz.prog [] 253 F253 := denF_ok (G_ok []) tabT_ok mixedT e253 Go.Proofs.Tryz.func253 (by kernel_rfl)
theorem e260 : F260 = denF tabT G [0, 1, 2, 6, 7, 8, 9] 3 Go.Proofs.Tryz.f260 := by kernel_rfl
theorem k260 : FnOk Go.Proofs.Tryz.prog [] 260 F260 := denF_ok (G_ok []) tabT_ok mixedT e260 Go.Proofs.Tryz.func260 (by kernel_rfl)
theorem e270 : F270 = denF tabT G [0, 1, 4, 5, 12, 13] 2 Go.Proofs.Tryz.f270 := by kernel_rfl
theorem k270 : FnOk Go.Proofs.Tryz.prog [] 270 F270 := denF_ok (G_ok []) tabT_ok mixedT e270 Go.Proofs.Tryz.func270 (by kernel_rfl)
theorem e301 : F301 = denF tabT G [0, 2] 1 Go.Proofs.Tryz.f301 := by kernel_rfl
theorem k301 : FnOk Go.Proofs.Tryz.prog [] 301 F301 := denF_ok (G_ok []) tabT_ok mixedT e301 Go.Proofs.Tryz.func301 (by kernel_rfl)
theorem e312 : F312 = denF tabT G [0, 1, 4, 5, 6, 7] 2 Go.Proofs.Tryz.f312 := by kernel_rfl
theorem k312 : FnOk Go.Proofs.Tryz.prog [] 312 F312 := denF_ok (G_ok []) tabT_ok mixedT e312 Go.Proofs.Tryz.func312 (by kernel_rfl)
theorem e331 : F331 = denF tabT G [0, 1, 4] 2 Go.Proofs.Tryz.f331 := by kernel_rfl
theorem k331 : FnOk Go.Proofs.Tryz.prog [] 331 F331 := denF_ok (G_ok []) tabT_ok mixedT e331 Go.Proofs.Tryz.func331 (by kernel_rfl)
theorem e371 : F371 = denF tabT G [0, 1, 2, 3, 4, 6, 7, 8, 73, 74, 91, 92] 3 Go.Proofs.Tryz.f371 := by kernel_rfl
theorem k371 : FnOk Go.Proofs.Tryz.prog [] 371 F371 := denF_ok (G_ok []) tabT_ok mixedT e371 Go.Proofs.Tryz.func371 (by kernel_rfl)
theorem e434 : F434 = denF tabT G [0, 1, 4] 2 Go.Proofs.Tryz.f434 := by kernel_rfl
theorem k434 : FnOk Go.Proofs.Tryz.prog [] 434 F434 := denF_ok (G_ok []) tabT_ok mixedT e434 Go.Proofs.Tryz.func434 (by kernel_rfl)
end Go.Proofs.YtmgigdklcaepdaaGreatDoor.Ax
