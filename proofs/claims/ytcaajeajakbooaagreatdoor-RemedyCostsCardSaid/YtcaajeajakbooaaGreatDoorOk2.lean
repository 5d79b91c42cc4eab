/-
  The functions of the abstract machine are the program's, part 2 (by the kernel).
-/
import Derived.Test.YtcaajeajakbooaaGreatDoorAmCode
import Derived.Test.YtcaajeajakbooaaGreatDoorIrT
import Derived.Test.YtcaajeajakbooaaGreatDoorOkD
import Derived.KernelRfl
import Derived.Test.YtcaajeajakbooaaGreatDoorProg
set_option linter.unusedVariables false
set_option linter.unusedSimpArgs false
namespace Go.Am
set_option maxRecDepth 100000
theorem o198 : OkF 198 f198 := ⟨Go.Proofs.Tryz.f198, Go.Proofs.Tryz.func198, by kernel_rfl⟩
theorem o199 : OkF 199 f199 := ⟨Go.Proofs.Tryz.f199, Go.Proofs.Tryz.func199, by kernel_rfl⟩
theorem o200 : OkF 200 f200 := ⟨Go.Proofs.Tryz.f200, Go.Proofs.Tryz.func200, by kernel_rfl⟩
theorem o201 : OkF 201 f201 := ⟨Go.Proofs.Tryz.f201, Go.Proofs.Tryz.func201, by kernel_rfl⟩
theorem o202 : OkF 202 f202 := ⟨Go.Proofs.Tryz.f202, Go.Proofs.Tryz.func202, by kernel_rfl⟩
theorem o203 : OkF 203 f203 := ⟨Go.Proofs.Tryz.f203, Go.Proofs.Tryz.func203, by kernel_rfl⟩
theorem o204 : OkF 204 f204 := ⟨Go.Proofs.Tryz.f204, Go.Proofs.Tryz.func204, by kernel_rfl⟩
theorem o205 : OkF 205 f205 := ⟨Go.Proofs.Tryz.f205, Go.Proofs.Tryz.func205, by kernel_rfl⟩
theorem o206 : OkF 206 f206 := ⟨Go.Proofs.Tryz.f206, Go.Proofs.Tryz.func206, by kernel_rfl⟩
theorem o207 : OkF 207 f207 := ⟨Go.Proofs.Tryz.f207, Go.Proofs.Tryz.func207, by kernel_rfl⟩
theorem o208 : OkF 208 f208 := ⟨Go.Proofs.Tryz.f208, Go.Proofs.Tryz.func208, by kernel_rfl⟩
theorem o209 : OkF 209 f209 := ⟨Go.Proofs.Tryz.f209, Go.Proofs.Tryz.func209, by kernel_rfl⟩
theorem o210 : OkF 210 f210 := ⟨Go.Proofs.Tryz.f210, Go.Proofs.Tryz.func210, by kernel_rfl⟩
theorem o211 : OkF 211 f211 := ⟨Go.Proofs.Tryz.f211, Go.Proofs.Tryz.func211, by kernel_rfl⟩
theorem o212 : OkF 212 f212 := ⟨Go.Proofs.Tryz.f212, Go.Proofs.Tryz.func212, by kernel_rfl⟩
theorem o213 : OkF 213 f213 := ⟨Go.Proofs.Tryz.f213, Go.Proofs.Tryz.func213, by kernel_rfl⟩
theorem o214 : OkF 214 f214 := ⟨Go.Proofs.Tryz.f214, Go.Proofs.Tryz.func214, by kernel_rfl⟩
theorem o215 : OkF 215 f215 := ⟨Go.Proofs.Tryz.f215, Go.Proofs.Tryz.func215, by kernel_rfl⟩
theorem o216 : OkF 216 f216 := ⟨Go.Proofs.Tryz.f216, Go.Proofs.Tryz.func216, by kernel_rfl⟩
theorem o217 : OkF 217 f217 := ⟨Go.Proofs.Tryz.f217, Go.Proofs.Tryz.func217, by kernel_rfl⟩
theorem o218 : OkF 218 f218 := ⟨Go.Proofs.Tryz.f218, Go.Proofs.Tryz.func218, by kernel_rfl⟩
theorem o219 : OkF 219 f219 := ⟨Go.Proofs.Tryz.f219, Go.Proofs.Tryz.func219, by kernel_rfl⟩
theorem o220 : OkF 220 f220 := ⟨Go.Proofs.Tryz.f220, Go.Proofs.Tryz.func220, by kernel_rfl⟩
theorem o221 : OkF 221 f221 := ⟨Go.Proofs.Tryz.f221, Go.Proofs.Tryz.func221, by kernel_rfl⟩
theorem o222 : OkF 222 f222 := ⟨Go.Proofs.Tryz.f222, Go.Proofs.Tryz.func222, by kernel_rfl⟩
theorem o223 : OkF 223 f223 := ⟨Go.Proofs.Tryz.f223, Go.Proofs.Tryz.func223, by kernel_rfl⟩
theorem o224 : OkF 224 f224 := ⟨Go.Proofs.Tryz.f224, Go.Proofs.Tryz.func224, by kernel_rfl⟩
theorem o225 : OkF 225 f225 := ⟨Go.Proofs.Tryz.f225, Go.Proofs.Tryz.func225, by kernel_rfl⟩
theorem o226 : OkF 226 f226 := ⟨Go.Proofs.Tryz.f226, Go.Proofs.Tryz.func226, by kernel_rfl⟩
theorem o227 : OkF 227 f227 := ⟨Go.Proofs.Tryz.f227, Go.Proofs.Tryz.func227, by kernel_rfl⟩
theorem o228 : OkF 228 f228 := ⟨Go.Proofs.Tryz.f228, Go.Proofs.Tryz.func228, by kernel_rfl⟩
theorem o229 : OkF 229 f229 := ⟨Go.Proofs.Tryz.f229, Go.Proofs.Tryz.func229, by kernel_rfl⟩
theorem o230 : OkF 230 f230 := ⟨Go.Proofs.Tryz.f230, Go.Proofs.Tryz.func230, by kernel_rfl⟩
theorem o231 : OkF 231 f231 := ⟨Go.Proofs.Tryz.f231, Go.Proofs.Tryz.func231, by kernel_rfl⟩
theorem o232 : OkF 232 f232 := ⟨Go.Proofs.Tryz.f232, Go.Proofs.Tryz.func232, by kernel_rfl⟩
theorem o233 : OkF 233 f233 := ⟨Go.Proofs.Tryz.f233, Go.Proofs.Tryz.func233, by kernel_rfl⟩
theorem o235 : OkF 235 f235 := ⟨Go.Proofs.Tryz.f235, Go.Proofs.Tryz.func235, by kernel_rfl⟩
theorem o236 : OkF 236 f236 := ⟨Go.Proofs.Tryz.f236, Go.Proofs.Tryz.func236, by kernel_rfl⟩
theorem o237 : OkF 237 f237 := ⟨Go.Proofs.Tryz.f237, Go.Proofs.Tryz.func237, by kernel_rfl⟩
theorem o238 : OkF 238 f238 := ⟨Go.Proofs.Tryz.f238, Go.Proofs.Tryz.func238, by kernel_rfl⟩
theorem o239 : OkF 239 f239 := ⟨Go.Proofs.Tryz.f239, Go.Proofs.Tryz.func239, by kernel_rfl⟩
theorem o240 : OkF 240 f240 := ⟨Go.Proofs.Tryz.f240, Go.Proofs.Tryz.func240, by kernel_rfl⟩
theorem o241 : OkF 241 f241 := ⟨Go.Proofs.Tryz.f241, Go.Proofs.Tryz.func241, by kernel_rfl⟩
theorem o242 : OkF 242 f242 := ⟨Go.Proofs.Tryz.f242, Go.Proofs.Tryz.func242, by kernel_rfl⟩
theorem o243 : OkF 243 f243 := ⟨Go.Proofs.Tryz.f243, Go.Proofs.Tryz.func243, by kernel_rfl⟩
theorem o244 : OkF 244 f244 := ⟨Go.Proofs.Tryz.f244, Go.Proofs.Tryz.func244, by kernel_rfl⟩
theorem o245 : OkF 245 f245 := ⟨Go.Proofs.Tryz.f245, Go.Proofs.Tryz.func245, by kernel_rfl⟩
theorem o246 : OkF 246 f246 := ⟨Go.Proofs.Tryz.f246, Go.Proofs.Tryz.func246, by kernel_rfl⟩
theorem o247 : OkF 247 f247 := ⟨Go.Proofs.Tryz.f247, Go.Proofs.Tryz.func247, by kernel_rfl⟩
theorem o248 : OkF 248 f248 := ⟨Go.Proofs.Tryz.f248, Go.Proofs.Tryz.func248, by kernel_rfl⟩
theorem o249 : OkF 249 f249 := ⟨Go.Proofs.Tryz.f249, Go.Proofs.Tryz.func249, by kernel_rfl⟩
theorem o250 : OkF 250 f250 := ⟨Go.Proofs.Tryz.f250, Go.Proofs.Tryz.func250, by kernel_rfl⟩
theorem o251 : OkF 251 f251 := ⟨Go.Proofs.Tryz.f251, Go.Proofs.Tryz.func251, by kernel_rfl⟩
theorem o253 : OkF 253 f253 := ⟨Go.Proofs.Tryz.f253, Go.Proofs.Tryz.func253, by kernel_rfl⟩
theorem o254 : OkF 254 f254 := ⟨Go.Proofs.Tryz.f254, Go.Proofs.Tryz.func254, by kernel_rfl⟩
theorem o255 : OkF 255 f255 := ⟨Go.Proofs.Tryz.f255, Go.Proofs.Tryz.func255, by kernel_rfl⟩
theorem o256 : OkF 256 f256 := ⟨Go.Proofs.Tryz.f256, Go.Proofs.Tryz.func256, by kernel_rfl⟩
theorem o257 : OkF 257 f257 := ⟨Go.Proofs.Tryz.f257, Go.Proofs.Tryz.func257, by kernel_rfl⟩
theorem o258 : OkF 258 f258 := ⟨Go.Proofs.Tryz.f258, Go.Proofs.Tryz.func258, by kernel_rfl⟩
theorem o259 : OkF 259 f259 := ⟨Go.Proofs.Tryz.f259, Go.Proofs.Tryz.func259, by kernel_rfl⟩
theorem o260 : OkF 260 f260 := ⟨Go.Proofs.Tryz.f260, Go.Proofs.Tryz.func260, by kernel_rfl⟩
theorem o261 : OkF 261 f261 := ⟨Go.Proofs.Tryz.f261, Go.Proofs.Tryz.func261, by kernel_rfl⟩
theorem o262 : OkF 262 f262 := ⟨Go.Proofs.Tryz.f262, Go.Proofs.Tryz.func262, by kernel_rfl⟩
theorem o263 : OkF 263 f263 := ⟨Go.Proofs.Tryz.f263, Go.Proofs.Tryz.func263, by kernel_rfl⟩
theorem o264 : OkF 264 f264 := ⟨Go.Proofs.Tryz.f264, Go.Proofs.Tryz.func264, by kernel_rfl⟩
theorem o265 : OkF 265 f265 := ⟨Go.Proofs.Tryz.f265, Go.Proofs.Tryz.func265, by kernel_rfl⟩
theorem o266 : OkF 266 f266 := ⟨Go.Proofs.Tryz.f266, Go.Proofs.Tryz.func266, by kernel_rfl⟩
theorem o267 : OkF 267 f267 := ⟨Go.Proofs.Tryz.f267, Go.Proofs.Tryz.func267, by kernel_rfl⟩
theorem o268 : OkF 268 f268 := ⟨Go.Proofs.Tryz.f268, Go.Proofs.Tryz.func268, by kernel_rfl⟩
theorem o270 : OkF 270 f270 := ⟨Go.Proofs.Tryz.f270, Go.Proofs.Tryz.func270, by kernel_rfl⟩
theorem o271 : OkF 271 f271 := ⟨Go.Proofs.Tryz.f271, Go.Proofs.Tryz.func271, by kernel_rfl⟩
theorem o272 : OkF 272 f272 := ⟨Go.Proofs.Tryz.f272, Go.Proofs.Tryz.func272, by kernel_rfl⟩
theorem o273 : OkF 273 f273 := ⟨Go.Proofs.Tryz.f273, Go.Proofs.Tryz.func273, by kernel_rfl⟩
theorem o274 : OkF 274 f274 := ⟨Go.Proofs.Tryz.f274, Go.Proofs.Tryz.func274, by kernel_rfl⟩
theorem o275 : OkF 275 f275 := ⟨Go.Proofs.Tryz.f275, Go.Proofs.Tryz.func275, by kernel_rfl⟩
theorem o276 : OkF 276 f276 := ⟨Go.Proofs.Tryz.f276, Go.Proofs.Tryz.func276, by kernel_rfl⟩
theorem o277 : OkF 277 f277 := ⟨Go.Proofs.Tryz.f277, Go.Proofs.Tryz.func277, by kernel_rfl⟩
theorem o278 : OkF 278 f278 := ⟨Go.Proofs.Tryz.f278, Go.Proofs.Tryz.func278, by kernel_rfl⟩
theorem o280 : OkF 280 f280 := ⟨Go.Proofs.Tryz.f280, Go.Proofs.Tryz.func280, by kernel_rfl⟩
theorem o281 : OkF 281 f281 := ⟨Go.Proofs.Tryz.f281, Go.Proofs.Tryz.func281, by kernel_rfl⟩
theorem o282 : OkF 282 f282 := ⟨Go.Proofs.Tryz.f282, Go.Proofs.Tryz.func282, by kernel_rfl⟩
theorem o284 : OkF 284 f284 := ⟨Go.Proofs.Tryz.f284, Go.Proofs.Tryz.func284, by kernel_rfl⟩
theorem o285 : OkF 285 f285 := ⟨Go.Proofs.Tryz.f285, Go.Proofs.Tryz.func285, by kernel_rfl⟩
theorem o286 : OkF 286 f286 := ⟨Go.Proofs.Tryz.f286, Go.Proofs.Tryz.func286, by kernel_rfl⟩
theorem o287 : OkF 287 f287 := ⟨Go.Proofs.Tryz.f287, Go.Proofs.Tryz.func287, by kernel_rfl⟩
theorem o288 : OkF 288 f288 := ⟨Go.Proofs.Tryz.f288, Go.Proofs.Tryz.func288, by kernel_rfl⟩
theorem o289 : OkF 289 f289 := ⟨Go.Proofs.Tryz.f289, Go.Proofs.Tryz.func289, by kernel_rfl⟩
theorem o290 : OkF 290 f290 := ⟨Go.Proofs.Tryz.f290, Go.Proofs.Tryz.func290, by kernel_rfl⟩
theorem o291 : OkF 291 f291 := ⟨Go.Proofs.Tryz.f291, Go.Proofs.Tryz.func291, by kernel_rfl⟩
theorem o292 : OkF 292 f292 := ⟨Go.Proofs.Tryz.f292, Go.Proofs.Tryz.func292, by kernel_rfl⟩
theorem o293 : OkF 293 f293 := ⟨Go.Proofs.Tryz.f293, Go.Proofs.Tryz.func293, by kernel_rfl⟩
theorem o294 : OkF 294 f294 := ⟨Go.Proofs.Tryz.f294, Go.Proofs.Tryz.func294, by kernel_rfl⟩
theorem o295 : OkF 295 f295 := ⟨Go.Proofs.Tryz.f295, Go.Proofs.Tryz.func295, by kernel_rfl⟩
theorem o296 : OkF 296 f296 := ⟨Go.Proofs.Tryz.f296, Go.Proofs.Tryz.func296, by kernel_rfl⟩
end Go.Am
