/-
  The functions of the abstract machine are the program's, part 3 (by the kernel).
-/
import Derived.Test.YtcaajeajakbooaaGreatDoorAmCode
import Derived.Test.YtcaajeajakbooaaGreatDoorIrT
import Derived.Test.YtcaajeajakbooaaGreatDoorOkD
import Derived.KernelRfl
import Derived.Test.YtcaajeajakbooaaGreatDoorProg
set_option linter.unusedVariables false
set_option linter.unusedSimpArgs false
namespace Go.Am
set_option maxRecDepth 100000
theorem o297 : OkF 297 f297 := ⟨Go.Proofs.Tryz.f297, Go.Proofs.Tryz.func297, by kernel_rfl⟩
theorem o298 : OkF 298 f298 := ⟨Go.Proofs.Tryz.f298, Go.Proofs.Tryz.func298, by kernel_rfl⟩
theorem o300 : OkF 300 f300 := ⟨Go.Proofs.Tryz.f300, Go.Proofs.Tryz.func300, by kernel_rfl⟩
theorem o301 : OkF 301 f301 := ⟨Go.Proofs.Tryz.f301, Go.Proofs.Tryz.func301, by kernel_rfl⟩
theorem o302 : OkF 302 f302 := ⟨Go.Proofs.Tryz.f302, Go.Proofs.Tryz.func302, by kernel_rfl⟩
theorem o303 : OkF 303 f303 := ⟨Go.Proofs.Tryz.f303, Go.Proofs.Tryz.func303, by kernel_rfl⟩
theorem o304 : OkF 304 f304 := ⟨Go.Proofs.Tryz.f304, Go.Proofs.Tryz.func304, by kernel_rfl⟩
theorem o305 : OkF 305 f305 := ⟨Go.Proofs.Tryz.f305, Go.Proofs.Tryz.func305, by kernel_rfl⟩
theorem o306 : OkF 306 f306 := ⟨Go.Proofs.Tryz.f306, Go.Proofs.Tryz.func306, by kernel_rfl⟩
theorem o307 : OkF 307 f307 := ⟨Go.Proofs.Tryz.f307, Go.Proofs.Tryz.func307, by kernel_rfl⟩
theorem o310 : OkF 310 f310 := ⟨Go.Proofs.Tryz.f310, Go.Proofs.Tryz.func310, by kernel_rfl⟩
theorem o311 : OkF 311 f311 := ⟨Go.Proofs.Tryz.f311, Go.Proofs.Tryz.func311, by kernel_rfl⟩
theorem o313 : OkF 313 f313 := ⟨Go.Proofs.Tryz.f313, Go.Proofs.Tryz.func313, by kernel_rfl⟩
theorem o315 : OkF 315 f315 := ⟨Go.Proofs.Tryz.f315, Go.Proofs.Tryz.func315, by kernel_rfl⟩
theorem o316 : OkF 316 f316 := ⟨Go.Proofs.Tryz.f316, Go.Proofs.Tryz.func316, by kernel_rfl⟩
theorem o317 : OkF 317 f317 := ⟨Go.Proofs.Tryz.f317, Go.Proofs.Tryz.func317, by kernel_rfl⟩
theorem o318 : OkF 318 f318 := ⟨Go.Proofs.Tryz.f318, Go.Proofs.Tryz.func318, by kernel_rfl⟩
theorem o319 : OkF 319 f319 := ⟨Go.Proofs.Tryz.f319, Go.Proofs.Tryz.func319, by kernel_rfl⟩
theorem o320 : OkF 320 f320 := ⟨Go.Proofs.Tryz.f320, Go.Proofs.Tryz.func320, by kernel_rfl⟩
theorem o321 : OkF 321 f321 := ⟨Go.Proofs.Tryz.f321, Go.Proofs.Tryz.func321, by kernel_rfl⟩
theorem o323 : OkF 323 f323 := ⟨Go.Proofs.Tryz.f323, Go.Proofs.Tryz.func323, by kernel_rfl⟩
theorem o324 : OkF 324 f324 := ⟨Go.Proofs.Tryz.f324, Go.Proofs.Tryz.func324, by kernel_rfl⟩
theorem o325 : OkF 325 f325 := ⟨Go.Proofs.Tryz.f325, Go.Proofs.Tryz.func325, by kernel_rfl⟩
theorem o326 : OkF 326 f326 := ⟨Go.Proofs.Tryz.f326, Go.Proofs.Tryz.func326, by kernel_rfl⟩
theorem o327 : OkF 327 f327 := ⟨Go.Proofs.Tryz.f327, Go.Proofs.Tryz.func327, by kernel_rfl⟩
theorem o328 : OkF 328 f328 := ⟨Go.Proofs.Tryz.f328, Go.Proofs.Tryz.func328, by kernel_rfl⟩
theorem o329 : OkF 329 f329 := ⟨Go.Proofs.Tryz.f329, Go.Proofs.Tryz.func329, by kernel_rfl⟩
theorem o330 : OkF 330 f330 := ⟨Go.Proofs.Tryz.f330, Go.Proofs.Tryz.func330, by kernel_rfl⟩
theorem o331 : OkF 331 f331 := ⟨Go.Proofs.Tryz.f331, Go.Proofs.Tryz.func331, by kernel_rfl⟩
theorem o332 : OkF 332 f332 := ⟨Go.Proofs.Tryz.f332, Go.Proofs.Tryz.func332, by kernel_rfl⟩
theorem o333 : OkF 333 f333 := ⟨Go.Proofs.Tryz.f333, Go.Proofs.Tryz.func333, by kernel_rfl⟩
theorem o334 : OkF 334 f334 := ⟨Go.Proofs.Tryz.f334, Go.Proofs.Tryz.func334, by kernel_rfl⟩
theorem o335 : OkF 335 f335 := ⟨Go.Proofs.Tryz.f335, Go.Proofs.Tryz.func335, by kernel_rfl⟩
theorem o336 : OkF 336 f336 := ⟨Go.Proofs.Tryz.f336, Go.Proofs.Tryz.func336, by kernel_rfl⟩
theorem o337 : OkF 337 f337 := ⟨Go.Proofs.Tryz.f337, Go.Proofs.Tryz.func337, by kernel_rfl⟩
theorem o338 : OkF 338 f338 := ⟨Go.Proofs.Tryz.f338, Go.Proofs.Tryz.func338, by kernel_rfl⟩
theorem o339 : OkF 339 f339 := ⟨Go.Proofs.Tryz.f339, Go.Proofs.Tryz.func339, by kernel_rfl⟩
theorem o340 : OkF 340 f340 := ⟨Go.Proofs.Tryz.f340, Go.Proofs.Tryz.func340, by kernel_rfl⟩
theorem o341 : OkF 341 f341 := ⟨Go.Proofs.Tryz.f341, Go.Proofs.Tryz.func341, by kernel_rfl⟩
theorem o342 : OkF 342 f342 := ⟨Go.Proofs.Tryz.f342, Go.Proofs.Tryz.func342, by kernel_rfl⟩
theorem o343 : OkF 343 f343 := ⟨Go.Proofs.Tryz.f343, Go.Proofs.Tryz.func343, by kernel_rfl⟩
theorem o344 : OkF 344 f344 := ⟨Go.Proofs.Tryz.f344, Go.Proofs.Tryz.func344, by kernel_rfl⟩
theorem o345 : OkF 345 f345 := ⟨Go.Proofs.Tryz.f345, Go.Proofs.Tryz.func345, by kernel_rfl⟩
theorem o346 : OkF 346 f346 := ⟨Go.Proofs.Tryz.f346, Go.Proofs.Tryz.func346, by kernel_rfl⟩
theorem o347 : OkF 347 f347 := ⟨Go.Proofs.Tryz.f347, Go.Proofs.Tryz.func347, by kernel_rfl⟩
theorem o348 : OkF 348 f348 := ⟨Go.Proofs.Tryz.f348, Go.Proofs.Tryz.func348, by kernel_rfl⟩
theorem o349 : OkF 349 f349 := ⟨Go.Proofs.Tryz.f349, Go.Proofs.Tryz.func349, by kernel_rfl⟩
theorem o350 : OkF 350 f350 := ⟨Go.Proofs.Tryz.f350, Go.Proofs.Tryz.func350, by kernel_rfl⟩
theorem o351 : OkF 351 f351 := ⟨Go.Proofs.Tryz.f351, Go.Proofs.Tryz.func351, by kernel_rfl⟩
theorem o352 : OkF 352 f352 := ⟨Go.Proofs.Tryz.f352, Go.Proofs.Tryz.func352, by kernel_rfl⟩
theorem o353 : OkF 353 f353 := ⟨Go.Proofs.Tryz.f353, Go.Proofs.Tryz.func353, by kernel_rfl⟩
theorem o354 : OkF 354 f354 := ⟨Go.Proofs.Tryz.f354, Go.Proofs.Tryz.func354, by kernel_rfl⟩
theorem o355 : OkF 355 f355 := ⟨Go.Proofs.Tryz.f355, Go.Proofs.Tryz.func355, by kernel_rfl⟩
theorem o356 : OkF 356 f356 := ⟨Go.Proofs.Tryz.f356, Go.Proofs.Tryz.func356, by kernel_rfl⟩
theorem o357 : OkF 357 f357 := ⟨Go.Proofs.Tryz.f357, Go.Proofs.Tryz.func357, by kernel_rfl⟩
theorem o359 : OkF 359 f359 := ⟨Go.Proofs.Tryz.f359, Go.Proofs.Tryz.func359, by kernel_rfl⟩
theorem o360 : OkF 360 f360 := ⟨Go.Proofs.Tryz.f360, Go.Proofs.Tryz.func360, by kernel_rfl⟩
theorem o361 : OkF 361 f361 := ⟨Go.Proofs.Tryz.f361, Go.Proofs.Tryz.func361, by kernel_rfl⟩
theorem o362 : OkF 362 f362 := ⟨Go.Proofs.Tryz.f362, Go.Proofs.Tryz.func362, by kernel_rfl⟩
theorem o363 : OkF 363 f363 := ⟨Go.Proofs.Tryz.f363, Go.Proofs.Tryz.func363, by kernel_rfl⟩
theorem o364 : OkF 364 f364 := ⟨Go.Proofs.Tryz.f364, Go.Proofs.Tryz.func364, by kernel_rfl⟩
theorem o365 : OkF 365 f365 := ⟨Go.Proofs.Tryz.f365, Go.Proofs.Tryz.func365, by kernel_rfl⟩
theorem o366 : OkF 366 f366 := ⟨Go.Proofs.Tryz.f366, Go.Proofs.Tryz.func366, by kernel_rfl⟩
theorem o367 : OkF 367 f367 := ⟨Go.Proofs.Tryz.f367, Go.Proofs.Tryz.func367, by kernel_rfl⟩
theorem o368 : OkF 368 f368 := ⟨Go.Proofs.Tryz.f368, Go.Proofs.Tryz.func368, by kernel_rfl⟩
theorem o369 : OkF 369 f369 := ⟨Go.Proofs.Tryz.f369, Go.Proofs.Tryz.func369, by kernel_rfl⟩
theorem o370 : OkF 370 f370 := ⟨Go.Proofs.Tryz.f370, Go.Proofs.Tryz.func370, by kernel_rfl⟩
theorem o371 : OkF 371 f371 := ⟨Go.Proofs.Tryz.f371, Go.Proofs.Tryz.func371, by kernel_rfl⟩
theorem o372 : OkF 372 f372 := ⟨Go.Proofs.Tryz.f372, Go.Proofs.Tryz.func372, by kernel_rfl⟩
theorem o373 : OkF 373 f373 := ⟨Go.Proofs.Tryz.f373, Go.Proofs.Tryz.func373, by kernel_rfl⟩
theorem o374 : OkF 374 f374 := ⟨Go.Proofs.Tryz.f374, Go.Proofs.Tryz.func374, by kernel_rfl⟩
theorem o375 : OkF 375 f375 := ⟨Go.Proofs.Tryz.f375, Go.Proofs.Tryz.func375, by kernel_rfl⟩
theorem o376 : OkF 376 f376 := ⟨Go.Proofs.Tryz.f376, Go.Proofs.Tryz.func376, by kernel_rfl⟩
theorem o377 : OkF 377 f377 := ⟨Go.Proofs.Tryz.f377, Go.Proofs.Tryz.func377, by kernel_rfl⟩
theorem o378 : OkF 378 f378 := ⟨Go.Proofs.Tryz.f378, Go.Proofs.Tryz.func378, by kernel_rfl⟩
theorem o379 : OkF 379 f379 := ⟨Go.Proofs.Tryz.f379, Go.Proofs.Tryz.func379, by kernel_rfl⟩
theorem o380 : OkF 380 f380 := ⟨Go.Proofs.Tryz.f380, Go.Proofs.Tryz.func380, by kernel_rfl⟩
theorem o381 : OkF 381 f381 := ⟨Go.Proofs.Tryz.f381, Go.Proofs.Tryz.func381, by kernel_rfl⟩
theorem o382 : OkF 382 f382 := ⟨Go.Proofs.Tryz.f382, Go.Proofs.Tryz.func382, by kernel_rfl⟩
theorem o383 : OkF 383 f383 := ⟨Go.Proofs.Tryz.f383, Go.Proofs.Tryz.func383, by kernel_rfl⟩
theorem o384 : OkF 384 f384 := ⟨Go.Proofs.Tryz.f384, Go.Proofs.Tryz.func384, by kernel_rfl⟩
theorem o385 : OkF 385 f385 := ⟨Go.Proofs.Tryz.f385, Go.Proofs.Tryz.func385, by kernel_rfl⟩
theorem o386 : OkF 386 f386 := ⟨Go.Proofs.Tryz.f386, Go.Proofs.Tryz.func386, by kernel_rfl⟩
theorem o387 : OkF 387 f387 := ⟨Go.Proofs.Tryz.f387, Go.Proofs.Tryz.func387, by kernel_rfl⟩
theorem o388 : OkF 388 f388 := ⟨Go.Proofs.Tryz.f388, Go.Proofs.Tryz.func388, by kernel_rfl⟩
theorem o389 : OkF 389 f389 := ⟨Go.Proofs.Tryz.f389, Go.Proofs.Tryz.func389, by kernel_rfl⟩
theorem o390 : OkF 390 f390 := ⟨Go.Proofs.Tryz.f390, Go.Proofs.Tryz.func390, by kernel_rfl⟩
theorem o391 : OkF 391 f391 := ⟨Go.Proofs.Tryz.f391, Go.Proofs.Tryz.func391, by kernel_rfl⟩
theorem o392 : OkF 392 f392 := ⟨Go.Proofs.Tryz.f392, Go.Proofs.Tryz.func392, by kernel_rfl⟩
theorem o393 : OkF 393 f393 := ⟨Go.Proofs.Tryz.f393, Go.Proofs.Tryz.func393, by kernel_rfl⟩
theorem o394 : OkF 394 f394 := ⟨Go.Proofs.Tryz.f394, Go.Proofs.Tryz.func394, by kernel_rfl⟩
theorem o395 : OkF 395 f395 := ⟨Go.Proofs.Tryz.f395, Go.Proofs.Tryz.func395, by kernel_rfl⟩
end Go.Am
