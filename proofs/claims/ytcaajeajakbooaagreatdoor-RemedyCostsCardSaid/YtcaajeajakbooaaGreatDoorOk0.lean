/-
  The functions of the abstract machine are the program's, part 0 (by the kernel).
-/
import Derived.Test.YtcaajeajakbooaaGreatDoorAmCode
import Derived.Test.YtcaajeajakbooaaGreatDoorIrT
import Derived.Test.YtcaajeajakbooaaGreatDoorOkD
import Derived.KernelRfl
import Derived.Test.YtcaajeajakbooaaGreatDoorProg
set_option linter.unusedVariables false
set_option linter.unusedSimpArgs false
namespace Go.Am
set_option maxRecDepth 100000
theorem o4 : OkF 4 f4 := ⟨Go.Proofs.Tryz.f4, Go.Proofs.Tryz.func4, by kernel_rfl⟩
theorem o5 : OkF 5 f5 := ⟨Go.Proofs.Tryz.f5, Go.Proofs.Tryz.func5, by kernel_rfl⟩
theorem o7 : OkF 7 f7 := ⟨Go.Proofs.Tryz.f7, Go.Proofs.Tryz.func7, by kernel_rfl⟩
theorem o8 : OkF 8 f8 := ⟨Go.Proofs.Tryz.f8, Go.Proofs.Tryz.func8, by kernel_rfl⟩
theorem o9 : OkF 9 f9 := ⟨Go.Proofs.Tryz.f9, Go.Proofs.Tryz.func9, by kernel_rfl⟩
theorem o10 : OkF 10 f10 := ⟨Go.Proofs.Tryz.f10, Go.Proofs.Tryz.func10, by kernel_rfl⟩
theorem o11 : OkF 11 f11 := ⟨Go.Proofs.Tryz.f11, Go.Proofs.Tryz.func11, by kernel_rfl⟩
theorem o12 : OkF 12 f12 := ⟨Go.Proofs.Tryz.f12, Go.Proofs.Tryz.func12, by kernel_rfl⟩
theorem o14 : OkF 14 f14 := ⟨Go.Proofs.Tryz.f14, Go.Proofs.Tryz.func14, by kernel_rfl⟩
theorem o15 : OkF 15 f15 := ⟨Go.Proofs.Tryz.f15, Go.Proofs.Tryz.func15, by kernel_rfl⟩
theorem o16 : OkF 16 f16 := ⟨Go.Proofs.Tryz.f16, Go.Proofs.Tryz.func16, by kernel_rfl⟩
theorem o17 : OkF 17 f17 := ⟨Go.Proofs.Tryz.f17, Go.Proofs.Tryz.func17, by kernel_rfl⟩
theorem o18 : OkF 18 f18 := ⟨Go.Proofs.Tryz.f18, Go.Proofs.Tryz.func18, by kernel_rfl⟩
theorem o19 : OkF 19 f19 := ⟨Go.Proofs.Tryz.f19, Go.Proofs.Tryz.func19, by kernel_rfl⟩
theorem o20 : OkF 20 f20 := ⟨Go.Proofs.Tryz.f20, Go.Proofs.Tryz.func20, by kernel_rfl⟩
theorem o21 : OkF 21 f21 := ⟨Go.Proofs.Tryz.f21, Go.Proofs.Tryz.func21, by kernel_rfl⟩
theorem o22 : OkF 22 f22 := ⟨Go.Proofs.Tryz.f22, Go.Proofs.Tryz.func22, by kernel_rfl⟩
theorem o23 : OkF 23 f23 := ⟨Go.Proofs.Tryz.f23, Go.Proofs.Tryz.func23, by kernel_rfl⟩
theorem o24 : OkF 24 f24 := ⟨Go.Proofs.Tryz.f24, Go.Proofs.Tryz.func24, by kernel_rfl⟩
theorem o25 : OkF 25 f25 := ⟨Go.Proofs.Tryz.f25, Go.Proofs.Tryz.func25, by kernel_rfl⟩
theorem o26 : OkF 26 f26 := ⟨Go.Proofs.Tryz.f26, Go.Proofs.Tryz.func26, by kernel_rfl⟩
theorem o27 : OkF 27 f27 := ⟨Go.Proofs.Tryz.f27, Go.Proofs.Tryz.func27, by kernel_rfl⟩
theorem o28 : OkF 28 f28 := ⟨Go.Proofs.Tryz.f28, Go.Proofs.Tryz.func28, by kernel_rfl⟩
theorem o29 : OkF 29 f29 := ⟨Go.Proofs.Tryz.f29, Go.Proofs.Tryz.func29, by kernel_rfl⟩
theorem o30 : OkF 30 f30 := ⟨Go.Proofs.Tryz.f30, Go.Proofs.Tryz.func30, by kernel_rfl⟩
theorem o31 : OkF 31 f31 := ⟨Go.Proofs.Tryz.f31, Go.Proofs.Tryz.func31, by kernel_rfl⟩
theorem o32 : OkF 32 f32 := ⟨Go.Proofs.Tryz.f32, Go.Proofs.Tryz.func32, by kernel_rfl⟩
theorem o33 : OkF 33 f33 := ⟨Go.Proofs.Tryz.f33, Go.Proofs.Tryz.func33, by kernel_rfl⟩
theorem o34 : OkF 34 f34 := ⟨Go.Proofs.Tryz.f34, Go.Proofs.Tryz.func34, by kernel_rfl⟩
theorem o35 : OkF 35 f35 := ⟨Go.Proofs.Tryz.f35, Go.Proofs.Tryz.func35, by kernel_rfl⟩
theorem o36 : OkF 36 f36 := ⟨Go.Proofs.Tryz.f36, Go.Proofs.Tryz.func36, by kernel_rfl⟩
theorem o37 : OkF 37 f37 := ⟨Go.Proofs.Tryz.f37, Go.Proofs.Tryz.func37, by kernel_rfl⟩
theorem o38 : OkF 38 f38 := ⟨Go.Proofs.Tryz.f38, Go.Proofs.Tryz.func38, by kernel_rfl⟩
theorem o39 : OkF 39 f39 := ⟨Go.Proofs.Tryz.f39, Go.Proofs.Tryz.func39, by kernel_rfl⟩
theorem o40 : OkF 40 f40 := ⟨Go.Proofs.Tryz.f40, Go.Proofs.Tryz.func40, by kernel_rfl⟩
theorem o41 : OkF 41 f41 := ⟨Go.Proofs.Tryz.f41, Go.Proofs.Tryz.func41, by kernel_rfl⟩
theorem o42 : OkF 42 f42 := ⟨Go.Proofs.Tryz.f42, Go.Proofs.Tryz.func42, by kernel_rfl⟩
theorem o43 : OkF 43 f43 := ⟨Go.Proofs.Tryz.f43, Go.Proofs.Tryz.func43, by kernel_rfl⟩
theorem o44 : OkF 44 f44 := ⟨Go.Proofs.Tryz.f44, Go.Proofs.Tryz.func44, by kernel_rfl⟩
theorem o45 : OkF 45 f45 := ⟨Go.Proofs.Tryz.f45, Go.Proofs.Tryz.func45, by kernel_rfl⟩
theorem o46 : OkF 46 f46 := ⟨Go.Proofs.Tryz.f46, Go.Proofs.Tryz.func46, by kernel_rfl⟩
theorem o47 : OkF 47 f47 := ⟨Go.Proofs.Tryz.f47, Go.Proofs.Tryz.func47, by kernel_rfl⟩
theorem o48 : OkF 48 f48 := ⟨Go.Proofs.Tryz.f48, Go.Proofs.Tryz.func48, by kernel_rfl⟩
theorem o49 : OkF 49 f49 := ⟨Go.Proofs.Tryz.f49, Go.Proofs.Tryz.func49, by kernel_rfl⟩
theorem o50 : OkF 50 f50 := ⟨Go.Proofs.Tryz.f50, Go.Proofs.Tryz.func50, by kernel_rfl⟩
theorem o51 : OkF 51 f51 := ⟨Go.Proofs.Tryz.f51, Go.Proofs.Tryz.func51, by kernel_rfl⟩
theorem o52 : OkF 52 f52 := ⟨Go.Proofs.Tryz.f52, Go.Proofs.Tryz.func52, by kernel_rfl⟩
theorem o53 : OkF 53 f53 := ⟨Go.Proofs.Tryz.f53, Go.Proofs.Tryz.func53, by kernel_rfl⟩
theorem o54 : OkF 54 f54 := ⟨Go.Proofs.Tryz.f54, Go.Proofs.Tryz.func54, by kernel_rfl⟩
theorem o55 : OkF 55 f55 := ⟨Go.Proofs.Tryz.f55, Go.Proofs.Tryz.func55, by kernel_rfl⟩
theorem o56 : OkF 56 f56 := ⟨Go.Proofs.Tryz.f56, Go.Proofs.Tryz.func56, by kernel_rfl⟩
theorem o57 : OkF 57 f57 := ⟨Go.Proofs.Tryz.f57, Go.Proofs.Tryz.func57, by kernel_rfl⟩
theorem o58 : OkF 58 f58 := ⟨Go.Proofs.Tryz.f58, Go.Proofs.Tryz.func58, by kernel_rfl⟩
theorem o59 : OkF 59 f59 := ⟨Go.Proofs.Tryz.f59, Go.Proofs.Tryz.func59, by kernel_rfl⟩
theorem o60 : OkF 60 f60 := ⟨Go.Proofs.Tryz.f60, Go.Proofs.Tryz.func60, by kernel_rfl⟩
theorem o61 : OkF 61 f61 := ⟨Go.Proofs.Tryz.f61, Go.Proofs.Tryz.func61, by kernel_rfl⟩
theorem o62 : OkF 62 f62 := ⟨Go.Proofs.Tryz.f62, Go.Proofs.Tryz.func62, by kernel_rfl⟩
theorem o63 : OkF 63 f63 := ⟨Go.Proofs.Tryz.f63, Go.Proofs.Tryz.func63, by kernel_rfl⟩
theorem o64 : OkF 64 f64 := ⟨Go.Proofs.Tryz.f64, Go.Proofs.Tryz.func64, by kernel_rfl⟩
theorem o65 : OkF 65 f65 := ⟨Go.Proofs.Tryz.f65, Go.Proofs.Tryz.func65, by kernel_rfl⟩
theorem o66 : OkF 66 f66 := ⟨Go.Proofs.Tryz.f66, Go.Proofs.Tryz.func66, by kernel_rfl⟩
theorem o67 : OkF 67 f67 := ⟨Go.Proofs.Tryz.f67, Go.Proofs.Tryz.func67, by kernel_rfl⟩
theorem o68 : OkF 68 f68 := ⟨Go.Proofs.Tryz.f68, Go.Proofs.Tryz.func68, by kernel_rfl⟩
theorem o69 : OkF 69 f69 := ⟨Go.Proofs.Tryz.f69, Go.Proofs.Tryz.func69, by kernel_rfl⟩
theorem o70 : OkF 70 f70 := ⟨Go.Proofs.Tryz.f70, Go.Proofs.Tryz.func70, by kernel_rfl⟩
theorem o71 : OkF 71 f71 := ⟨Go.Proofs.Tryz.f71, Go.Proofs.Tryz.func71, by kernel_rfl⟩
theorem o72 : OkF 72 f72 := ⟨Go.Proofs.Tryz.f72, Go.Proofs.Tryz.func72, by kernel_rfl⟩
theorem o73 : OkF 73 f73 := ⟨Go.Proofs.Tryz.f73, Go.Proofs.Tryz.func73, by kernel_rfl⟩
theorem o74 : OkF 74 f74 := ⟨Go.Proofs.Tryz.f74, Go.Proofs.Tryz.func74, by kernel_rfl⟩
theorem o75 : OkF 75 f75 := ⟨Go.Proofs.Tryz.f75, Go.Proofs.Tryz.func75, by kernel_rfl⟩
theorem o76 : OkF 76 f76 := ⟨Go.Proofs.Tryz.f76, Go.Proofs.Tryz.func76, by kernel_rfl⟩
theorem o77 : OkF 77 f77 := ⟨Go.Proofs.Tryz.f77, Go.Proofs.Tryz.func77, by kernel_rfl⟩
theorem o78 : OkF 78 f78 := ⟨Go.Proofs.Tryz.f78, Go.Proofs.Tryz.func78, by kernel_rfl⟩
theorem o79 : OkF 79 f79 := ⟨Go.Proofs.Tryz.f79, Go.Proofs.Tryz.func79, by kernel_rfl⟩
theorem o80 : OkF 80 f80 := ⟨Go.Proofs.Tryz.f80, Go.Proofs.Tryz.func80, by kernel_rfl⟩
theorem o81 : OkF 81 f81 := ⟨Go.Proofs.Tryz.f81, Go.Proofs.Tryz.func81, by kernel_rfl⟩
theorem o82 : OkF 82 f82 := ⟨Go.Proofs.Tryz.f82, Go.Proofs.Tryz.func82, by kernel_rfl⟩
theorem o83 : OkF 83 f83 := ⟨Go.Proofs.Tryz.f83, Go.Proofs.Tryz.func83, by kernel_rfl⟩
theorem o84 : OkF 84 f84 := ⟨Go.Proofs.Tryz.f84, Go.Proofs.Tryz.func84, by kernel_rfl⟩
theorem o85 : OkF 85 f85 := ⟨Go.Proofs.Tryz.f85, Go.Proofs.Tryz.func85, by kernel_rfl⟩
theorem o86 : OkF 86 f86 := ⟨Go.Proofs.Tryz.f86, Go.Proofs.Tryz.func86, by kernel_rfl⟩
theorem o87 : OkF 87 f87 := ⟨Go.Proofs.Tryz.f87, Go.Proofs.Tryz.func87, by kernel_rfl⟩
theorem o88 : OkF 88 f88 := ⟨Go.Proofs.Tryz.f88, Go.Proofs.Tryz.func88, by kernel_rfl⟩
theorem o89 : OkF 89 f89 := ⟨Go.Proofs.Tryz.f89, Go.Proofs.Tryz.func89, by kernel_rfl⟩
theorem o90 : OkF 90 f90 := ⟨Go.Proofs.Tryz.f90, Go.Proofs.Tryz.func90, by kernel_rfl⟩
theorem o91 : OkF 91 f91 := ⟨Go.Proofs.Tryz.f91, Go.Proofs.Tryz.func91, by kernel_rfl⟩
theorem o92 : OkF 92 f92 := ⟨Go.Proofs.Tryz.f92, Go.Proofs.Tryz.func92, by kernel_rfl⟩
theorem o93 : OkF 93 f93 := ⟨Go.Proofs.Tryz.f93, Go.Proofs.Tryz.func93, by kernel_rfl⟩
theorem o94 : OkF 94 f94 := ⟨Go.Proofs.Tryz.f94, Go.Proofs.Tryz.func94, by kernel_rfl⟩
theorem o95 : OkF 95 f95 := ⟨Go.Proofs.Tryz.f95, Go.Proofs.Tryz.func95, by kernel_rfl⟩
theorem o96 : OkF 96 f96 := ⟨Go.Proofs.Tryz.f96, Go.Proofs.Tryz.func96, by kernel_rfl⟩
theorem o97 : OkF 97 f97 := ⟨Go.Proofs.Tryz.f97, Go.Proofs.Tryz.func97, by kernel_rfl⟩
theorem o98 : OkF 98 f98 := ⟨Go.Proofs.Tryz.f98, Go.Proofs.Tryz.func98, by kernel_rfl⟩
theorem o99 : OkF 99 f99 := ⟨Go.Proofs.Tryz.f99, Go.Proofs.Tryz.func99, by kernel_rfl⟩
end Go.Am
