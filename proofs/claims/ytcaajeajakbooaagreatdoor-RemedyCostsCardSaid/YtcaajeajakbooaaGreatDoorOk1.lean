/-
  The functions of the abstract machine are the program's, part 1 (by the kernel).
-/
import Derived.Test.YtcaajeajakbooaaGreatDoorAmCode
import Derived.Test.YtcaajeajakbooaaGreatDoorIrT
import Derived.Test.YtcaajeajakbooaaGreatDoorOkD
import Derived.KernelRfl
import Derived.Test.YtcaajeajakbooaaGreatDoorProg
set_option linter.unusedVariables false
set_option linter.unusedSimpArgs false
namespace Go.Am
set_option maxRecDepth 100000
theorem o100 : OkF 100 f100 := ⟨Go.Proofs.Tryz.f100, Go.Proofs.Tryz.func100, by kernel_rfl⟩
theorem o101 : OkF 101 f101 := ⟨Go.Proofs.Tryz.f101, Go.Proofs.Tryz.func101, by kernel_rfl⟩
theorem o102 : OkF 102 f102 := ⟨Go.Proofs.Tryz.f102, Go.Proofs.Tryz.func102, by kernel_rfl⟩
theorem o103 : OkF 103 f103 := ⟨Go.Proofs.Tryz.f103, Go.Proofs.Tryz.func103, by kernel_rfl⟩
theorem o104 : OkF 104 f104 := ⟨Go.Proofs.Tryz.f104, Go.Proofs.Tryz.func104, by kernel_rfl⟩
theorem o105 : OkF 105 f105 := ⟨Go.Proofs.Tryz.f105, Go.Proofs.Tryz.func105, by kernel_rfl⟩
theorem o106 : OkF 106 f106 := ⟨Go.Proofs.Tryz.f106, Go.Proofs.Tryz.func106, by kernel_rfl⟩
theorem o107 : OkF 107 f107 := ⟨Go.Proofs.Tryz.f107, Go.Proofs.Tryz.func107, by kernel_rfl⟩
theorem o108 : OkF 108 f108 := ⟨Go.Proofs.Tryz.f108, Go.Proofs.Tryz.func108, by kernel_rfl⟩
theorem o109 : OkF 109 f109 := ⟨Go.Proofs.Tryz.f109, Go.Proofs.Tryz.func109, by kernel_rfl⟩
theorem o110 : OkF 110 f110 := ⟨Go.Proofs.Tryz.f110, Go.Proofs.Tryz.func110, by kernel_rfl⟩
theorem o111 : OkF 111 f111 := ⟨Go.Proofs.Tryz.f111, Go.Proofs.Tryz.func111, by kernel_rfl⟩
theorem o112 : OkF 112 f112 := ⟨Go.Proofs.Tryz.f112, Go.Proofs.Tryz.func112, by kernel_rfl⟩
theorem o113 : OkF 113 f113 := ⟨Go.Proofs.Tryz.f113, Go.Proofs.Tryz.func113, by kernel_rfl⟩
theorem o114 : OkF 114 f114 := ⟨Go.Proofs.Tryz.f114, Go.Proofs.Tryz.func114, by kernel_rfl⟩
theorem o115 : OkF 115 f115 := ⟨Go.Proofs.Tryz.f115, Go.Proofs.Tryz.func115, by kernel_rfl⟩
theorem o116 : OkF 116 f116 := ⟨Go.Proofs.Tryz.f116, Go.Proofs.Tryz.func116, by kernel_rfl⟩
theorem o117 : OkF 117 f117 := ⟨Go.Proofs.Tryz.f117, Go.Proofs.Tryz.func117, by kernel_rfl⟩
theorem o118 : OkF 118 f118 := ⟨Go.Proofs.Tryz.f118, Go.Proofs.Tryz.func118, by kernel_rfl⟩
theorem o119 : OkF 119 f119 := ⟨Go.Proofs.Tryz.f119, Go.Proofs.Tryz.func119, by kernel_rfl⟩
theorem o120 : OkF 120 f120 := ⟨Go.Proofs.Tryz.f120, Go.Proofs.Tryz.func120, by kernel_rfl⟩
theorem o121 : OkF 121 f121 := ⟨Go.Proofs.Tryz.f121, Go.Proofs.Tryz.func121, by kernel_rfl⟩
theorem o122 : OkF 122 f122 := ⟨Go.Proofs.Tryz.f122, Go.Proofs.Tryz.func122, by kernel_rfl⟩
theorem o123 : OkF 123 f123 := ⟨Go.Proofs.Tryz.f123, Go.Proofs.Tryz.func123, by kernel_rfl⟩
theorem o124 : OkF 124 f124 := ⟨Go.Proofs.Tryz.f124, Go.Proofs.Tryz.func124, by kernel_rfl⟩
theorem o125 : OkF 125 f125 := ⟨Go.Proofs.Tryz.f125, Go.Proofs.Tryz.func125, by kernel_rfl⟩
theorem o126 : OkF 126 f126 := ⟨Go.Proofs.Tryz.f126, Go.Proofs.Tryz.func126, by kernel_rfl⟩
theorem o127 : OkF 127 f127 := ⟨Go.Proofs.Tryz.f127, Go.Proofs.Tryz.func127, by kernel_rfl⟩
theorem o128 : OkF 128 f128 := ⟨Go.Proofs.Tryz.f128, Go.Proofs.Tryz.func128, by kernel_rfl⟩
theorem o129 : OkF 129 f129 := ⟨Go.Proofs.Tryz.f129, Go.Proofs.Tryz.func129, by kernel_rfl⟩
theorem o130 : OkF 130 f130 := ⟨Go.Proofs.Tryz.f130, Go.Proofs.Tryz.func130, by kernel_rfl⟩
theorem o131 : OkF 131 f131 := ⟨Go.Proofs.Tryz.f131, Go.Proofs.Tryz.func131, by kernel_rfl⟩
theorem o132 : OkF 132 f132 := ⟨Go.Proofs.Tryz.f132, Go.Proofs.Tryz.func132, by kernel_rfl⟩
theorem o133 : OkF 133 f133 := ⟨Go.Proofs.Tryz.f133, Go.Proofs.Tryz.func133, by kernel_rfl⟩
theorem o134 : OkF 134 f134 := ⟨Go.Proofs.Tryz.f134, Go.Proofs.Tryz.func134, by kernel_rfl⟩
theorem o135 : OkF 135 f135 := ⟨Go.Proofs.Tryz.f135, Go.Proofs.Tryz.func135, by kernel_rfl⟩
theorem o136 : OkF 136 f136 := ⟨Go.Proofs.Tryz.f136, Go.Proofs.Tryz.func136, by kernel_rfl⟩
theorem o137 : OkF 137 f137 := ⟨Go.Proofs.Tryz.f137, Go.Proofs.Tryz.func137, by kernel_rfl⟩
theorem o138 : OkF 138 f138 := ⟨Go.Proofs.Tryz.f138, Go.Proofs.Tryz.func138, by kernel_rfl⟩
theorem o139 : OkF 139 f139 := ⟨Go.Proofs.Tryz.f139, Go.Proofs.Tryz.func139, by kernel_rfl⟩
theorem o140 : OkF 140 f140 := ⟨Go.Proofs.Tryz.f140, Go.Proofs.Tryz.func140, by kernel_rfl⟩
theorem o141 : OkF 141 f141 := ⟨Go.Proofs.Tryz.f141, Go.Proofs.Tryz.func141, by kernel_rfl⟩
theorem o142 : OkF 142 f142 := ⟨Go.Proofs.Tryz.f142, Go.Proofs.Tryz.func142, by kernel_rfl⟩
theorem o143 : OkF 143 f143 := ⟨Go.Proofs.Tryz.f143, Go.Proofs.Tryz.func143, by kernel_rfl⟩
theorem o144 : OkF 144 f144 := ⟨Go.Proofs.Tryz.f144, Go.Proofs.Tryz.func144, by kernel_rfl⟩
theorem o145 : OkF 145 f145 := ⟨Go.Proofs.Tryz.f145, Go.Proofs.Tryz.func145, by kernel_rfl⟩
theorem o146 : OkF 146 f146 := ⟨Go.Proofs.Tryz.f146, Go.Proofs.Tryz.func146, by kernel_rfl⟩
theorem o147 : OkF 147 f147 := ⟨Go.Proofs.Tryz.f147, Go.Proofs.Tryz.func147, by kernel_rfl⟩
theorem o148 : OkF 148 f148 := ⟨Go.Proofs.Tryz.f148, Go.Proofs.Tryz.func148, by kernel_rfl⟩
theorem o149 : OkF 149 f149 := ⟨Go.Proofs.Tryz.f149, Go.Proofs.Tryz.func149, by kernel_rfl⟩
theorem o150 : OkF 150 f150 := ⟨Go.Proofs.Tryz.f150, Go.Proofs.Tryz.func150, by kernel_rfl⟩
theorem o151 : OkF 151 f151 := ⟨Go.Proofs.Tryz.f151, Go.Proofs.Tryz.func151, by kernel_rfl⟩
theorem o152 : OkF 152 f152 := ⟨Go.Proofs.Tryz.f152, Go.Proofs.Tryz.func152, by kernel_rfl⟩
theorem o153 : OkF 153 f153 := ⟨Go.Proofs.Tryz.f153, Go.Proofs.Tryz.func153, by kernel_rfl⟩
theorem o154 : OkF 154 f154 := ⟨Go.Proofs.Tryz.f154, Go.Proofs.Tryz.func154, by kernel_rfl⟩
theorem o155 : OkF 155 f155 := ⟨Go.Proofs.Tryz.f155, Go.Proofs.Tryz.func155, by kernel_rfl⟩
theorem o156 : OkF 156 f156 := ⟨Go.Proofs.Tryz.f156, Go.Proofs.Tryz.func156, by kernel_rfl⟩
theorem o157 : OkF 157 f157 := ⟨Go.Proofs.Tryz.f157, Go.Proofs.Tryz.func157, by kernel_rfl⟩
theorem o158 : OkF 158 f158 := ⟨Go.Proofs.Tryz.f158, Go.Proofs.Tryz.func158, by kernel_rfl⟩
theorem o159 : OkF 159 f159 := ⟨Go.Proofs.Tryz.f159, Go.Proofs.Tryz.func159, by kernel_rfl⟩
theorem o160 : OkF 160 f160 := ⟨Go.Proofs.Tryz.f160, Go.Proofs.Tryz.func160, by kernel_rfl⟩
theorem o161 : OkF 161 f161 := ⟨Go.Proofs.Tryz.f161, Go.Proofs.Tryz.func161, by kernel_rfl⟩
theorem o162 : OkF 162 f162 := ⟨Go.Proofs.Tryz.f162, Go.Proofs.Tryz.func162, by kernel_rfl⟩
theorem o163 : OkF 163 f163 := ⟨Go.Proofs.Tryz.f163, Go.Proofs.Tryz.func163, by kernel_rfl⟩
theorem o164 : OkF 164 f164 := ⟨Go.Proofs.Tryz.f164, Go.Proofs.Tryz.func164, by kernel_rfl⟩
theorem o165 : OkF 165 f165 := ⟨Go.Proofs.Tryz.f165, Go.Proofs.Tryz.func165, by kernel_rfl⟩
theorem o166 : OkF 166 f166 := ⟨Go.Proofs.Tryz.f166, Go.Proofs.Tryz.func166, by kernel_rfl⟩
theorem o169 : OkF 169 f169 := ⟨Go.Proofs.Tryz.f169, Go.Proofs.Tryz.func169, by kernel_rfl⟩
theorem o171 : OkF 171 f171 := ⟨Go.Proofs.Tryz.f171, Go.Proofs.Tryz.func171, by kernel_rfl⟩
theorem o172 : OkF 172 f172 := ⟨Go.Proofs.Tryz.f172, Go.Proofs.Tryz.func172, by kernel_rfl⟩
theorem o173 : OkF 173 f173 := ⟨Go.Proofs.Tryz.f173, Go.Proofs.Tryz.func173, by kernel_rfl⟩
theorem o174 : OkF 174 f174 := ⟨Go.Proofs.Tryz.f174, Go.Proofs.Tryz.func174, by kernel_rfl⟩
theorem o175 : OkF 175 f175 := ⟨Go.Proofs.Tryz.f175, Go.Proofs.Tryz.func175, by kernel_rfl⟩
theorem o177 : OkF 177 f177 := ⟨Go.Proofs.Tryz.f177, Go.Proofs.Tryz.func177, by kernel_rfl⟩
theorem o178 : OkF 178 f178 := ⟨Go.Proofs.Tryz.f178, Go.Proofs.Tryz.func178, by kernel_rfl⟩
theorem o179 : OkF 179 f179 := ⟨Go.Proofs.Tryz.f179, Go.Proofs.Tryz.func179, by kernel_rfl⟩
theorem o180 : OkF 180 f180 := ⟨Go.Proofs.Tryz.f180, Go.Proofs.Tryz.func180, by kernel_rfl⟩
theorem o181 : OkF 181 f181 := ⟨Go.Proofs.Tryz.f181, Go.Proofs.Tryz.func181, by kernel_rfl⟩
theorem o182 : OkF 182 f182 := ⟨Go.Proofs.Tryz.f182, Go.Proofs.Tryz.func182, by kernel_rfl⟩
theorem o183 : OkF 183 f183 := ⟨Go.Proofs.Tryz.f183, Go.Proofs.Tryz.func183, by kernel_rfl⟩
theorem o184 : OkF 184 f184 := ⟨Go.Proofs.Tryz.f184, Go.Proofs.Tryz.func184, by kernel_rfl⟩
theorem o185 : OkF 185 f185 := ⟨Go.Proofs.Tryz.f185, Go.Proofs.Tryz.func185, by kernel_rfl⟩
theorem o186 : OkF 186 f186 := ⟨Go.Proofs.Tryz.f186, Go.Proofs.Tryz.func186, by kernel_rfl⟩
theorem o187 : OkF 187 f187 := ⟨Go.Proofs.Tryz.f187, Go.Proofs.Tryz.func187, by kernel_rfl⟩
theorem o188 : OkF 188 f188 := ⟨Go.Proofs.Tryz.f188, Go.Proofs.Tryz.func188, by kernel_rfl⟩
theorem o189 : OkF 189 f189 := ⟨Go.Proofs.Tryz.f189, Go.Proofs.Tryz.func189, by kernel_rfl⟩
theorem o190 : OkF 190 f190 := ⟨Go.Proofs.Tryz.f190, Go.Proofs.Tryz.func190, by kernel_rfl⟩
theorem o191 : OkF 191 f191 := ⟨Go.Proofs.Tryz.f191, Go.Proofs.Tryz.func191, by kernel_rfl⟩
theorem o192 : OkF 192 f192 := ⟨Go.Proofs.Tryz.f192, Go.Proofs.Tryz.func192, by kernel_rfl⟩
theorem o193 : OkF 193 f193 := ⟨Go.Proofs.Tryz.f193, Go.Proofs.Tryz.func193, by kernel_rfl⟩
theorem o194 : OkF 194 f194 := ⟨Go.Proofs.Tryz.f194, Go.Proofs.Tryz.func194, by kernel_rfl⟩
theorem o195 : OkF 195 f195 := ⟨Go.Proofs.Tryz.f195, Go.Proofs.Tryz.func195, by kernel_rfl⟩
theorem o196 : OkF 196 f196 := ⟨Go.Proofs.Tryz.f196, Go.Proofs.Tryz.func196, by kernel_rfl⟩
theorem o197 : OkF 197 f197 := ⟨Go.Proofs.Tryz.f197, Go.Proofs.Tryz.func197, by kernel_rfl⟩
end Go.Am
