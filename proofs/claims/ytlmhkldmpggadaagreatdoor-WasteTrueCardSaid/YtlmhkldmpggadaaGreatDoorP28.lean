/- DERIVED: THE SHELF's CONTRACTS AT THIS DUMP, IN PLAIN WORDS (tools/lay-plain.mjs out of 'TryzSh2.lean', which tools/lay-shelf.mjs wrote): THE SAME DECLARATIONS UNDER THE SAME NAMES: 'import', .. -/
import Derived.Shelf.Strings.Builder1
import Derived.Shelf.Strings.OnBuilder
import Derived.Shelf.Strconv.Itoa3
import Derived.Shelf.Strconv.AtoiAll
import Derived.Shelf.Strings.Cut
import Derived.Shelf.Sort.Plain
import Derived.Shelf.Strings.Split
import Derived.Shelf.Spec.SlicesGrow
import Derived.Test.YtlmhkldmpggadaaGreatDoorProg
import Derived.Test.YtlmhkldmpggadaaGreatDoorP27
import Derived.Test.YtlmhkldmpggadaaGreatDoorChecked
namespace Go.Proofs
open Go.Shelf
def Tryz.uG:Go.Shelf.Ren:=⟨fun | 169=>149 | n=>n,fun | 70=>190 | 9=>9 | 0=>0 | 72=>193 | 37=>191 | 127=>228 | 3=>3 | 5=>5 | n=>n,fun | n=>n⟩
theorem Tryz.Kr:Go.Proofs.Lays.n169 Tryz.prog Tryz.uG:={
 mixed:=by kernel_rfl
 f169:=Tryz.func149.trans (congrArg some (by kernel_rfl))
 t0:=Tryz.underlying0
 a0:=Tryz.isAgg0
 z0:=Tryz.sizeOf0
 v0:=Tryz.zeroValue0
 t3:=Tryz.underlying3
 a3:=Tryz.isAgg3
 z3:=Tryz.sizeOf3
 v3:=Tryz.zeroValue3
 t9:=Tryz.underlying9
 a9:=Tryz.isAgg9
 z9:=Tryz.sizeOf9
 v9:=Tryz.zeroValue9
 t37:=Tryz.underlying191
 a37:=Tryz.isAgg191
 z37:=Tryz.sizeOf191
 v37:=Tryz.zeroValue191
 t70:=Tryz.underlying190
 a70:=Tryz.isAgg190
 z70:=Tryz.sizeOf190
 v70:=Tryz.zeroValue190
 t72:=Tryz.underlying193
 a72:=Tryz.isAgg193
 z72:=Tryz.sizeOf193
 v72:=Tryz.zeroValue193
 t127:=Tryz.underlying228
 a127:=Tryz.isAgg228
 z127:=Tryz.sizeOf228
 v127:=Tryz.zeroValue228 }
theorem Tryz.rR:Builder.Extra Tryz.prog Tryz.uG:={
 sizeBuilder:=by kernel_rfl
 liesBuilder:=by kernel_rfl
 t5:=Tryz.underlying5
 a5:=Tryz.isAgg5
 z5:=Tryz.sizeOf5
 v5:=Tryz.zeroValue5
 infoByte:=by kernel_rfl
 cellsByte:=by kernel_rfl
 sizeByte:=by kernel_rfl
 neB5:=by decide }
def Tryz.uV:Go.Shelf.Ren:=⟨fun | 156=>145 | 165=>185 | 166=>144 | 169=>149 | 240=>184 | 241=>199 | 276=>198 | 277=>211 | n=>n,fun | 31=>22 | 9=>9 | 3=>3 | 4=>4 | 0=>0 | 20=>20 | 72=>193 | 76=>196 | 70=>190 | 37=>191 | 75=>195 | 127=>228 | 164=>237 | 5=>5 | 80=>115 | n=>n,fun | n=>n⟩
theorem Tryz.K2:Go.Proofs.Lays.n156 Tryz.prog Tryz.uV:={
 mixed:=by kernel_rfl
 f156:=Tryz.func145.trans (congrArg some (by kernel_rfl))
 f165:=Tryz.func185.trans (congrArg some (by kernel_rfl))
 f166:=Tryz.func144.trans (congrArg some (by kernel_rfl))
 f169:=Tryz.func149.trans (congrArg some (by kernel_rfl))
 f240:=Tryz.func184.trans (congrArg some (by kernel_rfl))
 f241:=Tryz.func199.trans (congrArg some (by kernel_rfl))
 f276:=Tryz.func198.trans (congrArg some (by kernel_rfl))
 f277:=Tryz.func211.trans (congrArg some (by kernel_rfl))
 t0:=Tryz.underlying0
 a0:=Tryz.isAgg0
 z0:=Tryz.sizeOf0
 v0:=Tryz.zeroValue0
 t3:=Tryz.underlying3
 a3:=Tryz.isAgg3
 z3:=Tryz.sizeOf3
 v3:=Tryz.zeroValue3
 t4:=Tryz.underlying4
 a4:=Tryz.isAgg4
 z4:=Tryz.sizeOf4
 v4:=Tryz.zeroValue4
 t9:=Tryz.underlying9
 a9:=Tryz.isAgg9
 z9:=Tryz.sizeOf9
 v9:=Tryz.zeroValue9
 t20:=Tryz.underlying20
 a20:=Tryz.isAgg20
 z20:=Tryz.sizeOf20
 v20:=Tryz.zeroValue20
 t31:=Tryz.underlying22
 a31:=Tryz.isAgg22
 z31:=Tryz.sizeOf22
 v31:=Tryz.zeroValue22
 t37:=Tryz.underlying191
 a37:=Tryz.isAgg191
 z37:=Tryz.sizeOf191
 v37:=Tryz.zeroValue191
 t70:=Tryz.underlying190
 a70:=Tryz.isAgg190
 z70:=Tryz.sizeOf190
 v70:=Tryz.zeroValue190
 t72:=Tryz.underlying193
 a72:=Tryz.isAgg193
 z72:=Tryz.sizeOf193
 v72:=Tryz.zeroValue193
 t75:=Tryz.underlying195
 a75:=Tryz.isAgg195
 z75:=Tryz.sizeOf195
 v75:=Tryz.zeroValue195
 t76:=Tryz.underlying196
 a76:=Tryz.isAgg196
 z76:=Tryz.sizeOf196
 v76:=Tryz.zeroValue196
 t127:=Tryz.underlying228
 a127:=Tryz.isAgg228
 z127:=Tryz.sizeOf228
 v127:=Tryz.zeroValue228
 t164:=Tryz.underlying237
 a164:=Tryz.isAgg237
 z164:=Tryz.sizeOf237
 v164:=Tryz.zeroValue237 }
theorem Tryz.tn:Builder.Extra Tryz.prog Tryz.uV:={
 sizeBuilder:=by kernel_rfl
 liesBuilder:=by kernel_rfl
 t5:=Tryz.underlying5
 a5:=Tryz.isAgg5
 z5:=Tryz.sizeOf5
 v5:=Tryz.zeroValue5
 infoByte:=by kernel_rfl
 cellsByte:=by kernel_rfl
 sizeByte:=by kernel_rfl
 neB5:=by decide }
def Tryz.Ad:Go.Shelf.Ren:=⟨fun | 171=>147 | 243=>186 | 246=>200 | 283=>212 | 284=>213 | 285=>214 | 286=>215 | 129=>181 | 317=>224 | 318=>225 | 319=>226 | 320=>227 | 337=>231 | 338=>232 | n=>n,fun | 3=>3 | 9=>9 | 2=>2 | 4=>4 | 171=>247 | 0=>0 | 53=>225 | 37=>191 | 5=>5 | 173=>249 | 212=>260 | 51=>80 | 20=>20 | 213=>261 | 46=>184 | 232=>276 | 233=>277 | n=>n,fun | 17=>1 | 18=>6 | 19=>7 | n=>n⟩
theorem Tryz.JK:Go.Proofs.LaysM.n171 Tryz.prog Tryz.Ad:={
 mixed:=by kernel_rfl
 f129:=Tryz.func181.trans (congrArg some (by kernel_rfl))
 f171:=Tryz.func147.trans (congrArg some (by kernel_rfl))
 f243:=Tryz.func186.trans (congrArg some (by kernel_rfl))
 f246:=Tryz.func200.trans (congrArg some (by kernel_rfl))
 f283:=Tryz.func212.trans (congrArg some (by kernel_rfl))
 f284:=Tryz.func213.trans (congrArg some (by kernel_rfl))
 f285:=Tryz.func214.trans (congrArg some (by kernel_rfl))
 f286:=Tryz.func215.trans (congrArg some (by kernel_rfl))
 f317:=Tryz.func224.trans (congrArg some (by kernel_rfl))
 f318:=Tryz.func225.trans (congrArg some (by kernel_rfl))
 f319:=Tryz.func226.trans (congrArg some (by kernel_rfl))
 f320:=Tryz.func227.trans (congrArg some (by kernel_rfl))
 f337:=Tryz.func231.trans (congrArg some (by kernel_rfl))
 f338:=Tryz.func232.trans (congrArg some (by kernel_rfl))
 t0:=Tryz.underlying0
 a0:=Tryz.isAgg0
 z0:=Tryz.sizeOf0
 v0:=Tryz.zeroValue0
 t2:=Tryz.underlying2
 a2:=Tryz.isAgg2
 z2:=Tryz.sizeOf2
 v2:=Tryz.zeroValue2
 t3:=Tryz.underlying3
 a3:=Tryz.isAgg3
 z3:=Tryz.sizeOf3
 v3:=Tryz.zeroValue3
 t4:=Tryz.underlying4
 a4:=Tryz.isAgg4
 z4:=Tryz.sizeOf4
 v4:=Tryz.zeroValue4
 t5:=Tryz.underlying5
 a5:=Tryz.isAgg5
 z5:=Tryz.sizeOf5
 v5:=Tryz.zeroValue5
 t9:=Tryz.underlying9
 a9:=Tryz.isAgg9
 z9:=Tryz.sizeOf9
 v9:=Tryz.zeroValue9
 t20:=Tryz.underlying20
 a20:=Tryz.isAgg20
 z20:=Tryz.sizeOf20
 v20:=Tryz.zeroValue20
 t37:=Tryz.underlying191
 a37:=Tryz.isAgg191
 z37:=Tryz.sizeOf191
 v37:=Tryz.zeroValue191
 t46:=Tryz.underlying184
 a46:=Tryz.isAgg184
 z46:=Tryz.sizeOf184
 v46:=Tryz.zeroValue184
 t51:=Tryz.underlying80
 a51:=Tryz.isAgg80
 z51:=Tryz.sizeOf80
 v51:=Tryz.zeroValue80
 t53:=Tryz.underlying225
 a53:=Tryz.isAgg225
 z53:=Tryz.sizeOf225
 v53:=Tryz.zeroValue225
 t171:=Tryz.underlying247
 a171:=Tryz.isAgg247
 z171:=Tryz.sizeOf247
 v171:=Tryz.zeroValue247
 t173:=Tryz.underlying249
 a173:=Tryz.isAgg249
 z173:=Tryz.sizeOf249
 v173:=Tryz.zeroValue249
 t212:=Tryz.underlying260
 a212:=Tryz.isAgg260
 z212:=Tryz.sizeOf260
 v212:=Tryz.zeroValue260
 t213:=Tryz.underlying261
 a213:=Tryz.isAgg261
 z213:=Tryz.sizeOf261
 t232:=Tryz.underlying276
 a232:=Tryz.isAgg276
 z232:=Tryz.sizeOf276
 v232:=Tryz.zeroValue276
 t233:=Tryz.underlying277
 a233:=Tryz.isAgg277
 z233:=Tryz.sizeOf277
 v233:=Tryz.zeroValue277
 g17:=by kernel_rfl
 g18:=by kernel_rfl
 g19:=by kernel_rfl
 i0:=by kernel_rfl
 i2:=by kernel_rfl
 i3:=by kernel_rfl
 i4:=by kernel_rfl
 i5:=by kernel_rfl
 i9:=by kernel_rfl
 i20:=by kernel_rfl
 i37:=by kernel_rfl
 i46:=by kernel_rfl
 i51:=by kernel_rfl
 i53:=by kernel_rfl
 i171:=by kernel_rfl
 i173:=by kernel_rfl
 i212:=by kernel_rfl
 i232:=by kernel_rfl
 i233:=by kernel_rfl
 m17:=by kernel_rfl
 m18:=by kernel_rfl
 m19:=by kernel_rfl }
def Tryz.AF:Go.Shelf.Ren:=⟨fun | 172=>188 | 244=>205 | 245=>206 | 247=>218 | 279=>219 | 280=>220 | 281=>221 | 282=>222 | 287=>228 | 316=>229 | 171=>147 | 205=>230 | 321=>233 | 322=>234 | 243=>186 | 246=>200 | 283=>212 | 284=>213 | 285=>214 | 286=>215 | 129=>181 | 317=>224 | 318=>225 | 319=>226 | 320=>227 | 337=>231 | 338=>232 | n=>n,fun | 9=>9 | 3=>3 | 75=>195 | 76=>196 | 4=>4 | 5=>5 | 167=>253 | 37=>191 | 0=>0 | 85=>254 | 2=>2 | 168=>256 | 53=>225 | 175=>262 | 46=>184 | 210=>266 | 127=>228 | 145=>275 | 143=>273 | 21=>21 | 171=>247 | 173=>249 | 212=>260 | 51=>80 | 20=>20 | 213=>261 | 232=>276 | 233=>277 | 80=>115 | n=>n,fun | 15=>2 | 16=>3 | 17=>1 | 18=>6 | 19=>7 | n=>n⟩
theorem Tryz.HE:Go.Proofs.LaysC.n172 Tryz.prog Tryz.AF:={
 mixed:=by kernel_rfl
 f129:=Tryz.func181.trans (congrArg some (by kernel_rfl))
 f171:=Tryz.func147.trans (congrArg some (by kernel_rfl))
 f172:=Tryz.func188.trans (congrArg some (by kernel_rfl))
 f205:=Tryz.func230.trans (congrArg some (by kernel_rfl))
 f243:=Tryz.func186.trans (congrArg some (by kernel_rfl))
 f244:=Tryz.func205.trans (congrArg some (by kernel_rfl))
 f245:=Tryz.func206.trans (congrArg some (by kernel_rfl))
 f246:=Tryz.func200.trans (congrArg some (by kernel_rfl))
 f247:=Tryz.func218.trans (congrArg some (by kernel_rfl))
 f279:=Tryz.func219.trans (congrArg some (by kernel_rfl))
 f280:=Tryz.func220.trans (congrArg some (by kernel_rfl))
 f281:=Tryz.func221.trans (congrArg some (by kernel_rfl))
 f282:=Tryz.func222.trans (congrArg some (by kernel_rfl))
 f283:=Tryz.func212.trans (congrArg some (by kernel_rfl))
 f284:=Tryz.func213.trans (congrArg some (by kernel_rfl))
 f285:=Tryz.func214.trans (congrArg some (by kernel_rfl))
 f286:=Tryz.func215.trans (congrArg some (by kernel_rfl))
 f287:=Tryz.func228.trans (congrArg some (by kernel_rfl))
 f316:=Tryz.func229.trans (congrArg some (by kernel_rfl))
 f317:=Tryz.func224.trans (congrArg some (by kernel_rfl))
 f318:=Tryz.func225.trans (congrArg some (by kernel_rfl))
 f319:=Tryz.func226.trans (congrArg some (by kernel_rfl))
 f320:=Tryz.func227.trans (congrArg some (by kernel_rfl))
 f321:=Tryz.func233.trans (congrArg some (by kernel_rfl))
 f322:=Tryz.func234.trans (congrArg some (by kernel_rfl))
 f337:=Tryz.func231.trans (congrArg some (by kernel_rfl))
 f338:=Tryz.func232.trans (congrArg some (by kernel_rfl))
 t0:=Tryz.underlying0
 a0:=Tryz.isAgg0
 z0:=Tryz.sizeOf0
 v0:=Tryz.zeroValue0
 t2:=Tryz.underlying2
 a2:=Tryz.isAgg2
 z2:=Tryz.sizeOf2
 v2:=Tryz.zeroValue2
 t3:=Tryz.underlying3
 a3:=Tryz.isAgg3
 z3:=Tryz.sizeOf3
 v3:=Tryz.zeroValue3
 t4:=Tryz.underlying4
 a4:=Tryz.isAgg4
 z4:=Tryz.sizeOf4
 v4:=Tryz.zeroValue4
 t5:=Tryz.underlying5
 a5:=Tryz.isAgg5
 z5:=Tryz.sizeOf5
 v5:=Tryz.zeroValue5
 t9:=Tryz.underlying9
 a9:=Tryz.isAgg9
 z9:=Tryz.sizeOf9
 v9:=Tryz.zeroValue9
 t20:=Tryz.underlying20
 a20:=Tryz.isAgg20
 z20:=Tryz.sizeOf20
 v20:=Tryz.zeroValue20
 t21:=Tryz.underlying21
 a21:=Tryz.isAgg21
 z21:=Tryz.sizeOf21
 v21:=Tryz.zeroValue21
 t37:=Tryz.underlying191
 a37:=Tryz.isAgg191
 z37:=Tryz.sizeOf191
 v37:=Tryz.zeroValue191
 t46:=Tryz.underlying184
 a46:=Tryz.isAgg184
 z46:=Tryz.sizeOf184
 v46:=Tryz.zeroValue184
 t51:=Tryz.underlying80
 a51:=Tryz.isAgg80
 z51:=Tryz.sizeOf80
 v51:=Tryz.zeroValue80
 t53:=Tryz.underlying225
 a53:=Tryz.isAgg225
 z53:=Tryz.sizeOf225
 v53:=Tryz.zeroValue225
 t75:=Tryz.underlying195
 a75:=Tryz.isAgg195
 z75:=Tryz.sizeOf195
 v75:=Tryz.zeroValue195
 t76:=Tryz.underlying196
 a76:=Tryz.isAgg196
 z76:=Tryz.sizeOf196
 v76:=Tryz.zeroValue196
 t85:=Tryz.underlying254
 a85:=Tryz.isAgg254
 z85:=Tryz.sizeOf254
 v85:=Tryz.zeroValue254
 t127:=Tryz.underlying228
 a127:=Tryz.isAgg228
 z127:=Tryz.sizeOf228
 v127:=Tryz.zeroValue228
 t143:=Tryz.underlying273
 a143:=Tryz.isAgg273
 z143:=Tryz.sizeOf273
 v143:=Tryz.zeroValue273
 t145:=Tryz.underlying275
 a145:=Tryz.isAgg275
 z145:=Tryz.sizeOf275
 v145:=Tryz.zeroValue275
 t167:=Tryz.underlying253
 a167:=Tryz.isAgg253
 z167:=Tryz.sizeOf253
 v167:=Tryz.zeroValue253
 t168:=Tryz.underlying256
 a168:=Tryz.isAgg256
 z168:=Tryz.sizeOf256
 v168:=Tryz.zeroValue256
 t171:=Tryz.underlying247
 a171:=Tryz.isAgg247
 z171:=Tryz.sizeOf247
 v171:=Tryz.zeroValue247
 t173:=Tryz.underlying249
 a173:=Tryz.isAgg249
 z173:=Tryz.sizeOf249
 v173:=Tryz.zeroValue249
 t175:=Tryz.underlying262
 a175:=Tryz.isAgg262
 z175:=Tryz.sizeOf262
 v175:=Tryz.zeroValue262
 t210:=Tryz.underlying266
 a210:=Tryz.isAgg266
 z210:=Tryz.sizeOf266
 v210:=Tryz.zeroValue266
 t212:=Tryz.underlying260
 a212:=Tryz.isAgg260
 z212:=Tryz.sizeOf260
 v212:=Tryz.zeroValue260
 t213:=Tryz.underlying261
 a213:=Tryz.isAgg261
 z213:=Tryz.sizeOf261
 t232:=Tryz.underlying276
 a232:=Tryz.isAgg276
 z232:=Tryz.sizeOf276
 v232:=Tryz.zeroValue276
 t233:=Tryz.underlying277
 a233:=Tryz.isAgg277
 z233:=Tryz.sizeOf277
 v233:=Tryz.zeroValue277
 g15:=by kernel_rfl
 g16:=by kernel_rfl
 g17:=by kernel_rfl
 g18:=by kernel_rfl
 g19:=by kernel_rfl
 t80:=Tryz.underlying115
 a80:=Tryz.isAgg115
 z80:=Tryz.sizeOf115
 v80:=Tryz.zeroValue115
 i0:=by kernel_rfl
 i2:=by kernel_rfl
 i3:=by kernel_rfl
 i4:=by kernel_rfl
 i5:=by kernel_rfl
 i9:=by kernel_rfl
 i20:=by kernel_rfl
 i21:=by kernel_rfl
 i37:=by kernel_rfl
 i46:=by kernel_rfl
 i51:=by kernel_rfl
 i53:=by kernel_rfl
 i75:=by kernel_rfl
 i76:=by kernel_rfl
 i80:=by kernel_rfl
 i85:=by kernel_rfl
 i127:=by kernel_rfl
 i143:=by kernel_rfl
 i145:=by kernel_rfl
 i167:=by kernel_rfl
 i168:=by kernel_rfl
 i171:=by kernel_rfl
 i173:=by kernel_rfl
 i175:=by kernel_rfl
 i210:=by kernel_rfl
 i212:=by kernel_rfl
 i232:=by kernel_rfl
 i233:=by kernel_rfl
 m15:=by kernel_rfl
 m16:=by kernel_rfl
 m17:=by kernel_rfl
 m18:=by kernel_rfl
 m19:=by kernel_rfl
 c0:=by kernel_rfl
 c2:=by kernel_rfl
 c3:=by kernel_rfl
 c4:=by kernel_rfl
 c5:=by kernel_rfl
 c9:=by kernel_rfl
 c20:=by kernel_rfl
 c21:=by kernel_rfl
 c37:=by kernel_rfl
 c46:=by kernel_rfl
 c51:=by kernel_rfl
 c53:=by kernel_rfl
 c75:=by kernel_rfl
 c76:=by kernel_rfl
 c80:=by kernel_rfl
 c85:=by kernel_rfl
 c127:=by kernel_rfl
 c143:=by kernel_rfl
 c145:=by kernel_rfl
 c167:=by kernel_rfl
 c168:=by kernel_rfl
 c171:=by kernel_rfl
 c173:=by kernel_rfl
 c175:=by kernel_rfl
 c210:=by kernel_rfl
 c212:=by kernel_rfl
 c213:=by kernel_rfl
 c232:=by kernel_rfl
 c233:=by kernel_rfl }
def Tryz.C2:Go.Shelf.Ren:=⟨fun | 145=>99 | 220=>154 | 219=>187 | 217=>201 | 225=>202 | 224=>203 | 267=>204 | 266=>216 | 314=>217 | n=>n,fun | 9=>9 | 4=>4 | 59=>141 | 3=>3 | 5=>5 | 46=>184 | 146=>251 | 51=>80 | n=>n,fun | 1=>0 | n=>n⟩
theorem Tryz.KR:Go.Proofs.Lays.n145 Tryz.prog Tryz.C2:={
 mixed:=by kernel_rfl
 f145:=Tryz.func99.trans (congrArg some (by kernel_rfl))
 f217:=Tryz.func201.trans (congrArg some (by kernel_rfl))
 f219:=Tryz.func187.trans (congrArg some (by kernel_rfl))
 f220:=Tryz.func154.trans (congrArg some (by kernel_rfl))
 f224:=Tryz.func203.trans (congrArg some (by kernel_rfl))
 f225:=Tryz.func202.trans (congrArg some (by kernel_rfl))
 f266:=Tryz.func216.trans (congrArg some (by kernel_rfl))
 f267:=Tryz.func204.trans (congrArg some (by kernel_rfl))
 f314:=Tryz.func217.trans (congrArg some (by kernel_rfl))
 t3:=Tryz.underlying3
 a3:=Tryz.isAgg3
 z3:=Tryz.sizeOf3
 v3:=Tryz.zeroValue3
 t4:=Tryz.underlying4
 a4:=Tryz.isAgg4
 z4:=Tryz.sizeOf4
 v4:=Tryz.zeroValue4
 t5:=Tryz.underlying5
 a5:=Tryz.isAgg5
 z5:=Tryz.sizeOf5
 v5:=Tryz.zeroValue5
 t9:=Tryz.underlying9
 a9:=Tryz.isAgg9
 z9:=Tryz.sizeOf9
 v9:=Tryz.zeroValue9
 t46:=Tryz.underlying184
 a46:=Tryz.isAgg184
 z46:=Tryz.sizeOf184
 v46:=Tryz.zeroValue184
 t51:=Tryz.underlying80
 a51:=Tryz.isAgg80
 z51:=Tryz.sizeOf80
 v51:=Tryz.zeroValue80
 t59:=Tryz.underlying141
 a59:=Tryz.isAgg141
 z59:=Tryz.sizeOf141
 v59:=Tryz.zeroValue141
 t146:=Tryz.underlying251
 a146:=Tryz.isAgg251
 z146:=Tryz.sizeOf251
 v146:=Tryz.zeroValue251
 g1:=by kernel_rfl }
def Tryz.Cx:Go.Shelf.Ren:=⟨fun | 189=>86 | 125=>138 | 257=>137 | 128=>180 | 129=>181 | 294=>171 | 295=>172 | 296=>173 | 297=>174 | 298=>175 | 299=>176 | 216=>177 | 300=>178 | 301=>179 | 328=>192 | 329=>193 | 330=>194 | 331=>195 | 332=>196 | 215=>197 | 343=>210 | n=>n,fun | 28=>27 | 3=>3 | 46=>184 | 0=>0 | 51=>80 | 53=>225 | 4=>4 | 183=>218 | 182=>217 | 131=>221 | 5=>5 | 9=>9 | 218=>231 | 222=>235 | 228=>244 | 229=>105 | n=>n,fun | n=>n⟩
theorem Tryz.J9:Go.Proofs.Lays.n189 Tryz.prog Tryz.Cx:={
 mixed:=by kernel_rfl
 f125:=Tryz.func138.trans (congrArg some (by kernel_rfl))
 f128:=Tryz.func180.trans (congrArg some (by kernel_rfl))
 f129:=Tryz.func181.trans (congrArg some (by kernel_rfl))
 f189:=Tryz.func86.trans (congrArg some (by kernel_rfl))
 f215:=Tryz.func197.trans (congrArg some (by kernel_rfl))
 f216:=Tryz.func177.trans (congrArg some (by kernel_rfl))
 f257:=Tryz.func137.trans (congrArg some (by kernel_rfl))
 f294:=Tryz.func171.trans (congrArg some (by kernel_rfl))
 f295:=Tryz.func172.trans (congrArg some (by kernel_rfl))
 f296:=Tryz.func173.trans (congrArg some (by kernel_rfl))
 f297:=Tryz.func174.trans (congrArg some (by kernel_rfl))
 f298:=Tryz.func175.trans (congrArg some (by kernel_rfl))
 f299:=Tryz.func176.trans (congrArg some (by kernel_rfl))
 f300:=Tryz.func178.trans (congrArg some (by kernel_rfl))
 f301:=Tryz.func179.trans (congrArg some (by kernel_rfl))
 f328:=Tryz.func192.trans (congrArg some (by kernel_rfl))
 f329:=Tryz.func193.trans (congrArg some (by kernel_rfl))
 f330:=Tryz.func194.trans (congrArg some (by kernel_rfl))
 f331:=Tryz.func195.trans (congrArg some (by kernel_rfl))
 f332:=Tryz.func196.trans (congrArg some (by kernel_rfl))
 f343:=Tryz.func210.trans (congrArg some (by kernel_rfl))
 t0:=Tryz.underlying0
 a0:=Tryz.isAgg0
 z0:=Tryz.sizeOf0
 v0:=Tryz.zeroValue0
 t3:=Tryz.underlying3
 a3:=Tryz.isAgg3
 z3:=Tryz.sizeOf3
 v3:=Tryz.zeroValue3
 t4:=Tryz.underlying4
 a4:=Tryz.isAgg4
 z4:=Tryz.sizeOf4
 v4:=Tryz.zeroValue4
 t5:=Tryz.underlying5
 a5:=Tryz.isAgg5
 z5:=Tryz.sizeOf5
 v5:=Tryz.zeroValue5
 t9:=Tryz.underlying9
 a9:=Tryz.isAgg9
 z9:=Tryz.sizeOf9
 v9:=Tryz.zeroValue9
 t28:=Tryz.underlying27
 a28:=Tryz.isAgg27
 z28:=Tryz.sizeOf27
 v28:=Tryz.zeroValue27
 t46:=Tryz.underlying184
 a46:=Tryz.isAgg184
 z46:=Tryz.sizeOf184
 v46:=Tryz.zeroValue184
 t51:=Tryz.underlying80
 a51:=Tryz.isAgg80
 z51:=Tryz.sizeOf80
 v51:=Tryz.zeroValue80
 t53:=Tryz.underlying225
 a53:=Tryz.isAgg225
 z53:=Tryz.sizeOf225
 v53:=Tryz.zeroValue225
 t131:=Tryz.underlying221
 a131:=Tryz.isAgg221
 z131:=Tryz.sizeOf221
 v131:=Tryz.zeroValue221
 t182:=Tryz.underlying217
 a182:=Tryz.isAgg217
 z182:=Tryz.sizeOf217
 v182:=Tryz.zeroValue217
 t183:=Tryz.underlying218
 a183:=Tryz.isAgg218
 z183:=Tryz.sizeOf218
 v183:=Tryz.zeroValue218
 t218:=Tryz.underlying231
 a218:=Tryz.isAgg231
 z218:=Tryz.sizeOf231
 v218:=Tryz.zeroValue231
 t222:=Tryz.underlying235
 a222:=Tryz.isAgg235
 z222:=Tryz.sizeOf235
 v222:=Tryz.zeroValue235
 t228:=Tryz.underlying244
 a228:=Tryz.isAgg244
 z228:=Tryz.sizeOf244
 v228:=Tryz.zeroValue244
 t229:=Tryz.underlying105
 a229:=Tryz.isAgg105
 z229:=Tryz.sizeOf105
 v229:=Tryz.zeroValue105 }
def Tryz.CD:Go.Shelf.Ren:=⟨fun | 146=>102 | 221=>158 | 268=>189 | 138=>190 | 143=>191 | 195=>207 | 197=>208 | 218=>209 | 219=>187 | 260=>223 | 217=>201 | 225=>202 | 224=>203 | 267=>204 | 266=>216 | 314=>217 | n=>n,fun | 9=>9 | 31=>22 | 3=>3 | 4=>4 | 0=>0 | 105=>242 | 21=>21 | 5=>5 | 46=>184 | 119=>268 | 139=>271 | 138=>270 | 146=>251 | 51=>80 | n=>n,fun | 1=>0 | 3=>4 | 4=>5 | n=>n⟩
theorem Tryz.KB:Go.Proofs.Lays.n146 Tryz.prog Tryz.CD:={
 mixed:=by kernel_rfl
 f138:=Tryz.func190.trans (congrArg some (by kernel_rfl))
 f143:=Tryz.func191.trans (congrArg some (by kernel_rfl))
 f146:=Tryz.func102.trans (congrArg some (by kernel_rfl))
 f195:=Tryz.func207.trans (congrArg some (by kernel_rfl))
 f197:=Tryz.func208.trans (congrArg some (by kernel_rfl))
 f217:=Tryz.func201.trans (congrArg some (by kernel_rfl))
 f218:=Tryz.func209.trans (congrArg some (by kernel_rfl))
 f219:=Tryz.func187.trans (congrArg some (by kernel_rfl))
 f221:=Tryz.func158.trans (congrArg some (by kernel_rfl))
 f224:=Tryz.func203.trans (congrArg some (by kernel_rfl))
 f225:=Tryz.func202.trans (congrArg some (by kernel_rfl))
 f260:=Tryz.func223.trans (congrArg some (by kernel_rfl))
 f266:=Tryz.func216.trans (congrArg some (by kernel_rfl))
 f267:=Tryz.func204.trans (congrArg some (by kernel_rfl))
 f268:=Tryz.func189.trans (congrArg some (by kernel_rfl))
 f314:=Tryz.func217.trans (congrArg some (by kernel_rfl))
 t0:=Tryz.underlying0
 a0:=Tryz.isAgg0
 z0:=Tryz.sizeOf0
 v0:=Tryz.zeroValue0
 t3:=Tryz.underlying3
 a3:=Tryz.isAgg3
 z3:=Tryz.sizeOf3
 v3:=Tryz.zeroValue3
 t4:=Tryz.underlying4
 a4:=Tryz.isAgg4
 z4:=Tryz.sizeOf4
 v4:=Tryz.zeroValue4
 t5:=Tryz.underlying5
 a5:=Tryz.isAgg5
 z5:=Tryz.sizeOf5
 v5:=Tryz.zeroValue5
 t9:=Tryz.underlying9
 a9:=Tryz.isAgg9
 z9:=Tryz.sizeOf9
 v9:=Tryz.zeroValue9
 t21:=Tryz.underlying21
 a21:=Tryz.isAgg21
 z21:=Tryz.sizeOf21
 v21:=Tryz.zeroValue21
 t31:=Tryz.underlying22
 a31:=Tryz.isAgg22
 z31:=Tryz.sizeOf22
 v31:=Tryz.zeroValue22
 t46:=Tryz.underlying184
 a46:=Tryz.isAgg184
 z46:=Tryz.sizeOf184
 v46:=Tryz.zeroValue184
 t51:=Tryz.underlying80
 a51:=Tryz.isAgg80
 z51:=Tryz.sizeOf80
 v51:=Tryz.zeroValue80
 t105:=Tryz.underlying242
 a105:=Tryz.isAgg242
 z105:=Tryz.sizeOf242
 v105:=Tryz.zeroValue242
 t119:=Tryz.underlying268
 a119:=Tryz.isAgg268
 z119:=Tryz.sizeOf268
 t138:=Tryz.underlying270
 a138:=Tryz.isAgg270
 z138:=Tryz.sizeOf270
 v138:=Tryz.zeroValue270
 t139:=Tryz.underlying271
 a139:=Tryz.isAgg271
 z139:=Tryz.sizeOf271
 v139:=Tryz.zeroValue271
 t146:=Tryz.underlying251
 a146:=Tryz.isAgg251
 z146:=Tryz.sizeOf251
 v146:=Tryz.zeroValue251
 g1:=by kernel_rfl
 g3:=by kernel_rfl
 g4:=by kernel_rfl }
def Tryz.F0:Go.Shelf.Ren:=⟨fun | 4=>136 | n=>n,fun | 22=>27 | 25=>3 | 3=>3 | 4=>4 | 9=>9 | 20=>20 | 0=>0 | n=>n,fun | n=>n⟩
theorem Tryz.PN:Go.Proofs.Lays8.n4 Tryz.prog Tryz.F0:={
 mixed:=by kernel_rfl
 f4:=⟨Tryz.f136.name,by decide,Tryz.func136.trans (congrArg some (by kernel_rfl))⟩
 t0:=Tryz.underlying0
 a0:=Tryz.isAgg0
 z0:=Tryz.sizeOf0
 v0:=Tryz.zeroValue0
 t3:=Tryz.underlying3
 a3:=Tryz.isAgg3
 z3:=Tryz.sizeOf3
 v3:=Tryz.zeroValue3
 t4:=Tryz.underlying4
 a4:=Tryz.isAgg4
 z4:=Tryz.sizeOf4
 v4:=Tryz.zeroValue4
 t9:=Tryz.underlying9
 a9:=Tryz.isAgg9
 z9:=Tryz.sizeOf9
 v9:=Tryz.zeroValue9
 t20:=Tryz.underlying20
 a20:=Tryz.isAgg20
 z20:=Tryz.sizeOf20
 v20:=Tryz.zeroValue20
 t22:=Tryz.underlying27
 a22:=Tryz.isAgg27
 z22:=Tryz.sizeOf27
 v22:=Tryz.zeroValue27 }
end Go.Proofs
namespace Go.AM
open Go.RowKit Go.Shelf Go.Proofs
set_option maxHeartbeats 1000000 in
set_option maxRecDepth 100000 in
theorem Dm (b:Nat) (w:World) {p v:Value} (hp:DC b p) (hbk:w.heap[b]? = some (.cells #[p,v] 193 (0,0))) :
  Calls Tryz.prog 184 #[.pointer (some ⟨b,0,none⟩)] w fun e w'=>e = .returned (.tuple #[]) ∧ w.grownBy w' (some b) ∧ w'.heap.size = w.heap.size ∧ w'.heap[b]? = some (.cells #[.pointer (some ⟨b,0,none⟩),v] 193 (0,0)):=by
 have hc:w.cell? ⟨b,0,none⟩ = some p:=by rw [Lib.cell_of_heap hbk]; rfl
 have hsize:(Tryz.prog.info? 193).map (·.size) = some 2:=by kernel_rfl
 obtain ⟨j,hj,hjs⟩:=Option.map_eq_some_iff.1 hsize;have hlies:liesAt Tryz.prog Tryz.prog.depth 193 (2 / Tryz.prog.cellsOf 193) 0 193 1 = true:=by kernel_rfl
 have mixed:Tryz.prog.follows .mixedOrders = true:=by kernel_rfl
 have t3:=Tryz.underlying3; have a3:=Tryz.isAgg3; have z3:=Tryz.sizeOf3; have v3:=Tryz.zeroValue3; have u3:=Tryz.runUnderlying3;have t4:=Tryz.underlying4; have a4:=Tryz.isAgg4; have z4:=Tryz.sizeOf4; have v4:=Tryz.zeroValue4; have u4:=Tryz.runUnderlying4;have t5:=Tryz.underlying5; have a5:=Tryz.isAgg5; have z5:=Tryz.sizeOf5; have v5:=Tryz.zeroValue5; have u5:=Tryz.runUnderlying5;have t9:=Tryz.underlying9; have a9:=Tryz.isAgg9; have z9:=Tryz.sizeOf9; have v9:=Tryz.zeroValue9; have u9:=Tryz.runUnderlying9;have t190:=Tryz.underlying190; have a190:=Tryz.isAgg190; have z190:=Tryz.sizeOf190; have v190:=Tryz.zeroValue190; have u190:=Tryz.runUnderlying190;have t191:=Tryz.underlying191; have a191:=Tryz.isAgg191; have z191:=Tryz.sizeOf191; have v191:=Tryz.zeroValue191; have u191:=Tryz.runUnderlying191;have t193:=Tryz.underlying193; have a193:=Tryz.isAgg193; have z193:=Tryz.sizeOf193; have v193:=Tryz.zeroValue193; have u193:=Tryz.runUnderlying193;have t195:=Tryz.underlying195; have a195:=Tryz.isAgg195; have z195:=Tryz.sizeOf195; have v195:=Tryz.zeroValue195; have u195:=Tryz.runUnderlying195;have t237:=Tryz.underlying237; have a237:=Tryz.isAgg237; have z237:=Tryz.sizeOf237; have v237:=Tryz.zeroValue237; have u237:=Tryz.runUnderlying237;rcases hp with rfl | rfl
 ·have hsh:w.shape? b = some (193,2):=by simp [World.shape?,hbk]
  have hfz:w.frozen? ⟨b,0,none⟩ = false:=by simp [World.frozen?,hbk]
  have key:Calls Tryz.prog 184 #[.pointer (some ⟨b,0,none⟩)] w fun e w'=>e = .returned (.tuple #[]) ∧ w' = w.setCell ⟨b,0,none⟩ (.pointer (some ⟨b,0,none⟩)):=by
   go_enter Tryz.func184,Tryz.ntmps184
   go_wp2
   rw [Lib.run_to_unsafe w ⟨b,0,none⟩ t190 t237 hj (by rw [hjs]; decide) hsh (Nat.zero_lt_succ 1)];simp only [Result.andThen];rw [Oper.upon_value]
   go_wp2
   rw [run_callFunc_extern Tryz.func198 (by kernel_rfl) (by kernel_rfl) (by kernel_rfl) (e:=Extern.AbiNoEscape.same) (by kernel_rfl)];rw [Lib.run_noEscape];simp only [Result.andThen];rw [Oper.upon_value]
   go_wp2
   rw [Lib.run_from_unsafe w ⟨b,0,none⟩ t237 t190 hj hsh hlies];simp only [Result.andThen];rw [Oper.upon_value]
   go_wp2
   go_end0
   exact ⟨rfl,rfl⟩
  refine key.mono ?_;rintro e w' ⟨rfl,rfl⟩;refine ⟨rfl,⟨rfl,rfl,rfl,by simp [World.setCell],fun k _ hk=>Below.heap_setCell _ _ _ _ (fun e=>hk (by simp [e]))⟩,by simp [World.setCell], ?_⟩;simp [World.setCell,Array.getElem?_modify,hbk]
 ·have key:Calls Tryz.prog 184 #[.pointer (some ⟨b,0,none⟩)] w fun e w'=>e = .returned (.tuple #[]) ∧ w' = w:=by
   go_enter Tryz.func184,Tryz.ntmps184
   go_wp2
   rw [Lib.run_neq_ptr_same w _ t190 hj]
   go_wp2
   go_end0
   exact ⟨rfl,rfl⟩
  refine key.mono ?_;rintro e w' ⟨rfl,rfl⟩;exact ⟨rfl,⟨rfl,rfl,rfl,Nat.le_refl _,fun _ _ _=>rfl⟩,rfl,hbk⟩
set_option maxHeartbeats 2000000 in
set_option maxRecDepth 100000 in
theorem Dy (B b:Nat) (bs:List Value) (y:ByteArray) (w:World) {p v:Value} (hp:DC b p) (hbk:w.heap[b]? = some (.cells #[p,v] 193 (0,0)))
  (hown:w.ownsRow B 5 1 v bs.length bs) (hne:v.ownBlock ≠ some b) (hlen:bs.length + y.size ≤ 140737488355328) (hBw:B ≤ w.heap.size) :
  Calls Tryz.prog 144 #[.pointer (some ⟨b,0,none⟩), .string y] w (Bx 193 5 B b bs y w v):=by
 have hbyte:(Tryz.prog.info? 5).map (fun i=>(i.zero,i.size,i.bytes)) = some (some (.int .u8 0),1,1):=by kernel_rfl
 obtain ⟨i0,hi,hz0,hz1,hz2⟩:=info_parts hbyte;have hlt:b < w.heap.size:=(Array.getElem?_eq_some_iff.1 hbk).1;have mixed:Tryz.prog.follows .mixedOrders = true:=by kernel_rfl
 have t3:=Tryz.underlying3; have a3:=Tryz.isAgg3; have z3:=Tryz.sizeOf3; have v3:=Tryz.zeroValue3; have u3:=Tryz.runUnderlying3;have t4:=Tryz.underlying4; have a4:=Tryz.isAgg4; have z4:=Tryz.sizeOf4; have v4:=Tryz.zeroValue4; have u4:=Tryz.runUnderlying4;have t5:=Tryz.underlying5; have a5:=Tryz.isAgg5; have z5:=Tryz.sizeOf5; have v5:=Tryz.zeroValue5; have u5:=Tryz.runUnderlying5;have t9:=Tryz.underlying9; have a9:=Tryz.isAgg9; have z9:=Tryz.sizeOf9; have v9:=Tryz.zeroValue9; have u9:=Tryz.runUnderlying9;have t190:=Tryz.underlying190; have a190:=Tryz.isAgg190; have z190:=Tryz.sizeOf190; have v190:=Tryz.zeroValue190; have u190:=Tryz.runUnderlying190;have t191:=Tryz.underlying191; have a191:=Tryz.isAgg191; have z191:=Tryz.sizeOf191; have v191:=Tryz.zeroValue191; have u191:=Tryz.runUnderlying191;have t193:=Tryz.underlying193; have a193:=Tryz.isAgg193; have z193:=Tryz.sizeOf193; have v193:=Tryz.zeroValue193; have u193:=Tryz.runUnderlying193;have t195:=Tryz.underlying195; have a195:=Tryz.isAgg195; have z195:=Tryz.sizeOf195; have v195:=Tryz.zeroValue195; have u195:=Tryz.runUnderlying195;have t237:=Tryz.underlying237; have a237:=Tryz.isAgg237; have z237:=Tryz.sizeOf237; have v237:=Tryz.zeroValue237; have u237:=Tryz.runUnderlying237;have ecc:∀ args w,(callFunc 184 args).run Tryz.prog w = .ok (.enter 184 args) w:=enters_of Tryz.func184 (by kernel_rfl) rfl
 go_enter Tryz.func144,Tryz.ntmps144
 go_wp2_with (go_at_fn 184; refine (Dm b _ hp hbk).mono ?_)
 rintro e w1 ⟨rfl,hg1,hs1,hb1⟩;have hown1:w1.ownsRow B 5 1 v bs.length bs:=hown.kept hg1 (.inr hne);have c0:w1.cell? ⟨b,0,none⟩ = some (.pointer (some ⟨b,0,none⟩)):=by rw [Lib.cell_of_heap hb1]; rfl
 have c1:w1.cell? ⟨b,1,none⟩ = some v:=by rw [Lib.cell_of_heap hb1]; rfl
 go_wp2_with (at_builtin; refine pX rfl _ _ 191 9 rfl B 5 i0 t191 t9 hi hz0 hz1 hz2 v bs.length bs rfl hown1 y rfl hlen ?c5 ?_)
 case c5=>omega
 intro v' w2 hown' hgrow hwh;have hb2:w2.heap[b]? = some (.cells #[.pointer (some ⟨b,0,none⟩),v] 193 (0,0)):=by
  rw [hgrow.block b (by omega) (fun e=>hne e.symm)];exact hb1
 have d0:w2.cell? ⟨b,0,none⟩ = some (.pointer (some ⟨b,0,none⟩)):=by rw [Lib.cell_of_heap hb2]; rfl
 have d1:w2.cell? ⟨b,1,none⟩ = some v:=by rw [Lib.cell_of_heap hb2]; rfl
 have f1:w2.frozen? ⟨b,1,none⟩ = false:=Lib.frozen_of_heap hb2 1;have hne':v'.ownBlock ≠ some b:=fun hb'=>by
  rcases hwh b hb' with h | h
  ·exact hne h
  ·omega
 obtain ⟨ao,n',cap,rfl⟩:∃ ao n' cap,v' = .slice ao n' cap:=by
  rcases hown'.2 with ⟨hv,_⟩ | ⟨g,cap,cur,hv,_⟩
  ·exact ⟨_,_,_,hv⟩
  ·exact ⟨_,_,_,hv⟩
 have hlen2:bs.length + y.size = (bs ++ Lib.strCells y).length:=by simp [Lib.strCells_length]
 rw [hlen2] at hown';have hsz:w.heap.size ≤ w2.heap.size:=by have:=hgrow.size; omega
 have hrest:∀ k,k < w.heap.size → k ≠ b → v.ownBlock ≠ some k → w2.heap[k]? = w.heap[k]?:=fun k hk h1 h2=>
  (hgrow.block k (by omega) (fun e=>h2 e.symm)).trans (hg1.block k hk (fun e=>h1 (Option.some.inj e)))
 have ho2:w2.os = w.os ∧ w2.tape = w.tape ∧ w2.output = w.output:=⟨hgrow.os.trans hg1.os,hgrow.tape.trans hg1.tape,hgrow.output.trans hg1.output⟩
 go_wp2
 go_ret2
 refine ⟨rfl,_, ?_, ?_,hne',fun g hg=>(hwh g hg).imp id (fun h=>by omega),ho2.1,ho2.2.1,ho2.2.2,by simpa [World.setCell] using hsz,fun k h1 h2 h3=>(Below.heap_setCell _ _ _ _ h2).trans (hrest k h1 h2 h3)⟩
 ·simp [World.setCell,Array.getElem?_modify,hb2]
 ·exact hown'.kept (row:=some b) ⟨rfl,rfl,rfl,by simp [World.setCell],fun k _ hk=>Below.heap_setCell _ _ _ _ (fun e=>hk (by simp [e]))⟩ (.inr hne')
theorem yx (b k:Nat) (bs:List UInt8) (y:ByteArray) (σ:af) (hb:σ[b]? = some (.bld k bs)) (hlen:bs.length + y.size ≤ 140737488355328) :
  Spec Tryz.prog 144 [.ptr b 0, .str y] σ fun r σ'=>r = .ret (.tup [.int .i64 y.size, .niliface]) ∧ σ' = σ.set b (.bld (k + 1) (bs ++ y.data.toList)):=
 Spec.J1 (fun B b bs y w _ _ hp hbk hown hne hl hB=>Dy B b bs y w hp hbk hown hne hl hB) b k bs y σ hb hlen
theorem xu (b k:Nat) (bs:List UInt8) (σ:af) (hb:σ[b]? = some (.bld k bs)) :
  Spec Tryz.prog 149 [.ptr b 0] σ fun r σ'=>r = .ret (.str ⟨bs.toArray⟩) ∧ σ' = σ.set b .dead:=
 Spec.built Tryz.Kr Tryz.rR rfl b k bs σ hb
open Go.RowKit Go.Shelf Go.Proofs Go.Sort
section
variable {P:Program} {ρ:Ren}
def fP (l:List Int):List Int:=l.mergeSort fun x y=>decide (x ≤ y)
theorem iM (l:List Int):(fP l).length = l.length:=by simp [fP]
theorem Gf (l:List Int):(fP l).Pairwise (· ≤ ·):=by
 have:=List.pairwise_mergeSort (le:=fun x y:Int=>decide (x ≤ y)) (fun a b c h1 h2=>by simp at *; omega) (fun a b=>by simp; omega) l;exact this.imp fun h=>by simpa using h
theorem DX (l:List Int):(fP l).Perm l:=List.mergeSort_perm l _
theorem Spec.sortInt (L:Lays.n189 P ρ) (l:List Int) (hlm:l.length < 4611686018427387904) (b:Nat) (σ:af) (hb:σ[b]? = some (.arr 1 (l.map fun n=>.int .i64 n))) :
  Spec P (ρ.f 189) [.sref 1 b 0 l.length l.length] σ fun r σ'=>r = .ret (.tup []) ∧ σ' = σ.set b (.arr 1 ((fP l).map fun n=>.int .i64 n)):=by
 intro A s cargs g1 g2 g3;subst g1;obtain ⟨c,rfl,hc⟩:=g3.one;by_cases hl:l = []
 ·subst hl;have hc':∃ p cap,c = .slice p 0 cap:=by
   cases hc with
   | sref _ _ _ _ _ blk cap h1 h2 h3=>exact ⟨_,_,rfl⟩
   | sref0 _ _ a h=>exact ⟨_,_,rfl⟩
   | srefE _ _ _ _ a v h h0 h1=>exact ⟨_,_,rfl⟩
  obtain ⟨p,cap,rfl⟩:=hc';refine (Any.slices_Sort_int_none L p cap s.w).mono ?_;rintro e w' ⟨rfl,rfl⟩;refine ⟨.ret (.tup []),s,rfl,g2, .refl s, .tup _ _ rfl (fun j h1=>by simp at h1),rfl, ?_⟩;have e1:fP [] = []:=List.eq_nil_of_length_eq_zero (iM []);rw [e1];obtain ⟨hlt,e2⟩:=List.getElem?_eq_some_iff.1 hb;have e3:s.h.set b (.arr 1 (([]:List Int).map fun n=>.int .i64 n)) = s.h:=by rw [← e2]; exact List.set_getElem_self hlt
  exact e3.symm
 have hpos:0 < l.length:=by cases l with
  | nil=>exact absurd rfl hl
  | cons=>simp
 have hobj:=g2.obj b _ hb;rcases hobj.pM with ⟨h0,_⟩ | ⟨blk,cap,vs,el,us,h0,hlam,hB,hh,hvs,hcp,hel,hnS⟩
 ·simp at h0; exact absurd h0 hl
 have hml:(l.map fun n=>ag.int .i64 n).length = l.length:=by simp
 rw [hml] at hlam hcp;obtain ⟨hul,hrv,hcell⟩:=hel;rw [hml] at hul;have hc':c = .slice (some ⟨blk,0,none⟩) l.length cap:=Gu hc hpos hlam;subst hc';have hu:∀ i (h:i < l.length),us[i]? = some (.int .i64 l[i]):=fun i h=>by
  have h2:i < us.length:=by omega
  have:=(hrv i (by simpa using h) h2).1;simp only [List.getElem_map] at this;rw [List.getElem?_eq_getElem h2,this.AK]
 have hv:∀ i (h:i < l.length),vs[i]? = some (.int .i64 l[i]):=fun i h=>by
  have h2:i < us.length:=by omega
  have e1:us[i] = .int .i64 l[i]:=by
   have:=hu i h;rw [List.getElem?_eq_getElem h2] at this;exact Option.some.inj this
  have:=hcell i 0 h2 (by rw [e1]; simp [Value.cells]);simp only [Nat.mul_one,Nat.add_zero] at this;rw [this];simp [e1,Value.cells]
 have hH:Holds (Value.int .i64) s.w blk 0 l.toArray:=by
  intro j hj;have hj':j < l.length:=by simpa using hj
  refine ⟨?_,by simp [World.frozen?,hh]⟩;simp only [World.cell?,hh,Nat.zero_add];rw [hv j hj'];simp [hj']
 have hq:=Any.slices_Sort_int L blk 0 cap l s.w hH (Array.getElem?_eq_some_iff.1 hh).1 (by simpa using hlm);refine hq.mono ?_;rintro e w' ⟨rfl,n,os,rfl⟩;have hsb:(l.mergeSort fun x y=>decide (x ≤ y)) = fP l:=rfl;rw [hsb];generalize hw:grow (putRow (Value.int .i64) (Sort.ahead s.w n) blk 0 (fP l).toArray) os = w';have hhe:w'.heap = s.w.heap.modify blk (onCells (Go.Sort.putCells (Value.int .i64) 0 (fP l).toArray)) ++ os:=by rw [← hw]; rfl
 have hblk:blk < s.w.heap.size:=(Array.getElem?_eq_some_iff.1 hh).1;have hsz:s.w.heap.size ≤ w'.heap.size:=by rw [hhe]; simp
 have hoth:∀ k,k < s.w.heap.size → k ≠ blk → w'.heap[k]? = s.w.heap[k]?:=fun k hk hne=>by
  rw [hhe,Array.getElem?_append_left (by simpa using hk),Array.getElem?_modify,if_neg (fun e=>hne e.symm)]
 have hnew:w'.heap[blk]? = some (.cells (Go.Sort.putCells (Value.int .i64) 0 (fP l).toArray vs) el (0,0)):=by
  rw [hhe,Array.getElem?_append_left (by simpa using hblk),Array.getElem?_modify,if_pos rfl,hh];rfl
 have hos:w'.os = s.w.os ∧ w'.tape = s.w.tape ∧ w'.output = s.w.output:=by rw [← hw]; exact ⟨rfl,rfl,rfl⟩
 have hblt:b < s.h.length:=(List.getElem?_eq_some_iff.1 hb).1
 let s':St:={ h:=s.h.set b (.arr 1 ((fP l).map fun n=>.int .i64 n)),lam:=s.lam,S:=s.S,w:=w' }
 have hown:dA s b (.arr 1 (l.map fun n=>.int .i64 n)) blk:=⟨cap,h0,by rw [hml]; exact hlam⟩;have hk:bq s s':=⟨fun _ _ _ h=>h,fun _ _ h=>h,fun g o hs=>World.cell?_of_block (a:=⟨g,o,none⟩) (hoth g (g2.scell g o hs) (fun e=>hnS o (e ▸ hs)))⟩;have hsl:((fP l).map fun n=>ag.int .i64 n).length = l.length:=by simp [iM]
 have hpc:∀ i (h:i < l.length),(Go.Sort.putCells (Value.int .i64) 0 (fP l).toArray vs)[i]? = some (.int .i64 (fP l)[i]!):=fun i h=>by
  have h2:i < vs.size:=by omega
  have h3:i < (fP l).length:=by rw [iM]; exact h
  have h4:i < (fP l).length:=by rw [iM]; exact h
  simp only [Go.Sort.putCells,Array.getElem?_mapIdx,Array.getElem?_eq_getElem h2,Option.map_some,Nat.zero_le,true_and,Nat.zero_add,Nat.sub_zero,List.size_toArray,h3,if_true];rw [getElem!_pos _ i (by simpa using h3),getElem!_pos _ i h4];simp
 have hgo:=g2.change (s':=s') hblt rfl hk (g2.below.trans ⟨hos.1,hos.2.1,hos.2.2,hsz,fun k hk'=>hoth k (by omega) (by omega)⟩) hsz (fun _ _ _=>rfl)
  (fun k hlt hno=>hoth k hlt (fun e=>hno ⟨_,hb,e ▸ hown⟩))
  ⟨fun k hk'=>hobj.1 k (by rw [hsl] at hk'; rw [hml]; exact hk'), .inr ⟨blk,cap,_,el,(fP l).map (Value.int .i64),h0,by rw [hsl]; exact hlam,hB,hnew,by simp [Go.Sort.putCells,hvs],by rw [hsl]; exact hcp,by simp,fun i h1 h2=>by
    simp only [List.getElem_map];exact ⟨.int _ _,by simp [Value.cells]⟩,fun i j h2 hj=>by
    have h3:i < l.length:=by simpa [iM] using h2
    have hj0:j = 0:=by simp [Value.cells] at hj; exact hj
    subst hj0;have h4:i < (fP l).length:=by rw [iM]; exact h3
    rw [Nat.mul_one,Nat.add_zero,hpc i h3,getElem!_pos _ i h4]
    simp [Value.cells],hnS⟩⟩
  (fun k ho=>by
   obtain ⟨cap2,h1,h2⟩:=ho;rw [hsl] at h2;have h2':s.lam b l.length = some (.slice (some ⟨k,0,none⟩) l.length cap2):=h2;rw [hlam] at h2';simp at h2'
   right; rw [← h2'.1]; exact ⟨_,hb,hown⟩)
  (fun k x h=>.inl h) (fun k x h=>by have:=g2.scell _ _ h; show k < w'.heap.size; omega)
 exact ⟨.ret (.tup []),s',rfl,hgo.1,hgo.2, .tup _ _ rfl (fun j h1=>by simp at h1),rfl,rfl⟩
end
open Go.RowKit Go.Shelf Go.Proofs
theorem Spec.Kv {P:Program} {ρ:Ren} (L:Lays8.n4 P ρ) (i0:TypeInfo) (z:Value) (hi0:P.info? (ρ.t 25) = some i0) (hz0:i0.zero = some z) (hs0:i0.size = 1) (hz1:z.cells.size = 1) (hb8:i0.bytes ≤ 8) (n:Nat) (hn:n ≤ 100000) (σ:af) :
  Spec P (ρ.f 4) [.nils 1, .int .i64 n] σ fun r σ'=>r = .ret (.sref 1 σ.length 0 0 0) ∧ σ' = σ ++ [.arr 1 []]:=by
 intro A s cargs g1 g2 g3;subst g1;obtain ⟨c,d,rfl,hc,hd⟩:=g3.two;obtain rfl:=hd.AK;have hc':c = .slice none 0 0:=by cases hc; rfl
 subst hc';obtain ⟨s1,e1,e2,i1,k1,hh⟩:=g2.one;by_cases h0:n = 0
 ·subst h0;refine (Any8.slices_Grow_room L none 0 0 0 s.w (by omega) (by omega) (by omega) (by omega)).mono ?_;rintro e w' ⟨rfl,rfl⟩;obtain ⟨s2,f1,f2,i2,k2,hl⟩:=i1.lO hh 1 none;exact ⟨.ret (.sref 1 s.h.length 0 0 0),s2,by rw [f2,e2],i2,k1.trans k2, .sref0 _ _ none hl,rfl,by rw [f1,e1,bQ]⟩
 ·have hbig:(0 + n) * i0.bytes ≤ 140737488355328:=by
   have:(0 + n) * i0.bytes ≤ 100000 * 8:=Nat.mul_le_mul (by omega) hb8;omega
  refine (Any8.slices_Grow_grow L i0 z hi0 hz0 (by omega) none 0 0 n [] s.w (by omega) (by omega) hbig (by omega) (by simp) (fun _=>rfl) (fun a h=>by cases h)).mono ?_;rintro e w' ⟨rfl,rfl⟩;have hge:0 + n ≤ grownCap s.w (0 + n) 0 (ρ.t 25):=grownCap_ge s.w _ _ _;obtain ⟨G,hG⟩:=zqq (grownCap s.w (0 + n) 0 (ρ.t 25));rw [hG] at hge ⊢;obtain ⟨i2,k2⟩:=i1.drew;have hel:eC { s1 with w:=s1.w.drew } 1 [] [] (([]:List Value).toArray ++ Builtin.zeroCells z.cells (0 + n - 0) ++ Builtin.zeroCells z.cells (G - (0 + n))):=
   ⟨rfl,fun i h=>by simp at h,fun i j h=>by simp at h⟩
  obtain ⟨s2,f1,f2,i3,k3,hr⟩:=i2.ow (b:=s.h.length) (by exact hh) (ρ.t 25) G (by simp) (by
   simp [Builtin.zeroCells,hz1]; omega) hel
  refine ⟨.ret (.sref 1 s.h.length 0 0 0),s2, ?_,i3,(k1.trans k2).trans k3, ?_,rfl, ?_⟩
  ·rw [f2]; simp [e2]
  ·have hsz:s1.w.drew.heap.size = s.w.heap.size:=by rw [e2]; rfl
   simp only [List.length_nil] at hr;rw [hsz] at hr; exact hr
  ·rw [f1]; show s1.h.set _ _ = _; rw [e1,bQ]
end Go.AM
