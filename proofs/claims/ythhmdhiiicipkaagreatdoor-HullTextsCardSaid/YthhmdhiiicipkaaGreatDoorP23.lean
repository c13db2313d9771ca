/- DERIVED: THE SHELF's CONTRACTS AT THIS DUMP, IN PLAIN WORDS (tools/lay-plain.mjs out of 'YthhmdhiiicipkaaGreatDoorSh.lean', which tools/lay-shelf.mjs wrote): THE SAME DECLARATIONS UNDER THE SAME .. -/
import Derived.Shelf.Strings.Builder1
import Derived.Shelf.Strings.OnBuilder
import Derived.Shelf.Strconv.Itoa3
import Derived.Shelf.Strconv.AtoiAll
import Derived.Shelf.Strings.Cut
import Derived.Shelf.Sort.Plain
import Derived.Shelf.Strings.Split
import Derived.Test.YthhmdhiiicipkaaGreatDoorProg
import Derived.Test.YthhmdhiiicipkaaGreatDoorP19
import Derived.Test.YthhmdhiiicipkaaGreatDoorChecked
import Derived.Test.YthhmdhiiicipkaaGreatDoorP22
namespace Go.Proofs
open Go.Shelf
def Tryz.qB:Go.Shelf.Ren:=⟨fun | 169=>121 | n=>n,fun | 70=>181 | 9=>9 | 0=>0 | 72=>183 | 37=>95 | 127=>208 | 3=>3 | 5=>5 | n=>n,fun | n=>n⟩
theorem Tryz.Fs:Go.Proofs.Lays.n169 Tryz.prog Tryz.qB:={
  mixed:=by kernel_rfl
  f169:=Tryz.func121.trans (congrArg some (by kernel_rfl))
  t0:=Tryz.underlying0
  a0:=Tryz.isAgg0
  z0:=Tryz.sizeOf0
  v0:=Tryz.zeroValue0
  t3:=Tryz.underlying3
  a3:=Tryz.isAgg3
  z3:=Tryz.sizeOf3
  v3:=Tryz.zeroValue3
  t9:=Tryz.underlying9
  a9:=Tryz.isAgg9
  z9:=Tryz.sizeOf9
  v9:=Tryz.zeroValue9
  t37:=Tryz.underlying95
  a37:=Tryz.isAgg95
  z37:=Tryz.sizeOf95
  v37:=Tryz.zeroValue95
  t70:=Tryz.underlying181
  a70:=Tryz.isAgg181
  z70:=Tryz.sizeOf181
  v70:=Tryz.zeroValue181
  t72:=Tryz.underlying183
  a72:=Tryz.isAgg183
  z72:=Tryz.sizeOf183
  v72:=Tryz.zeroValue183
  t127:=Tryz.underlying208
  a127:=Tryz.isAgg208
  z127:=Tryz.sizeOf208
  v127:=Tryz.zeroValue208 }
theorem Tryz.o8:Builder.Extra Tryz.prog Tryz.qB:={
  sizeBuilder:=by kernel_rfl
  liesBuilder:=by kernel_rfl
  t5:=Tryz.underlying5
  a5:=Tryz.isAgg5
  z5:=Tryz.sizeOf5
  v5:=Tryz.zeroValue5
  infoByte:=by kernel_rfl
  cellsByte:=by kernel_rfl
  sizeByte:=by kernel_rfl
  neB5:=by decide }
def Tryz.qU:Go.Shelf.Ren:=⟨fun | 156=>118 | 165=>149 | 166=>117 | 169=>121 | 240=>148 | 241=>171 | 276=>170 | 277=>188 | n=>n,fun | 31=>41 | 9=>9 | 3=>3 | 4=>4 | 0=>0 | 20=>20 | 72=>183 | 76=>186 | 70=>181 | 37=>95 | 75=>185 | 127=>208 | 164=>227 | 5=>5 | 80=>120 | n=>n,fun | n=>n⟩
theorem Tryz.Fa:Go.Proofs.Lays.n156 Tryz.prog Tryz.qU:={
  mixed:=by kernel_rfl
  f156:=Tryz.func118.trans (congrArg some (by kernel_rfl))
  f165:=Tryz.func149.trans (congrArg some (by kernel_rfl))
  f166:=Tryz.func117.trans (congrArg some (by kernel_rfl))
  f169:=Tryz.func121.trans (congrArg some (by kernel_rfl))
  f240:=Tryz.func148.trans (congrArg some (by kernel_rfl))
  f241:=Tryz.func171.trans (congrArg some (by kernel_rfl))
  f276:=Tryz.func170.trans (congrArg some (by kernel_rfl))
  f277:=Tryz.func188.trans (congrArg some (by kernel_rfl))
  t0:=Tryz.underlying0
  a0:=Tryz.isAgg0
  z0:=Tryz.sizeOf0
  v0:=Tryz.zeroValue0
  t3:=Tryz.underlying3
  a3:=Tryz.isAgg3
  z3:=Tryz.sizeOf3
  v3:=Tryz.zeroValue3
  t4:=Tryz.underlying4
  a4:=Tryz.isAgg4
  z4:=Tryz.sizeOf4
  v4:=Tryz.zeroValue4
  t9:=Tryz.underlying9
  a9:=Tryz.isAgg9
  z9:=Tryz.sizeOf9
  v9:=Tryz.zeroValue9
  t20:=Tryz.underlying20
  a20:=Tryz.isAgg20
  z20:=Tryz.sizeOf20
  v20:=Tryz.zeroValue20
  t31:=Tryz.underlying41
  a31:=Tryz.isAgg41
  z31:=Tryz.sizeOf41
  v31:=Tryz.zeroValue41
  t37:=Tryz.underlying95
  a37:=Tryz.isAgg95
  z37:=Tryz.sizeOf95
  v37:=Tryz.zeroValue95
  t70:=Tryz.underlying181
  a70:=Tryz.isAgg181
  z70:=Tryz.sizeOf181
  v70:=Tryz.zeroValue181
  t72:=Tryz.underlying183
  a72:=Tryz.isAgg183
  z72:=Tryz.sizeOf183
  v72:=Tryz.zeroValue183
  t75:=Tryz.underlying185
  a75:=Tryz.isAgg185
  z75:=Tryz.sizeOf185
  v75:=Tryz.zeroValue185
  t76:=Tryz.underlying186
  a76:=Tryz.isAgg186
  z76:=Tryz.sizeOf186
  v76:=Tryz.zeroValue186
  t127:=Tryz.underlying208
  a127:=Tryz.isAgg208
  z127:=Tryz.sizeOf208
  v127:=Tryz.zeroValue208
  t164:=Tryz.underlying227
  a164:=Tryz.isAgg227
  z164:=Tryz.sizeOf227
  v164:=Tryz.zeroValue227 }
theorem Tryz.ow:Builder.Extra Tryz.prog Tryz.qU:={
  sizeBuilder:=by kernel_rfl
  liesBuilder:=by kernel_rfl
  t5:=Tryz.underlying5
  a5:=Tryz.isAgg5
  z5:=Tryz.sizeOf5
  v5:=Tryz.zeroValue5
  infoByte:=by kernel_rfl
  cellsByte:=by kernel_rfl
  sizeByte:=by kernel_rfl
  neB5:=by decide }
def Tryz.wW:Go.Shelf.Ren:=⟨fun | 171=>120 | 243=>150 | 246=>172 | 283=>189 | 284=>190 | 285=>191 | 286=>192 | 129=>169 | 317=>202 | 318=>203 | 319=>204 | 320=>205 | 337=>209 | 338=>210 | n=>n,fun | 3=>3 | 9=>9 | 2=>2 | 4=>4 | 171=>242 | 0=>0 | 53=>226 | 37=>95 | 5=>5 | 173=>244 | 212=>258 | 51=>224 | 20=>20 | 213=>259 | 46=>206 | 232=>274 | 233=>275 | n=>n,fun | 17=>1 | 18=>6 | 19=>7 | n=>n⟩
theorem Tryz.Cp:Go.Proofs.LaysM.n171 Tryz.prog Tryz.wW:={
  mixed:=by kernel_rfl
  f129:=Tryz.func169.trans (congrArg some (by kernel_rfl))
  f171:=Tryz.func120.trans (congrArg some (by kernel_rfl))
  f243:=Tryz.func150.trans (congrArg some (by kernel_rfl))
  f246:=Tryz.func172.trans (congrArg some (by kernel_rfl))
  f283:=Tryz.func189.trans (congrArg some (by kernel_rfl))
  f284:=Tryz.func190.trans (congrArg some (by kernel_rfl))
  f285:=Tryz.func191.trans (congrArg some (by kernel_rfl))
  f286:=Tryz.func192.trans (congrArg some (by kernel_rfl))
  f317:=Tryz.func202.trans (congrArg some (by kernel_rfl))
  f318:=Tryz.func203.trans (congrArg some (by kernel_rfl))
  f319:=Tryz.func204.trans (congrArg some (by kernel_rfl))
  f320:=Tryz.func205.trans (congrArg some (by kernel_rfl))
  f337:=Tryz.func209.trans (congrArg some (by kernel_rfl))
  f338:=Tryz.func210.trans (congrArg some (by kernel_rfl))
  t0:=Tryz.underlying0
  a0:=Tryz.isAgg0
  z0:=Tryz.sizeOf0
  v0:=Tryz.zeroValue0
  t2:=Tryz.underlying2
  a2:=Tryz.isAgg2
  z2:=Tryz.sizeOf2
  v2:=Tryz.zeroValue2
  t3:=Tryz.underlying3
  a3:=Tryz.isAgg3
  z3:=Tryz.sizeOf3
  v3:=Tryz.zeroValue3
  t4:=Tryz.underlying4
  a4:=Tryz.isAgg4
  z4:=Tryz.sizeOf4
  v4:=Tryz.zeroValue4
  t5:=Tryz.underlying5
  a5:=Tryz.isAgg5
  z5:=Tryz.sizeOf5
  v5:=Tryz.zeroValue5
  t9:=Tryz.underlying9
  a9:=Tryz.isAgg9
  z9:=Tryz.sizeOf9
  v9:=Tryz.zeroValue9
  t20:=Tryz.underlying20
  a20:=Tryz.isAgg20
  z20:=Tryz.sizeOf20
  v20:=Tryz.zeroValue20
  t37:=Tryz.underlying95
  a37:=Tryz.isAgg95
  z37:=Tryz.sizeOf95
  v37:=Tryz.zeroValue95
  t46:=Tryz.underlying206
  a46:=Tryz.isAgg206
  z46:=Tryz.sizeOf206
  v46:=Tryz.zeroValue206
  t51:=Tryz.underlying224
  a51:=Tryz.isAgg224
  z51:=Tryz.sizeOf224
  v51:=Tryz.zeroValue224
  t53:=Tryz.underlying226
  a53:=Tryz.isAgg226
  z53:=Tryz.sizeOf226
  v53:=Tryz.zeroValue226
  t171:=Tryz.underlying242
  a171:=Tryz.isAgg242
  z171:=Tryz.sizeOf242
  v171:=Tryz.zeroValue242
  t173:=Tryz.underlying244
  a173:=Tryz.isAgg244
  z173:=Tryz.sizeOf244
  v173:=Tryz.zeroValue244
  t212:=Tryz.underlying258
  a212:=Tryz.isAgg258
  z212:=Tryz.sizeOf258
  v212:=Tryz.zeroValue258
  t213:=Tryz.underlying259
  a213:=Tryz.isAgg259
  z213:=Tryz.sizeOf259
  t232:=Tryz.underlying274
  a232:=Tryz.isAgg274
  z232:=Tryz.sizeOf274
  v232:=Tryz.zeroValue274
  t233:=Tryz.underlying275
  a233:=Tryz.isAgg275
  z233:=Tryz.sizeOf275
  v233:=Tryz.zeroValue275
  g17:=by kernel_rfl
  g18:=by kernel_rfl
  g19:=by kernel_rfl
  i0:=by kernel_rfl
  i2:=by kernel_rfl
  i3:=by kernel_rfl
  i4:=by kernel_rfl
  i5:=by kernel_rfl
  i9:=by kernel_rfl
  i20:=by kernel_rfl
  i37:=by kernel_rfl
  i46:=by kernel_rfl
  i51:=by kernel_rfl
  i53:=by kernel_rfl
  i171:=by kernel_rfl
  i173:=by kernel_rfl
  i212:=by kernel_rfl
  i232:=by kernel_rfl
  i233:=by kernel_rfl
  m17:=by kernel_rfl
  m18:=by kernel_rfl
  m19:=by kernel_rfl }
def Tryz.wY:Go.Shelf.Ren:=⟨fun | 172=>155 | 244=>180 | 245=>181 | 247=>196 | 279=>197 | 280=>198 | 281=>199 | 282=>200 | 287=>206 | 316=>207 | 171=>120 | 205=>208 | 321=>211 | 322=>212 | 243=>150 | 246=>172 | 283=>189 | 284=>190 | 285=>191 | 286=>192 | 129=>169 | 317=>202 | 318=>203 | 319=>204 | 320=>205 | 337=>209 | 338=>210 | n=>n,fun | 9=>9 | 3=>3 | 75=>185 | 76=>186 | 4=>4 | 5=>5 | 167=>248 | 37=>95 | 0=>0 | 85=>249 | 2=>2 | 168=>251 | 53=>226 | 175=>264 | 46=>206 | 210=>268 | 127=>208 | 145=>273 | 143=>271 | 21=>21 | 171=>242 | 173=>244 | 212=>258 | 51=>224 | 20=>20 | 213=>259 | 232=>274 | 233=>275 | 80=>120 | n=>n,fun | 15=>4 | 16=>5 | 17=>1 | 18=>6 | 19=>7 | n=>n⟩
theorem Tryz.CW:Go.Proofs.LaysC.n172 Tryz.prog Tryz.wY:={
  mixed:=by kernel_rfl
  f129:=Tryz.func169.trans (congrArg some (by kernel_rfl))
  f171:=Tryz.func120.trans (congrArg some (by kernel_rfl))
  f172:=Tryz.func155.trans (congrArg some (by kernel_rfl))
  f205:=Tryz.func208.trans (congrArg some (by kernel_rfl))
  f243:=Tryz.func150.trans (congrArg some (by kernel_rfl))
  f244:=Tryz.func180.trans (congrArg some (by kernel_rfl))
  f245:=Tryz.func181.trans (congrArg some (by kernel_rfl))
  f246:=Tryz.func172.trans (congrArg some (by kernel_rfl))
  f247:=Tryz.func196.trans (congrArg some (by kernel_rfl))
  f279:=Tryz.func197.trans (congrArg some (by kernel_rfl))
  f280:=Tryz.func198.trans (congrArg some (by kernel_rfl))
  f281:=Tryz.func199.trans (congrArg some (by kernel_rfl))
  f282:=Tryz.func200.trans (congrArg some (by kernel_rfl))
  f283:=Tryz.func189.trans (congrArg some (by kernel_rfl))
  f284:=Tryz.func190.trans (congrArg some (by kernel_rfl))
  f285:=Tryz.func191.trans (congrArg some (by kernel_rfl))
  f286:=Tryz.func192.trans (congrArg some (by kernel_rfl))
  f287:=Tryz.func206.trans (congrArg some (by kernel_rfl))
  f316:=Tryz.func207.trans (congrArg some (by kernel_rfl))
  f317:=Tryz.func202.trans (congrArg some (by kernel_rfl))
  f318:=Tryz.func203.trans (congrArg some (by kernel_rfl))
  f319:=Tryz.func204.trans (congrArg some (by kernel_rfl))
  f320:=Tryz.func205.trans (congrArg some (by kernel_rfl))
  f321:=Tryz.func211.trans (congrArg some (by kernel_rfl))
  f322:=Tryz.func212.trans (congrArg some (by kernel_rfl))
  f337:=Tryz.func209.trans (congrArg some (by kernel_rfl))
  f338:=Tryz.func210.trans (congrArg some (by kernel_rfl))
  t0:=Tryz.underlying0
  a0:=Tryz.isAgg0
  z0:=Tryz.sizeOf0
  v0:=Tryz.zeroValue0
  t2:=Tryz.underlying2
  a2:=Tryz.isAgg2
  z2:=Tryz.sizeOf2
  v2:=Tryz.zeroValue2
  t3:=Tryz.underlying3
  a3:=Tryz.isAgg3
  z3:=Tryz.sizeOf3
  v3:=Tryz.zeroValue3
  t4:=Tryz.underlying4
  a4:=Tryz.isAgg4
  z4:=Tryz.sizeOf4
  v4:=Tryz.zeroValue4
  t5:=Tryz.underlying5
  a5:=Tryz.isAgg5
  z5:=Tryz.sizeOf5
  v5:=Tryz.zeroValue5
  t9:=Tryz.underlying9
  a9:=Tryz.isAgg9
  z9:=Tryz.sizeOf9
  v9:=Tryz.zeroValue9
  t20:=Tryz.underlying20
  a20:=Tryz.isAgg20
  z20:=Tryz.sizeOf20
  v20:=Tryz.zeroValue20
  t21:=Tryz.underlying21
  a21:=Tryz.isAgg21
  z21:=Tryz.sizeOf21
  v21:=Tryz.zeroValue21
  t37:=Tryz.underlying95
  a37:=Tryz.isAgg95
  z37:=Tryz.sizeOf95
  v37:=Tryz.zeroValue95
  t46:=Tryz.underlying206
  a46:=Tryz.isAgg206
  z46:=Tryz.sizeOf206
  v46:=Tryz.zeroValue206
  t51:=Tryz.underlying224
  a51:=Tryz.isAgg224
  z51:=Tryz.sizeOf224
  v51:=Tryz.zeroValue224
  t53:=Tryz.underlying226
  a53:=Tryz.isAgg226
  z53:=Tryz.sizeOf226
  v53:=Tryz.zeroValue226
  t75:=Tryz.underlying185
  a75:=Tryz.isAgg185
  z75:=Tryz.sizeOf185
  v75:=Tryz.zeroValue185
  t76:=Tryz.underlying186
  a76:=Tryz.isAgg186
  z76:=Tryz.sizeOf186
  v76:=Tryz.zeroValue186
  t85:=Tryz.underlying249
  a85:=Tryz.isAgg249
  z85:=Tryz.sizeOf249
  v85:=Tryz.zeroValue249
  t127:=Tryz.underlying208
  a127:=Tryz.isAgg208
  z127:=Tryz.sizeOf208
  v127:=Tryz.zeroValue208
  t143:=Tryz.underlying271
  a143:=Tryz.isAgg271
  z143:=Tryz.sizeOf271
  v143:=Tryz.zeroValue271
  t145:=Tryz.underlying273
  a145:=Tryz.isAgg273
  z145:=Tryz.sizeOf273
  v145:=Tryz.zeroValue273
  t167:=Tryz.underlying248
  a167:=Tryz.isAgg248
  z167:=Tryz.sizeOf248
  v167:=Tryz.zeroValue248
  t168:=Tryz.underlying251
  a168:=Tryz.isAgg251
  z168:=Tryz.sizeOf251
  v168:=Tryz.zeroValue251
  t171:=Tryz.underlying242
  a171:=Tryz.isAgg242
  z171:=Tryz.sizeOf242
  v171:=Tryz.zeroValue242
  t173:=Tryz.underlying244
  a173:=Tryz.isAgg244
  z173:=Tryz.sizeOf244
  v173:=Tryz.zeroValue244
  t175:=Tryz.underlying264
  a175:=Tryz.isAgg264
  z175:=Tryz.sizeOf264
  v175:=Tryz.zeroValue264
  t210:=Tryz.underlying268
  a210:=Tryz.isAgg268
  z210:=Tryz.sizeOf268
  v210:=Tryz.zeroValue268
  t212:=Tryz.underlying258
  a212:=Tryz.isAgg258
  z212:=Tryz.sizeOf258
  v212:=Tryz.zeroValue258
  t213:=Tryz.underlying259
  a213:=Tryz.isAgg259
  z213:=Tryz.sizeOf259
  t232:=Tryz.underlying274
  a232:=Tryz.isAgg274
  z232:=Tryz.sizeOf274
  v232:=Tryz.zeroValue274
  t233:=Tryz.underlying275
  a233:=Tryz.isAgg275
  z233:=Tryz.sizeOf275
  v233:=Tryz.zeroValue275
  g15:=by kernel_rfl
  g16:=by kernel_rfl
  g17:=by kernel_rfl
  g18:=by kernel_rfl
  g19:=by kernel_rfl
  t80:=Tryz.underlying120
  a80:=Tryz.isAgg120
  z80:=Tryz.sizeOf120
  v80:=Tryz.zeroValue120
  i0:=by kernel_rfl
  i2:=by kernel_rfl
  i3:=by kernel_rfl
  i4:=by kernel_rfl
  i5:=by kernel_rfl
  i9:=by kernel_rfl
  i20:=by kernel_rfl
  i21:=by kernel_rfl
  i37:=by kernel_rfl
  i46:=by kernel_rfl
  i51:=by kernel_rfl
  i53:=by kernel_rfl
  i75:=by kernel_rfl
  i76:=by kernel_rfl
  i80:=by kernel_rfl
  i85:=by kernel_rfl
  i127:=by kernel_rfl
  i143:=by kernel_rfl
  i145:=by kernel_rfl
  i167:=by kernel_rfl
  i168:=by kernel_rfl
  i171:=by kernel_rfl
  i173:=by kernel_rfl
  i175:=by kernel_rfl
  i210:=by kernel_rfl
  i212:=by kernel_rfl
  i232:=by kernel_rfl
  i233:=by kernel_rfl
  m15:=by kernel_rfl
  m16:=by kernel_rfl
  m17:=by kernel_rfl
  m18:=by kernel_rfl
  m19:=by kernel_rfl
  c0:=by kernel_rfl
  c2:=by kernel_rfl
  c3:=by kernel_rfl
  c4:=by kernel_rfl
  c5:=by kernel_rfl
  c9:=by kernel_rfl
  c20:=by kernel_rfl
  c21:=by kernel_rfl
  c37:=by kernel_rfl
  c46:=by kernel_rfl
  c51:=by kernel_rfl
  c53:=by kernel_rfl
  c75:=by kernel_rfl
  c76:=by kernel_rfl
  c80:=by kernel_rfl
  c85:=by kernel_rfl
  c127:=by kernel_rfl
  c143:=by kernel_rfl
  c145:=by kernel_rfl
  c167:=by kernel_rfl
  c168:=by kernel_rfl
  c171:=by kernel_rfl
  c173:=by kernel_rfl
  c175:=by kernel_rfl
  c210:=by kernel_rfl
  c212:=by kernel_rfl
  c213:=by kernel_rfl
  c232:=by kernel_rfl
  c233:=by kernel_rfl }
def Tryz.x0:Go.Shelf.Ren:=⟨fun | 145=>86 | 220=>124 | 219=>151 | 217=>173 | 225=>174 | 224=>175 | 267=>176 | 266=>193 | 314=>194 | n=>n,fun | 9=>9 | 4=>4 | 59=>146 | 3=>3 | 5=>5 | 46=>206 | 146=>246 | 51=>224 | n=>n,fun | 1=>0 | n=>n⟩
theorem Tryz.FA:Go.Proofs.Lays.n145 Tryz.prog Tryz.x0:={
  mixed:=by kernel_rfl
  f145:=Tryz.func86.trans (congrArg some (by kernel_rfl))
  f217:=Tryz.func173.trans (congrArg some (by kernel_rfl))
  f219:=Tryz.func151.trans (congrArg some (by kernel_rfl))
  f220:=Tryz.func124.trans (congrArg some (by kernel_rfl))
  f224:=Tryz.func175.trans (congrArg some (by kernel_rfl))
  f225:=Tryz.func174.trans (congrArg some (by kernel_rfl))
  f266:=Tryz.func193.trans (congrArg some (by kernel_rfl))
  f267:=Tryz.func176.trans (congrArg some (by kernel_rfl))
  f314:=Tryz.func194.trans (congrArg some (by kernel_rfl))
  t3:=Tryz.underlying3
  a3:=Tryz.isAgg3
  z3:=Tryz.sizeOf3
  v3:=Tryz.zeroValue3
  t4:=Tryz.underlying4
  a4:=Tryz.isAgg4
  z4:=Tryz.sizeOf4
  v4:=Tryz.zeroValue4
  t5:=Tryz.underlying5
  a5:=Tryz.isAgg5
  z5:=Tryz.sizeOf5
  v5:=Tryz.zeroValue5
  t9:=Tryz.underlying9
  a9:=Tryz.isAgg9
  z9:=Tryz.sizeOf9
  v9:=Tryz.zeroValue9
  t46:=Tryz.underlying206
  a46:=Tryz.isAgg206
  z46:=Tryz.sizeOf206
  v46:=Tryz.zeroValue206
  t51:=Tryz.underlying224
  a51:=Tryz.isAgg224
  z51:=Tryz.sizeOf224
  v51:=Tryz.zeroValue224
  t59:=Tryz.underlying146
  a59:=Tryz.isAgg146
  z59:=Tryz.sizeOf146
  v59:=Tryz.zeroValue146
  t146:=Tryz.underlying246
  a146:=Tryz.isAgg246
  z146:=Tryz.sizeOf246
  v146:=Tryz.zeroValue246
  g1:=by kernel_rfl }
def Tryz.xw:Go.Shelf.Ren:=⟨fun | 190=>112 | 125=>147 | 258=>146 | 128=>168 | 129=>169 | 302=>159 | 303=>160 | 304=>161 | 305=>162 | 306=>163 | 307=>164 | 308=>165 | 309=>166 | 310=>167 | 333=>182 | 329=>183 | 330=>184 | 334=>185 | 335=>186 | 336=>187 | 344=>201 | n=>n,fun | 31=>41 | 9=>9 | 3=>3 | 46=>206 | 0=>0 | 51=>224 | 53=>226 | 4=>4 | 183=>216 | 182=>215 | 131=>221 | 5=>5 | 218=>235 | 222=>239 | 228=>254 | 229=>255 | n=>n,fun | n=>n⟩
theorem Tryz.EZ:Go.Proofs.Lays.n190 Tryz.prog Tryz.xw:={
  mixed:=by kernel_rfl
  f125:=Tryz.func147.trans (congrArg some (by kernel_rfl))
  f128:=Tryz.func168.trans (congrArg some (by kernel_rfl))
  f129:=Tryz.func169.trans (congrArg some (by kernel_rfl))
  f190:=Tryz.func112.trans (congrArg some (by kernel_rfl))
  f258:=Tryz.func146.trans (congrArg some (by kernel_rfl))
  f302:=Tryz.func159.trans (congrArg some (by kernel_rfl))
  f303:=Tryz.func160.trans (congrArg some (by kernel_rfl))
  f304:=Tryz.func161.trans (congrArg some (by kernel_rfl))
  f305:=Tryz.func162.trans (congrArg some (by kernel_rfl))
  f306:=Tryz.func163.trans (congrArg some (by kernel_rfl))
  f307:=Tryz.func164.trans (congrArg some (by kernel_rfl))
  f308:=Tryz.func165.trans (congrArg some (by kernel_rfl))
  f309:=Tryz.func166.trans (congrArg some (by kernel_rfl))
  f310:=Tryz.func167.trans (congrArg some (by kernel_rfl))
  f329:=Tryz.func183.trans (congrArg some (by kernel_rfl))
  f330:=Tryz.func184.trans (congrArg some (by kernel_rfl))
  f333:=Tryz.func182.trans (congrArg some (by kernel_rfl))
  f334:=Tryz.func185.trans (congrArg some (by kernel_rfl))
  f335:=Tryz.func186.trans (congrArg some (by kernel_rfl))
  f336:=Tryz.func187.trans (congrArg some (by kernel_rfl))
  f344:=Tryz.func201.trans (congrArg some (by kernel_rfl))
  t0:=Tryz.underlying0
  a0:=Tryz.isAgg0
  z0:=Tryz.sizeOf0
  v0:=Tryz.zeroValue0
  t3:=Tryz.underlying3
  a3:=Tryz.isAgg3
  z3:=Tryz.sizeOf3
  v3:=Tryz.zeroValue3
  t4:=Tryz.underlying4
  a4:=Tryz.isAgg4
  z4:=Tryz.sizeOf4
  v4:=Tryz.zeroValue4
  t5:=Tryz.underlying5
  a5:=Tryz.isAgg5
  z5:=Tryz.sizeOf5
  v5:=Tryz.zeroValue5
  t9:=Tryz.underlying9
  a9:=Tryz.isAgg9
  z9:=Tryz.sizeOf9
  v9:=Tryz.zeroValue9
  t31:=Tryz.underlying41
  a31:=Tryz.isAgg41
  z31:=Tryz.sizeOf41
  v31:=Tryz.zeroValue41
  t46:=Tryz.underlying206
  a46:=Tryz.isAgg206
  z46:=Tryz.sizeOf206
  v46:=Tryz.zeroValue206
  t51:=Tryz.underlying224
  a51:=Tryz.isAgg224
  z51:=Tryz.sizeOf224
  v51:=Tryz.zeroValue224
  t53:=Tryz.underlying226
  a53:=Tryz.isAgg226
  z53:=Tryz.sizeOf226
  v53:=Tryz.zeroValue226
  t131:=Tryz.underlying221
  a131:=Tryz.isAgg221
  z131:=Tryz.sizeOf221
  v131:=Tryz.zeroValue221
  t182:=Tryz.underlying215
  a182:=Tryz.isAgg215
  z182:=Tryz.sizeOf215
  v182:=Tryz.zeroValue215
  t183:=Tryz.underlying216
  a183:=Tryz.isAgg216
  z183:=Tryz.sizeOf216
  v183:=Tryz.zeroValue216
  t218:=Tryz.underlying235
  a218:=Tryz.isAgg235
  z218:=Tryz.sizeOf235
  v218:=Tryz.zeroValue235
  t222:=Tryz.underlying239
  a222:=Tryz.isAgg239
  z222:=Tryz.sizeOf239
  v222:=Tryz.zeroValue239
  t228:=Tryz.underlying254
  a228:=Tryz.isAgg254
  z228:=Tryz.sizeOf254
  v228:=Tryz.zeroValue254
  t229:=Tryz.underlying255
  a229:=Tryz.isAgg255
  z229:=Tryz.sizeOf255
  v229:=Tryz.zeroValue255 }
def Tryz.xc:Go.Shelf.Ren:=⟨fun | 146=>88 | 221=>125 | 268=>152 | 138=>153 | 143=>154 | 195=>177 | 197=>178 | 218=>179 | 219=>151 | 260=>195 | 217=>173 | 225=>174 | 224=>175 | 267=>176 | 266=>193 | 314=>194 | n=>n,fun | 9=>9 | 31=>41 | 3=>3 | 4=>4 | 0=>0 | 105=>232 | 21=>21 | 5=>5 | 46=>206 | 119=>260 | 139=>263 | 138=>262 | 146=>246 | 51=>224 | n=>n,fun | 1=>0 | 3=>2 | 4=>3 | n=>n⟩
theorem Tryz.Fp:Go.Proofs.Lays.n146 Tryz.prog Tryz.xc:={
  mixed:=by kernel_rfl
  f138:=Tryz.func153.trans (congrArg some (by kernel_rfl))
  f143:=Tryz.func154.trans (congrArg some (by kernel_rfl))
  f146:=Tryz.func88.trans (congrArg some (by kernel_rfl))
  f195:=Tryz.func177.trans (congrArg some (by kernel_rfl))
  f197:=Tryz.func178.trans (congrArg some (by kernel_rfl))
  f217:=Tryz.func173.trans (congrArg some (by kernel_rfl))
  f218:=Tryz.func179.trans (congrArg some (by kernel_rfl))
  f219:=Tryz.func151.trans (congrArg some (by kernel_rfl))
  f221:=Tryz.func125.trans (congrArg some (by kernel_rfl))
  f224:=Tryz.func175.trans (congrArg some (by kernel_rfl))
  f225:=Tryz.func174.trans (congrArg some (by kernel_rfl))
  f260:=Tryz.func195.trans (congrArg some (by kernel_rfl))
  f266:=Tryz.func193.trans (congrArg some (by kernel_rfl))
  f267:=Tryz.func176.trans (congrArg some (by kernel_rfl))
  f268:=Tryz.func152.trans (congrArg some (by kernel_rfl))
  f314:=Tryz.func194.trans (congrArg some (by kernel_rfl))
  t0:=Tryz.underlying0
  a0:=Tryz.isAgg0
  z0:=Tryz.sizeOf0
  v0:=Tryz.zeroValue0
  t3:=Tryz.underlying3
  a3:=Tryz.isAgg3
  z3:=Tryz.sizeOf3
  v3:=Tryz.zeroValue3
  t4:=Tryz.underlying4
  a4:=Tryz.isAgg4
  z4:=Tryz.sizeOf4
  v4:=Tryz.zeroValue4
  t5:=Tryz.underlying5
  a5:=Tryz.isAgg5
  z5:=Tryz.sizeOf5
  v5:=Tryz.zeroValue5
  t9:=Tryz.underlying9
  a9:=Tryz.isAgg9
  z9:=Tryz.sizeOf9
  v9:=Tryz.zeroValue9
  t21:=Tryz.underlying21
  a21:=Tryz.isAgg21
  z21:=Tryz.sizeOf21
  v21:=Tryz.zeroValue21
  t31:=Tryz.underlying41
  a31:=Tryz.isAgg41
  z31:=Tryz.sizeOf41
  v31:=Tryz.zeroValue41
  t46:=Tryz.underlying206
  a46:=Tryz.isAgg206
  z46:=Tryz.sizeOf206
  v46:=Tryz.zeroValue206
  t51:=Tryz.underlying224
  a51:=Tryz.isAgg224
  z51:=Tryz.sizeOf224
  v51:=Tryz.zeroValue224
  t105:=Tryz.underlying232
  a105:=Tryz.isAgg232
  z105:=Tryz.sizeOf232
  v105:=Tryz.zeroValue232
  t119:=Tryz.underlying260
  a119:=Tryz.isAgg260
  z119:=Tryz.sizeOf260
  t138:=Tryz.underlying262
  a138:=Tryz.isAgg262
  z138:=Tryz.sizeOf262
  v138:=Tryz.zeroValue262
  t139:=Tryz.underlying263
  a139:=Tryz.isAgg263
  z139:=Tryz.sizeOf263
  v139:=Tryz.zeroValue263
  t146:=Tryz.underlying246
  a146:=Tryz.isAgg246
  z146:=Tryz.sizeOf246
  v146:=Tryz.zeroValue246
  g1:=by kernel_rfl
  g3:=by kernel_rfl
  g4:=by kernel_rfl }
end Go.Proofs
namespace Go.AM
open Go.RowKit Go.Shelf Go.Proofs
set_option maxHeartbeats 1000000 in
set_option maxRecDepth 100000 in
theorem zM (b:Nat) (w:World) {p v:Value} (hp:Aa b p) (hbk:w.heap[b]? = some (.cells #[p,v] 183 (0,0))) :
    Calls Tryz.prog 148 #[.pointer (some ⟨b,0,none⟩)] w fun e w'=>e = .returned (.tuple #[]) ∧ w.grownBy w' (some b) ∧ w'.heap.size = w.heap.size ∧ w'.heap[b]? = some (.cells #[.pointer (some ⟨b,0,none⟩),v] 183 (0,0)):=by
  have hc:w.cell? ⟨b,0,none⟩ = some p:=by rw [Lib.cell_of_heap hbk]; rfl
  have hsize:(Tryz.prog.info? 183).map (·.size) = some 2:=by kernel_rfl
  obtain ⟨j,hj,hjs⟩:=Option.map_eq_some_iff.1 hsize
  have hlies:liesAt Tryz.prog Tryz.prog.depth 183 (2 / Tryz.prog.cellsOf 183) 0 183 1 = true:=by kernel_rfl
  have mixed:Tryz.prog.follows .mixedOrders = true:=by kernel_rfl
  have t3:=Tryz.underlying3; have a3:=Tryz.isAgg3; have z3:=Tryz.sizeOf3; have v3:=Tryz.zeroValue3; have u3:=Tryz.runUnderlying3
  have t4:=Tryz.underlying4; have a4:=Tryz.isAgg4; have z4:=Tryz.sizeOf4; have v4:=Tryz.zeroValue4; have u4:=Tryz.runUnderlying4
  have t5:=Tryz.underlying5; have a5:=Tryz.isAgg5; have z5:=Tryz.sizeOf5; have v5:=Tryz.zeroValue5; have u5:=Tryz.runUnderlying5
  have t9:=Tryz.underlying9; have a9:=Tryz.isAgg9; have z9:=Tryz.sizeOf9; have v9:=Tryz.zeroValue9; have u9:=Tryz.runUnderlying9
  have t95:=Tryz.underlying95; have a95:=Tryz.isAgg95; have z95:=Tryz.sizeOf95; have v95:=Tryz.zeroValue95; have u95:=Tryz.runUnderlying95
  have t181:=Tryz.underlying181; have a181:=Tryz.isAgg181; have z181:=Tryz.sizeOf181; have v181:=Tryz.zeroValue181; have u181:=Tryz.runUnderlying181
  have t183:=Tryz.underlying183; have a183:=Tryz.isAgg183; have z183:=Tryz.sizeOf183; have v183:=Tryz.zeroValue183; have u183:=Tryz.runUnderlying183
  have t185:=Tryz.underlying185; have a185:=Tryz.isAgg185; have z185:=Tryz.sizeOf185; have v185:=Tryz.zeroValue185; have u185:=Tryz.runUnderlying185
  have t227:=Tryz.underlying227; have a227:=Tryz.isAgg227; have z227:=Tryz.sizeOf227; have v227:=Tryz.zeroValue227; have u227:=Tryz.runUnderlying227
  rcases hp with rfl | rfl
  · have hsh:w.shape? b = some (183,2):=by simp [World.shape?,hbk]
    have hfz:w.frozen? ⟨b,0,none⟩ = false:=by simp [World.frozen?,hbk]
    have key:Calls Tryz.prog 148 #[.pointer (some ⟨b,0,none⟩)] w fun e w'=>e = .returned (.tuple #[]) ∧ w' = w.setCell ⟨b,0,none⟩ (.pointer (some ⟨b,0,none⟩)):=by
      go_enter Tryz.func148,Tryz.ntmps148
      go_wp2
      rw [Lib.run_to_unsafe w ⟨b,0,none⟩ t181 t227 hj (by rw [hjs]; decide) hsh (Nat.zero_lt_succ 1)]
      simp only [Result.andThen]
      rw [Oper.upon_value]
      go_wp2
      rw [run_callFunc_extern Tryz.func170 (by kernel_rfl) (by kernel_rfl) (by kernel_rfl) (e:=Extern.AbiNoEscape.same) (by kernel_rfl)]
      rw [Lib.run_noEscape]
      simp only [Result.andThen]
      rw [Oper.upon_value]
      go_wp2
      rw [Lib.run_from_unsafe w ⟨b,0,none⟩ t227 t181 hj hsh hlies]
      simp only [Result.andThen]
      rw [Oper.upon_value]
      go_wp2
      go_end0
      exact ⟨rfl,rfl⟩
    refine key.mono ?_
    rintro e w' ⟨rfl,rfl⟩
    refine ⟨rfl,⟨rfl,rfl,rfl,by simp [World.setCell],fun k _ hk=>Below.heap_setCell _ _ _ _ (fun e=>hk (by simp [e]))⟩,by simp [World.setCell], ?_⟩
    simp [World.setCell,Array.getElem?_modify,hbk]
  · have key:Calls Tryz.prog 148 #[.pointer (some ⟨b,0,none⟩)] w fun e w'=>e = .returned (.tuple #[]) ∧ w' = w:=by
      go_enter Tryz.func148,Tryz.ntmps148
      go_wp2
      rw [Lib.run_neq_ptr_same w _ t181 hj]
      go_wp2
      go_end0
      exact ⟨rfl,rfl⟩
    refine key.mono ?_
    rintro e w' ⟨rfl,rfl⟩
    exact ⟨rfl,⟨rfl,rfl,rfl,Nat.le_refl _,fun _ _ _=>rfl⟩,rfl,hbk⟩
set_option maxHeartbeats 2000000 in
set_option maxRecDepth 100000 in
theorem z6 (B b:Nat) (bs:List Value) (y:ByteArray) (w:World) {p v:Value} (hp:Aa b p) (hbk:w.heap[b]? = some (.cells #[p,v] 183 (0,0)))
    (hown:w.ownsRow B 5 1 v bs.length bs) (hne:v.ownBlock ≠ some b) (hlen:bs.length + y.size ≤ 140737488355328) (hBw:B ≤ w.heap.size) :
    Calls Tryz.prog 117 #[.pointer (some ⟨b,0,none⟩), .string y] w (xo 183 5 B b bs y w v):=by
  have hbyte:(Tryz.prog.info? 5).map (fun i=>(i.zero,i.size,i.bytes)) = some (some (.int .u8 0),1,1):=by kernel_rfl
  obtain ⟨i0,hi,hz0,hz1,hz2⟩:=info_parts hbyte
  have hlt:b < w.heap.size:=(Array.getElem?_eq_some_iff.1 hbk).1
  have mixed:Tryz.prog.follows .mixedOrders = true:=by kernel_rfl
  have t3:=Tryz.underlying3; have a3:=Tryz.isAgg3; have z3:=Tryz.sizeOf3; have v3:=Tryz.zeroValue3; have u3:=Tryz.runUnderlying3
  have t4:=Tryz.underlying4; have a4:=Tryz.isAgg4; have z4:=Tryz.sizeOf4; have v4:=Tryz.zeroValue4; have u4:=Tryz.runUnderlying4
  have t5:=Tryz.underlying5; have a5:=Tryz.isAgg5; have z5:=Tryz.sizeOf5; have v5:=Tryz.zeroValue5; have u5:=Tryz.runUnderlying5
  have t9:=Tryz.underlying9; have a9:=Tryz.isAgg9; have z9:=Tryz.sizeOf9; have v9:=Tryz.zeroValue9; have u9:=Tryz.runUnderlying9
  have t95:=Tryz.underlying95; have a95:=Tryz.isAgg95; have z95:=Tryz.sizeOf95; have v95:=Tryz.zeroValue95; have u95:=Tryz.runUnderlying95
  have t181:=Tryz.underlying181; have a181:=Tryz.isAgg181; have z181:=Tryz.sizeOf181; have v181:=Tryz.zeroValue181; have u181:=Tryz.runUnderlying181
  have t183:=Tryz.underlying183; have a183:=Tryz.isAgg183; have z183:=Tryz.sizeOf183; have v183:=Tryz.zeroValue183; have u183:=Tryz.runUnderlying183
  have t185:=Tryz.underlying185; have a185:=Tryz.isAgg185; have z185:=Tryz.sizeOf185; have v185:=Tryz.zeroValue185; have u185:=Tryz.runUnderlying185
  have t227:=Tryz.underlying227; have a227:=Tryz.isAgg227; have z227:=Tryz.sizeOf227; have v227:=Tryz.zeroValue227; have u227:=Tryz.runUnderlying227
  have ecc:∀ args w,(callFunc 148 args).run Tryz.prog w = .ok (.enter 148 args) w:=enters_of Tryz.func148 (by kernel_rfl) rfl
  go_enter Tryz.func117,Tryz.ntmps117
  go_wp2_with (go_at_fn 148; refine (zM b _ hp hbk).mono ?_)
  rintro e w1 ⟨rfl,hg1,hs1,hb1⟩
  have hown1:w1.ownsRow B 5 1 v bs.length bs:=hown.kept hg1 (.inr hne)
  have c0:w1.cell? ⟨b,0,none⟩ = some (.pointer (some ⟨b,0,none⟩)):=by rw [Lib.cell_of_heap hb1]; rfl
  have c1:w1.cell? ⟨b,1,none⟩ = some v:=by rw [Lib.cell_of_heap hb1]; rfl
  go_wp2_with (at_builtin; refine mT rfl _ _ 95 9 rfl B 5 i0 t95 t9 hi hz0 hz1 hz2 v bs.length bs rfl hown1 y rfl hlen ?c5 ?_)
  case c5=>omega
  intro v' w2 hown' hgrow hwh
  have hb2:w2.heap[b]? = some (.cells #[.pointer (some ⟨b,0,none⟩),v] 183 (0,0)):=by
    rw [hgrow.block b (by omega) (fun e=>hne e.symm)]
    exact hb1
  have d0:w2.cell? ⟨b,0,none⟩ = some (.pointer (some ⟨b,0,none⟩)):=by rw [Lib.cell_of_heap hb2]; rfl
  have d1:w2.cell? ⟨b,1,none⟩ = some v:=by rw [Lib.cell_of_heap hb2]; rfl
  have f1:w2.frozen? ⟨b,1,none⟩ = false:=Lib.frozen_of_heap hb2 1
  have hne':v'.ownBlock ≠ some b:=fun hb'=>by
    rcases hwh b hb' with h | h
    · exact hne h
    · omega
  obtain ⟨ao,n',cap,rfl⟩:∃ ao n' cap,v' = .slice ao n' cap:=by
    rcases hown'.2 with ⟨hv,_⟩ | ⟨g,cap,cur,hv,_⟩
    · exact ⟨_,_,_,hv⟩
    · exact ⟨_,_,_,hv⟩
  have hlen2:bs.length + y.size = (bs ++ Lib.strCells y).length:=by simp [Lib.strCells_length]
  rw [hlen2] at hown'
  have hsz:w.heap.size ≤ w2.heap.size:=by have:=hgrow.size; omega
  have hrest:∀ k,k < w.heap.size → k ≠ b → v.ownBlock ≠ some k → w2.heap[k]? = w.heap[k]?:=fun k hk h1 h2=>
    (hgrow.block k (by omega) (fun e=>h2 e.symm)).trans (hg1.block k hk (fun e=>h1 (Option.some.inj e)))
  have ho2:w2.os = w.os ∧ w2.tape = w.tape ∧ w2.output = w.output:=⟨hgrow.os.trans hg1.os,hgrow.tape.trans hg1.tape,hgrow.output.trans hg1.output⟩
  go_wp2
  go_ret2
  refine ⟨rfl,_, ?_, ?_,hne',fun g hg=>(hwh g hg).imp id (fun h=>by omega),ho2.1,ho2.2.1,ho2.2.2,by simpa [World.setCell] using hsz,fun k h1 h2 h3=>(Below.heap_setCell _ _ _ _ h2).trans (hrest k h1 h2 h3)⟩
  · simp [World.setCell,Array.getElem?_modify,hb2]
  · exact hown'.kept (row:=some b) ⟨rfl,rfl,rfl,by simp [World.setCell],fun k _ hk=>Below.heap_setCell _ _ _ _ (fun e=>hk (by simp [e]))⟩ (.inr hne')
theorem uu (b k:Nat) (bs:List UInt8) (y:ByteArray) (σ:ag) (hb:σ[b]? = some (.bld k bs)) (hlen:bs.length + y.size ≤ 140737488355328) :
    Spec Tryz.prog 117 [.ptr b 0, .str y] σ fun r σ'=>r = .ret (.tup [.int .i64 y.size, .niliface]) ∧ σ' = σ.set b (.bld (k + 1) (bs ++ y.data.toList)):=
  Spec.EH (fun B b bs y w _ _ hp hbk hown hne hl hB=>z6 B b bs y w hp hbk hown hne hl hB) b k bs y σ hb hlen
theorem sF (b k:Nat) (bs:List UInt8) (σ:ag) (hb:σ[b]? = some (.bld k bs)) :
    Spec Tryz.prog 121 [.ptr b 0] σ fun r σ'=>r = .ret (.str ⟨bs.toArray⟩) ∧ σ' = σ.set b .dead:=
  Spec.built Tryz.Fs Tryz.o8 rfl b k bs σ hb
open Go.Proofs
set_option maxRecDepth 100000
set_option maxHeartbeats 1000000
def bd (ns:List HuM):ab:=.agg [.slice 7 (ns.map HuM.v)]
theorem dy (ns:List HuM):(bd ns).pure = true:=by simp [bd,ab.pure,aA,ah (f:=HuM.v) (fun p=>p.pure) ns]
theorem gX (l:List ByteArray):Fits 1 (l.map ab.str):=by
  intro v hv
  obtain ⟨a,_,rfl⟩:=List.mem_map.1 hv
  exact ⟨⟨rfl,rfl⟩,rfl⟩
def bU (ships:List (List HuM)):List ByteArray:=ships.flatMap fun ns=>ns.map HuM.name
theorem gl {ships:List (List HuM)} (h:∀ ns ∈ ships,ns.length ≤ 12):(bU ships).length ≤ 12 * ships.length:=by
  induction ships with
  | nil=>simp [bU]
  | cons a r ih=>
    have h1:=h a (by simp)
    have h2:=ih fun ns hn=>h ns (by simp [hn])
    simp only [bU,List.flatMap_cons,List.length_append,List.length_map,List.length_cons] at h2 ⊢
    omega
theorem BM (b:Nat) (l:List ByteArray) (hl:l.length ≤ 100) (σ:ag) (hb:σ[b]? = some (.arr 1 (l.map .str))) :
    Spec Tryz.prog Gu [.sref 1 b 0 l.length l.length] σ fun r σ'=>r = .ret (.tup []) ∧ σ' = σ.set b (.arr 1 ((fJ l).map .str)):=
  Spec.sortStr Tryz.EZ l (by omega) b σ hb
theorem iz (ships:List (List HuM)) (hs:ships.length ≤ 6) (hn:∀ ns ∈ ships,ns.length ≤ 12) (σ:ag) :
    Spec Tryz.prog HR [.slice 1 (ships.map bd)] σ fun r σ'=>r = .ret (.slice 1 ((aF ships).map .str)) ∧ σ' = σ:=by
  have hal:=gl hn
  refine Spec.aC (NJ (by simp) ?_) (by simp [aA,ab.pure,ah (f:=bd) dy ships]) (by simp [ab.pure,ah (f:=ab.str) (fun _=>rfl)]) σ
  refine aa _ ?_
  simp [IC]
  refine AW.loop (ι:=Nat) (fun i fr σ'=>∃ t,fr = { v:=[(2, .sref 1 0 0 (bU (ships.take i)).length (bU (ships.take i)).length),(7, .slice 1 (ships.map bd)),(8, .int .i64 ships.length),(9, .int .i64 i)],ds:=[] } ∧ σ' = oC (bU (ships.take i)) :: t ∧ i ≤ ships.length) (fun i=>ships.length - i) 0 ⟨[],by simp [bU],by simp [bU],by simp⟩ ?_
  rintro i fr σ' ⟨t,rfl,rfl,hi⟩
  refine (Nat.lt_or_ge i ships.length).elim (fun hlt=>?_) (fun hge=>?_)
  rotate_left
  · have htk:ships.take i = ships:=List.take_of_length_le (by omega)
    rw [htk]
    refine aa _ ?_
    simp [show ¬ i < ships.length by omega]
    have hsl:=gQ (bU ships)
    refine af.spec JU (BM 0 (bU ships) (by omega) _ (by simp)) ?_
    rintro r σ' ⟨rfl,rfl⟩
    refine ⟨_,rfl, ?_⟩
    simp
    have hco:=uI 0 (fJ (bU ships)) (by omega) (xe _) (oC (fJ (bU ships)) :: t) (by simp) (by simp)
    rw [hsl] at hco
    refine af.spec JN hco ?_
    rintro r σ' ⟨c,z,⟨hc1,hc2⟩,hcl,hcz,rfl,rfl⟩
    refine ⟨_,rfl, ?_⟩
    have hcn:c = aF ships:=qt hc1 fun x=>by rw [hc2,vl]; rfl
    subst hcn
    simp at hcz
    simp [hcz]
    done
  obtain ⟨ns,hx⟩:∃ x,ships[i] = x:=⟨_,rfl⟩
  have hnl:=hn ns (hx ▸ List.getElem_mem _)
  have htk:ships.take (i + 1) = ships.take i ++ [ns]:=by rw [List.take_succ_eq_append_getElem hlt,hx]
  have hal2:=gl (ships:=ships.take i) fun m hm=>hn m (List.mem_of_mem_take hm)
  have hti:(ships.take i).length ≤ 6:=by simp; omega
  have hwi:IntKind.i64.wrap ((i:Int) + 1) = ((i + 1:Nat):Int):=by rw [aj (by omega) (by omega)]; simp
  obtain ⟨P,hP⟩:∃ P,bU (ships.take i) = P:=⟨_,rfl⟩
  rw [hP] at hal2 ⊢
  refine aa _ ?_
  simp [hlt,hx,bd]
  refine AW.loop (ι:=Nat) (fun j fr σ'=>∃ t,fr = { v:=[(2, .sref 1 0 0 (P ++ (ns.take j).map HuM.name).length (P ++ (ns.take j).map HuM.name).length),(7, .slice 1 (ships.map bd)),(8, .int .i64 ships.length),(9, .int .i64 i),(15, .slice 7 (ns.map HuM.v)),(16, .int .i64 ns.length),(17, .int .i64 j)],ds:=[] } ∧ σ' = oC (P ++ (ns.take j).map HuM.name) :: t ∧ j ≤ ns.length) (fun j=>ns.length - j) 0 ⟨_,by simp,by simp; rfl,by simp⟩ ?_
  rintro j fr σ' ⟨t2,rfl,rfl,hj⟩
  refine (Nat.lt_or_ge j ns.length).elim (fun hjl=>?_) (fun hjg=>?_)
  rotate_left
  · have htk2:ns.take j = ns:=List.take_of_length_le (by omega)
    have hall:bU (ships.take (i + 1)) = P ++ ns.map HuM.name:=by rw [htk, ← hP]; simp [bU]
    rw [htk2]
    refine aa _ ?_
    simp [show ¬ j < ns.length by omega,hwi]
    exact ⟨i + 1,by omega,⟨by rw [hall]; simp,by simp⟩,by rw [hall]; simp,by omega⟩
  obtain ⟨x,hxx⟩:∃ x,ns[j] = x:=⟨_,rfl⟩
  have hwj:IntKind.i64.wrap ((j:Int) + 1) = ((j + 1:Nat):Int):=by rw [aj (by omega) (by omega)]; simp
  have htk3:ns.take (j + 1) = ns.take j ++ [x]:=by rw [List.take_succ_eq_append_getElem hjl,hxx]
  refine aa _ ?_
  simp [hjl,hxx,HuM.v,HuM.cells,hwj]
  refine ⟨gX [x.name], ?_⟩
  rw [if_neg (by omega)]
  exact ⟨by omega,j + 1,by omega,⟨by omega,by simp⟩,by rw [← List.map_take, ← List.map_take,htk3]; simp,by omega⟩
set_option maxRecDepth 100000
set_option maxHeartbeats 1000000
def jJ (n:ByteArray) (f:Int):ab:=.agg [.str n,ii' f]
theorem mS (ns:List HuM) (hns:OkS ns) (m:ByteArray) (f:Int) (b:Nat) (σ:ag) (hb:σ[b]? = some (.box [.slice 7 (ns.map HuM.v)])) :
    Spec Tryz.prog EI [.ptr b 0,jJ m f] σ fun r σ'=>r = .ret (ii' (dE ns m f)) ∧ σ' = σ:=by
  have hl:=hns.len
  have hfi:=aO ns m (by simp only [maxLen]; omega) b σ hb
  by_cases h1:findF ns m < 0
  · have hs:dE ns m f = 0:=by unfold dE; rw [if_pos h1]
    rw [hs]
    refine EV (by simp) (aa _ ?_)
    simp [An,jJ]
    refine af.pure eV hfi ?_
    simp [h1,hb]
    cases hq:ns[(findF ns m).toNat]? with
    | none=>exact ⟨.bool true,by simp⟩
    | some y=>exact ⟨.bool true,by simp [HuM.v,HuM.cells]⟩
  obtain ⟨j,hj,ej,_,hja⟩:=bC h1
  obtain ⟨x,hx⟩:∃ x,ns[j] = x:=⟨_,rfl⟩
  rw [ej] at hfi
  have hj0:¬ (j:Int) < 0:=by omega
  have hs:dE ns m f = if bu f x.first x.last = true then x.kind else 0:=by unfold dE; rw [if_neg h1,hja,hx]
  rw [hs]
  have hby:=aE x.first x.last [f] (by simp [maxLen])
  have hbe:aH x.first x.last [f] = !bu f x.first x.last:=by simp [aH,rN]
  rw [hbe] at hby
  rcases tf (bu f x.first x.last) with hi | hi
  · rw [hi] at hby ⊢
    refine EV (by simp) (aa _ ?_)
    simp [An,jJ]
    refine af.pure eV hfi ?_
    simp [hj0,hj,hx,hb,HuM.v,HuM.cells]
    refine ⟨.bool true,fun σ'=>aB.func dW (hby σ'), ?_⟩
    simp
  · rw [hi] at hby ⊢
    refine EV (by simp) (aa _ ?_)
    simp [An,jJ]
    refine af.pure eV hfi ?_
    simp [hj0,hj,hx,hb,HuM.v,HuM.cells]
    refine ⟨.bool false,fun σ'=>aB.func dW (hby σ'), ?_⟩
    simp
theorem lV (ns:List HuM) (hns:OkS ns) (m:ByteArray) (f:Int) (σ:ag) :
    Spec Tryz.prog HV [.slice 7 (ns.map HuM.v), .str m, .int .i64 f] σ fun r σ'=>r = .ret (ii' (dE ns m f)) ∧ σ' = σ:=by
  have hl:=hns.len
  refine Spec.aC (ND (by simp) ?_) (by simp [aA,ab.pure,ah (f:=HuM.v) (fun p=>p.pure) ns]) rfl σ
  have hfi:=fun σ=>bW ns m (by simp only [maxLen]; omega) σ
  by_cases h1:findF ns m < 0
  · have hs:dE ns m f = 0:=by unfold dE; rw [if_pos h1]
    rw [hs]
    refine aa _ ?_
    simp [Fw]
    refine af.pure iQ (hfi _) ?_
    simp [h1]
    cases hq:ns[(findF ns m).toNat]? with
    | none=>exact ⟨.bool true,by simp⟩
    | some y=>exact ⟨.bool true,by simp [HuM.v,HuM.cells]⟩
  obtain ⟨j,hj,ej,_,hja⟩:=bC h1
  obtain ⟨x,hx⟩:∃ x,ns[j] = x:=⟨_,rfl⟩
  rw [ej] at hfi
  have hj0:¬ (j:Int) < 0:=by omega
  have hs:dE ns m f = if bu f x.first x.last = true then x.kind else 0:=by unfold dE; rw [if_neg h1,hja,hx]
  rw [hs]
  have hby:=aJ f x.first x.last
  rcases tf (bu f x.first x.last) with hi | hi
  · rw [hi] at hby ⊢
    refine aa _ ?_
    simp [Fw]
    refine af.pure iQ (hfi _) ?_
    simp [hj0,hj,hx,HuM.v,HuM.cells]
    refine ⟨.bool false,fun σ'=>aB.func eQ (hby σ'), ?_⟩
    simp
  · rw [hi] at hby ⊢
    refine aa _ ?_
    simp [Fw]
    refine af.pure iQ (hfi _) ?_
    simp [hj0,hj,hx,HuM.v,HuM.cells]
    refine ⟨.bool true,fun σ'=>aB.func eQ (hby σ'), ?_⟩
    simp
set_option maxRecDepth 100000
set_option maxHeartbeats 1000000
theorem qm (ps:List HuM) (x:ByteArray) (hl:ps.length ≤ maxLen) (σ:ag) :
    Spec Tryz.prog Fo [.pval (bd ps), .str x] σ fun r σ'=>r = .ret (ii' (findF ps x)) ∧ σ' = σ:=by
  refine Jt (by simp) (aa _ ?_)
  simp [GI,bd]
  refine af.pure D5 (dz AX [.pval (.str x)] rfl (fun y=>y.name.toList == x.toList) ps hl (fun y _=>jL.fn F0 (fun σ=>gD y x σ)) _) ?_
  simp [findF]
theorem pW (ns:List HuM) (hns:OkS ns) (m:ByteArray) (f:Int) (σ:ag) :
    Spec Tryz.prog EI [.pval (bd ns),jJ m f] σ fun r σ'=>r = .ret (ii' (dE ns m f)) ∧ σ' = σ:=by
  have hl:=hns.len
  have hfi:=fun σ=>qm ns m (by simp only [maxLen]; omega) σ
  refine Spec.aC (EV (by simp) ?_) (by simp [aA,ab.pure,dy,jJ]) rfl σ
  simp only [bd] at hfi
  by_cases h1:findF ns m < 0
  · have hs:dE ns m f = 0:=by unfold dE; rw [if_pos h1]
    rw [hs]
    refine aa _ ?_
    simp [An,jJ,bd]
    refine af.pure eV (hfi _) ?_
    simp [h1]
    cases hq:ns[(findF ns m).toNat]? with
    | none=>exact ⟨.bool true,by simp⟩
    | some y=>exact ⟨.bool true,by simp [HuM.v,HuM.cells]⟩
  obtain ⟨j,hj,ej,_,hja⟩:=bC h1
  obtain ⟨x,hx⟩:∃ x,ns[j] = x:=⟨_,rfl⟩
  rw [ej] at hfi
  have hj0:¬ (j:Int) < 0:=by omega
  have hs:dE ns m f = if bu f x.first x.last = true then x.kind else 0:=by unfold dE; rw [if_neg h1,hja,hx]
  rw [hs]
  have hby:=aE x.first x.last [f] (by simp [maxLen])
  have hbe:aH x.first x.last [f] = !bu f x.first x.last:=by simp [aH,rN]
  rw [hbe] at hby
  rcases tf (bu f x.first x.last) with hi | hi
  · rw [hi] at hby ⊢
    refine aa _ ?_
    simp [An,jJ,bd]
    refine af.pure eV (hfi _) ?_
    simp [hj0,hj,hx,HuM.v,HuM.cells]
    refine ⟨.bool true,fun σ'=>aB.func dW (hby σ'), ?_⟩
    simp
  · rw [hi] at hby ⊢
    refine aa _ ?_
    simp [An,jJ,bd]
    refine af.pure eV (hfi _) ?_
    simp [hj0,hj,hx,HuM.v,HuM.cells]
    refine ⟨.bool false,fun σ'=>aB.func dW (hby σ'), ?_⟩
    simp
theorem iF (g:FuncId) (caps:List ab) (p:av → Bool) (l:List av) (hl:l.length ≤ maxLen) (σ:ag) (hf:∀ x ∈ l,aB Tryz.prog (.func (.func g) [] caps) [x.v] σ fun r σ'=>r = .ret (.bool (p x)) ∧ σ' = σ) :
    Spec Tryz.prog CV [.slice 3 (l.map av.v), .func (.func g) [] caps] σ fun r σ'=>r = .ret (.int .i64 (bV p l 0)) ∧ σ' = σ:=by
  refine Kr (by simp) (aa _ ?_)
  simp [Gk]
  refine AW.loop (ι:=Nat) (fun i fr σ'=>fr = { v:=[(0, .slice 3 (l.map av.v)),(1, .func (.func g) [] caps),(7, .int .i64 l.length),(8, .int .i64 i)],ds:=[] } ∧ σ' = σ ∧ i ≤ l.length ∧ bV p l 0 = bV p (l.drop i) i) (fun i=>l.length - i) 0 (by simp) ?_
  rintro i fr σ' ⟨rfl,rfl,hi,hpi⟩
  refine (Nat.lt_or_ge i l.length).elim (fun hlt=>?_) (fun hge=>?_)
  rotate_left
  · rw [List.drop_eq_nil_of_le hge] at hpi
    refine aa _ ?_
    simp [show ¬ i < l.length by omega,hpi,bV]
  obtain ⟨x,hx⟩:∃ x,l[i] = x:=⟨_,rfl⟩
  have hfx:=hf x (hx ▸ List.getElem_mem _)
  simp only [av.v,av.cells] at hfx
  have hd:l.drop i = l[i] :: l.drop (i + 1):=List.drop_eq_getElem_cons hlt
  rw [hd,hx] at hpi
  simp only [bV] at hpi
  have hwi:IntKind.i64.wrap ((i:Int) + 1) = ((i + 1:Nat):Int):=by rw [aj (by omega) (by simp only [maxLen] at hl; omega)]; simp
  rcases tf (p x) with hp | hp
  · rw [hp] at hfx
    rw [if_neg (by simp [hp])] at hpi
    refine aa _ ?_
    simp [hlt,hx,av.v,av.cells]
    refine af.of hfx ?_
    simp [hwi]
    exact ⟨i + 1,by omega,by simp,by omega,hpi⟩
  · rw [hp] at hfx
    rw [if_pos hp] at hpi
    refine aa _ ?_
    simp [hlt,hx,av.v,av.cells]
    refine af.of hfx ?_
    simp [hpi]
theorem gx (g:FuncId) (caps:List ab) (p:av → Bool) (l:List av) (hl:l.length ≤ maxLen) (σ:ag) (hf:∀ x ∈ l,aB Tryz.prog (.func (.func g) [] caps) [x.v] σ fun r σ'=>r = .ret (.bool (p x)) ∧ σ' = σ) :
    Spec Tryz.prog AQ [.slice 3 (l.map av.v), .func (.func g) [] caps] σ fun r σ'=>r = .ret (.bool (l.any p)) ∧ σ' = σ:=by
  refine KC (by simp) (aa _ ?_)
  simp [FK]
  refine af.pure JY (iF g caps p l hl σ hf) ?_
  simp [iy]
theorem nK (ships:List (List HuM)) (hs:∀ ns ∈ ships,OkS ns) (i:Nat) (hi:i < ships.length) (x:av) (b k1 k2 k3 k4:Nat) (bs:List ab) (σ:ag) (hb:σ[b]? = some (.box [.oslice 1 (ships.map bd) k1 k2, .oslice 1 bs k3 k4])) :
    Spec Tryz.prog xX [x.v, .ptr b 0, .pval (ii' i)] σ fun r σ'=>r = .ret (.bool (!decide (dE ships[i] x.name x.frame = x.kind))) ∧ σ' = σ:=by
  obtain ⟨ns,hns⟩:∃ ns,ships[i] = ns:=⟨_,rfl⟩
  have hok:=hs ns (hns ▸ List.getElem_mem _)
  have hse:=pW ns hok x.name x.frame σ
  simp only [jJ] at hse
  rw [hns]
  refine KQ (by simp) (aa _ ?_)
  simp [Gt,hb,av.v,av.cells,hi,hns]
  refine af.pure Jw hse ?_
  simp [hb,hi,hns]
  by_cases h:dE ns x.name x.frame = x.kind <;> simp [h]
end Go.AM
