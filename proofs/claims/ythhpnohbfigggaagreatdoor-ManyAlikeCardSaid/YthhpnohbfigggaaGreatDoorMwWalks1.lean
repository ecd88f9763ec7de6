/- Each function comes to what its model says; printed by a program of this repository. -/
import Derived.Test.YthhpnohbfigggaaGreatDoorProg
import Derived.Test.YthhpnohbfigggaaGreatDoorMwModels
import Derived.Test.YthhpnohbfigggaaGreatDoorFwIKS
import Derived.Test.YthhpnohbfigggaaGreatDoorFwZ
namespace Go.Proofs
open Go.Shelf
def Tryz.lays171_ren:Go.Shelf.Ren:=⟨fun|171=>50|243=>74|246=>89|283=>108|284=>109|285=>110|286=>111|129=>107|317=>124|318=>125|319=>126|320=>127|337=>136|338=>137|n=>n,fun|3=>3|9=>9|2=>2|4=>4|171=>168|0=>0|53=>47|37=>146|5=>5|173=>170|212=>188|51=>50|20=>20|213=>189|46=>64|232=>204|233=>205|n=>n,fun|17=>2|18=>6|19=>7|n=>n⟩
theorem Tryz.lays171:Go.Proofs.LaysM.n171 Tryz.prog Tryz.lays171_ren:={
  mixed:=by kernel_rfl
  f129:=Tryz.func107.trans (congrArg some (by kernel_rfl))
  f171:=Tryz.func50.trans (congrArg some (by kernel_rfl))
  f243:=Tryz.func74.trans (congrArg some (by kernel_rfl))
  f246:=Tryz.func89.trans (congrArg some (by kernel_rfl))
  f283:=Tryz.func108.trans (congrArg some (by kernel_rfl))
  f284:=Tryz.func109.trans (congrArg some (by kernel_rfl))
  f285:=Tryz.func110.trans (congrArg some (by kernel_rfl))
  f286:=Tryz.func111.trans (congrArg some (by kernel_rfl))
  f317:=Tryz.func124.trans (congrArg some (by kernel_rfl))
  f318:=Tryz.func125.trans (congrArg some (by kernel_rfl))
  f319:=Tryz.func126.trans (congrArg some (by kernel_rfl))
  f320:=Tryz.func127.trans (congrArg some (by kernel_rfl))
  f337:=Tryz.func136.trans (congrArg some (by kernel_rfl))
  f338:=Tryz.func137.trans (congrArg some (by kernel_rfl))
  t0:=Tryz.underlying0
  a0:=Tryz.isAgg0
  z0:=Tryz.sizeOf0
  v0:=Tryz.zeroValue0
  t2:=Tryz.underlying2
  a2:=Tryz.isAgg2
  z2:=Tryz.sizeOf2
  v2:=Tryz.zeroValue2
  t3:=Tryz.underlying3
  a3:=Tryz.isAgg3
  z3:=Tryz.sizeOf3
  v3:=Tryz.zeroValue3
  t4:=Tryz.underlying4
  a4:=Tryz.isAgg4
  z4:=Tryz.sizeOf4
  v4:=Tryz.zeroValue4
  t5:=Tryz.underlying5
  a5:=Tryz.isAgg5
  z5:=Tryz.sizeOf5
  v5:=Tryz.zeroValue5
  t9:=Tryz.underlying9
  a9:=Tryz.isAgg9
  z9:=Tryz.sizeOf9
  v9:=Tryz.zeroValue9
  t20:=Tryz.underlying20
  a20:=Tryz.isAgg20
  z20:=Tryz.sizeOf20
  v20:=Tryz.zeroValue20
  t37:=Tryz.underlying146
  a37:=Tryz.isAgg146
  z37:=Tryz.sizeOf146
  v37:=Tryz.zeroValue146
  t46:=Tryz.underlying64
  a46:=Tryz.isAgg64
  z46:=Tryz.sizeOf64
  v46:=Tryz.zeroValue64
  t51:=Tryz.underlying50
  a51:=Tryz.isAgg50
  z51:=Tryz.sizeOf50
  v51:=Tryz.zeroValue50
  t53:=Tryz.underlying47
  a53:=Tryz.isAgg47
  z53:=Tryz.sizeOf47
  v53:=Tryz.zeroValue47
  t171:=Tryz.underlying168
  a171:=Tryz.isAgg168
  z171:=Tryz.sizeOf168
  v171:=Tryz.zeroValue168
  t173:=Tryz.underlying170
  a173:=Tryz.isAgg170
  z173:=Tryz.sizeOf170
  v173:=Tryz.zeroValue170
  t212:=Tryz.underlying188
  a212:=Tryz.isAgg188
  z212:=Tryz.sizeOf188
  v212:=Tryz.zeroValue188
  t213:=Tryz.underlying189
  a213:=Tryz.isAgg189
  z213:=Tryz.sizeOf189
  t232:=Tryz.underlying204
  a232:=Tryz.isAgg204
  z232:=Tryz.sizeOf204
  v232:=Tryz.zeroValue204
  t233:=Tryz.underlying205
  a233:=Tryz.isAgg205
  z233:=Tryz.sizeOf205
  v233:=Tryz.zeroValue205
  g17:=by kernel_rfl
  g18:=by kernel_rfl
  g19:=by kernel_rfl
  i0:=by kernel_rfl
  i2:=by kernel_rfl
  i3:=by kernel_rfl
  i4:=by kernel_rfl
  i5:=by kernel_rfl
  i9:=by kernel_rfl
  i20:=by kernel_rfl
  i37:=by kernel_rfl
  i46:=by kernel_rfl
  i51:=by kernel_rfl
  i53:=by kernel_rfl
  i171:=by kernel_rfl
  i173:=by kernel_rfl
  i212:=by kernel_rfl
  i232:=by kernel_rfl
  i233:=by kernel_rfl
  m17:=by kernel_rfl
  m18:=by kernel_rfl
  m19:=by kernel_rfl}
def Tryz.lays146_ren:Go.Shelf.Ren:=⟨fun|146=>61|221=>83|268=>90|138=>91|143=>92|195=>112|197=>113|218=>114|219=>115|260=>128|217=>129|225=>130|224=>131|267=>132|266=>138|314=>139|n=>n,fun|9=>9|31=>110|3=>3|4=>4|0=>0|105=>172|21=>21|5=>5|46=>64|119=>198|139=>201|138=>200|146=>202|51=>50|n=>n,fun|1=>3|3=>4|4=>5|n=>n⟩
theorem Tryz.lays146:Go.Proofs.Lays.n146 Tryz.prog Tryz.lays146_ren:={
  mixed:=by kernel_rfl
  f138:=Tryz.func91.trans (congrArg some (by kernel_rfl))
  f143:=Tryz.func92.trans (congrArg some (by kernel_rfl))
  f146:=Tryz.func61.trans (congrArg some (by kernel_rfl))
  f195:=Tryz.func112.trans (congrArg some (by kernel_rfl))
  f197:=Tryz.func113.trans (congrArg some (by kernel_rfl))
  f217:=Tryz.func129.trans (congrArg some (by kernel_rfl))
  f218:=Tryz.func114.trans (congrArg some (by kernel_rfl))
  f219:=Tryz.func115.trans (congrArg some (by kernel_rfl))
  f221:=Tryz.func83.trans (congrArg some (by kernel_rfl))
  f224:=Tryz.func131.trans (congrArg some (by kernel_rfl))
  f225:=Tryz.func130.trans (congrArg some (by kernel_rfl))
  f260:=Tryz.func128.trans (congrArg some (by kernel_rfl))
  f266:=Tryz.func138.trans (congrArg some (by kernel_rfl))
  f267:=Tryz.func132.trans (congrArg some (by kernel_rfl))
  f268:=Tryz.func90.trans (congrArg some (by kernel_rfl))
  f314:=Tryz.func139.trans (congrArg some (by kernel_rfl))
  t0:=Tryz.underlying0
  a0:=Tryz.isAgg0
  z0:=Tryz.sizeOf0
  v0:=Tryz.zeroValue0
  t3:=Tryz.underlying3
  a3:=Tryz.isAgg3
  z3:=Tryz.sizeOf3
  v3:=Tryz.zeroValue3
  t4:=Tryz.underlying4
  a4:=Tryz.isAgg4
  z4:=Tryz.sizeOf4
  v4:=Tryz.zeroValue4
  t5:=Tryz.underlying5
  a5:=Tryz.isAgg5
  z5:=Tryz.sizeOf5
  v5:=Tryz.zeroValue5
  t9:=Tryz.underlying9
  a9:=Tryz.isAgg9
  z9:=Tryz.sizeOf9
  v9:=Tryz.zeroValue9
  t21:=Tryz.underlying21
  a21:=Tryz.isAgg21
  z21:=Tryz.sizeOf21
  v21:=Tryz.zeroValue21
  t31:=Tryz.underlying110
  a31:=Tryz.isAgg110
  z31:=Tryz.sizeOf110
  v31:=Tryz.zeroValue110
  t46:=Tryz.underlying64
  a46:=Tryz.isAgg64
  z46:=Tryz.sizeOf64
  v46:=Tryz.zeroValue64
  t51:=Tryz.underlying50
  a51:=Tryz.isAgg50
  z51:=Tryz.sizeOf50
  v51:=Tryz.zeroValue50
  t105:=Tryz.underlying172
  a105:=Tryz.isAgg172
  z105:=Tryz.sizeOf172
  v105:=Tryz.zeroValue172
  t119:=Tryz.underlying198
  a119:=Tryz.isAgg198
  z119:=Tryz.sizeOf198
  t138:=Tryz.underlying200
  a138:=Tryz.isAgg200
  z138:=Tryz.sizeOf200
  v138:=Tryz.zeroValue200
  t139:=Tryz.underlying201
  a139:=Tryz.isAgg201
  z139:=Tryz.sizeOf201
  v139:=Tryz.zeroValue201
  t146:=Tryz.underlying202
  a146:=Tryz.isAgg202
  z146:=Tryz.sizeOf202
  v146:=Tryz.zeroValue202
  g1:=by kernel_rfl
  g3:=by kernel_rfl
  g4:=by kernel_rfl}
def Tryz.lays172_ren:Go.Shelf.Ren:=⟨fun|172=>62|244=>84|245=>85|247=>93|279=>94|280=>95|281=>96|282=>97|287=>116|316=>117|171=>50|205=>118|321=>133|322=>134|243=>74|246=>89|283=>108|284=>109|285=>110|286=>111|129=>107|317=>124|318=>125|319=>126|320=>127|337=>136|338=>137|n=>n,fun|9=>9|3=>3|75=>120|76=>121|4=>4|5=>5|167=>152|37=>146|0=>0|85=>153|2=>2|168=>155|53=>47|175=>175|46=>64|210=>179|127=>192|145=>195|143=>193|21=>21|171=>168|173=>170|212=>188|51=>50|20=>20|213=>189|232=>204|233=>205|80=>206|n=>n,fun|15=>0|16=>1|17=>2|18=>6|19=>7|n=>n⟩
theorem Tryz.lays172:Go.Proofs.Lays.n172 Tryz.prog Tryz.lays172_ren:={
  mixed:=by kernel_rfl
  f129:=Tryz.func107.trans (congrArg some (by kernel_rfl))
  f171:=Tryz.func50.trans (congrArg some (by kernel_rfl))
  f172:=Tryz.func62.trans (congrArg some (by kernel_rfl))
  f205:=Tryz.func118.trans (congrArg some (by kernel_rfl))
  f243:=Tryz.func74.trans (congrArg some (by kernel_rfl))
  f244:=Tryz.func84.trans (congrArg some (by kernel_rfl))
  f245:=Tryz.func85.trans (congrArg some (by kernel_rfl))
  f246:=Tryz.func89.trans (congrArg some (by kernel_rfl))
  f247:=Tryz.func93.trans (congrArg some (by kernel_rfl))
  f279:=Tryz.func94.trans (congrArg some (by kernel_rfl))
  f280:=Tryz.func95.trans (congrArg some (by kernel_rfl))
  f281:=Tryz.func96.trans (congrArg some (by kernel_rfl))
  f282:=Tryz.func97.trans (congrArg some (by kernel_rfl))
  f283:=Tryz.func108.trans (congrArg some (by kernel_rfl))
  f284:=Tryz.func109.trans (congrArg some (by kernel_rfl))
  f285:=Tryz.func110.trans (congrArg some (by kernel_rfl))
  f286:=Tryz.func111.trans (congrArg some (by kernel_rfl))
  f287:=Tryz.func116.trans (congrArg some (by kernel_rfl))
  f316:=Tryz.func117.trans (congrArg some (by kernel_rfl))
  f317:=Tryz.func124.trans (congrArg some (by kernel_rfl))
  f318:=Tryz.func125.trans (congrArg some (by kernel_rfl))
  f319:=Tryz.func126.trans (congrArg some (by kernel_rfl))
  f320:=Tryz.func127.trans (congrArg some (by kernel_rfl))
  f321:=Tryz.func133.trans (congrArg some (by kernel_rfl))
  f322:=Tryz.func134.trans (congrArg some (by kernel_rfl))
  f337:=Tryz.func136.trans (congrArg some (by kernel_rfl))
  f338:=Tryz.func137.trans (congrArg some (by kernel_rfl))
  t0:=Tryz.underlying0
  a0:=Tryz.isAgg0
  z0:=Tryz.sizeOf0
  v0:=Tryz.zeroValue0
  t2:=Tryz.underlying2
  a2:=Tryz.isAgg2
  z2:=Tryz.sizeOf2
  v2:=Tryz.zeroValue2
  t3:=Tryz.underlying3
  a3:=Tryz.isAgg3
  z3:=Tryz.sizeOf3
  v3:=Tryz.zeroValue3
  t4:=Tryz.underlying4
  a4:=Tryz.isAgg4
  z4:=Tryz.sizeOf4
  v4:=Tryz.zeroValue4
  t5:=Tryz.underlying5
  a5:=Tryz.isAgg5
  z5:=Tryz.sizeOf5
  v5:=Tryz.zeroValue5
  t9:=Tryz.underlying9
  a9:=Tryz.isAgg9
  z9:=Tryz.sizeOf9
  v9:=Tryz.zeroValue9
  t20:=Tryz.underlying20
  a20:=Tryz.isAgg20
  z20:=Tryz.sizeOf20
  v20:=Tryz.zeroValue20
  t21:=Tryz.underlying21
  a21:=Tryz.isAgg21
  z21:=Tryz.sizeOf21
  v21:=Tryz.zeroValue21
  t37:=Tryz.underlying146
  a37:=Tryz.isAgg146
  z37:=Tryz.sizeOf146
  v37:=Tryz.zeroValue146
  t46:=Tryz.underlying64
  a46:=Tryz.isAgg64
  z46:=Tryz.sizeOf64
  v46:=Tryz.zeroValue64
  t51:=Tryz.underlying50
  a51:=Tryz.isAgg50
  z51:=Tryz.sizeOf50
  v51:=Tryz.zeroValue50
  t53:=Tryz.underlying47
  a53:=Tryz.isAgg47
  z53:=Tryz.sizeOf47
  v53:=Tryz.zeroValue47
  t75:=Tryz.underlying120
  a75:=Tryz.isAgg120
  z75:=Tryz.sizeOf120
  v75:=Tryz.zeroValue120
  t76:=Tryz.underlying121
  a76:=Tryz.isAgg121
  z76:=Tryz.sizeOf121
  v76:=Tryz.zeroValue121
  t85:=Tryz.underlying153
  a85:=Tryz.isAgg153
  z85:=Tryz.sizeOf153
  v85:=Tryz.zeroValue153
  t127:=Tryz.underlying192
  a127:=Tryz.isAgg192
  z127:=Tryz.sizeOf192
  v127:=Tryz.zeroValue192
  t143:=Tryz.underlying193
  a143:=Tryz.isAgg193
  z143:=Tryz.sizeOf193
  v143:=Tryz.zeroValue193
  t145:=Tryz.underlying195
  a145:=Tryz.isAgg195
  z145:=Tryz.sizeOf195
  v145:=Tryz.zeroValue195
  t167:=Tryz.underlying152
  a167:=Tryz.isAgg152
  z167:=Tryz.sizeOf152
  v167:=Tryz.zeroValue152
  t168:=Tryz.underlying155
  a168:=Tryz.isAgg155
  z168:=Tryz.sizeOf155
  v168:=Tryz.zeroValue155
  t171:=Tryz.underlying168
  a171:=Tryz.isAgg168
  z171:=Tryz.sizeOf168
  v171:=Tryz.zeroValue168
  t173:=Tryz.underlying170
  a173:=Tryz.isAgg170
  z173:=Tryz.sizeOf170
  v173:=Tryz.zeroValue170
  t175:=Tryz.underlying175
  a175:=Tryz.isAgg175
  z175:=Tryz.sizeOf175
  v175:=Tryz.zeroValue175
  t210:=Tryz.underlying179
  a210:=Tryz.isAgg179
  z210:=Tryz.sizeOf179
  v210:=Tryz.zeroValue179
  t212:=Tryz.underlying188
  a212:=Tryz.isAgg188
  z212:=Tryz.sizeOf188
  v212:=Tryz.zeroValue188
  t213:=Tryz.underlying189
  a213:=Tryz.isAgg189
  z213:=Tryz.sizeOf189
  t232:=Tryz.underlying204
  a232:=Tryz.isAgg204
  z232:=Tryz.sizeOf204
  v232:=Tryz.zeroValue204
  t233:=Tryz.underlying205
  a233:=Tryz.isAgg205
  z233:=Tryz.sizeOf205
  v233:=Tryz.zeroValue205
  g15:=by kernel_rfl
  g16:=by kernel_rfl
  g17:=by kernel_rfl
  g18:=by kernel_rfl
  g19:=by kernel_rfl}
end Go.Proofs
namespace Go.Wk
open Go.Fw Go.Mo Go.Proofs Go.RowKit
set_option linter.all false
set_option maxRecDepth 100000
set_option maxHeartbeats 4000000
abbrev TrD:=TR.pair TR.str (TR.pair TR.str (TR.pair TR.int (TR.pair TR.int (TR.pair TR.int TR.int))))
abbrev TrA:=TR.pair TR.str (TR.pair TR.int TR.int)
abbrev TrE:=TR.pair TR.int (TR.pair TR.int (TR.pair TR.str TrD))
abbrev TrH:=TR.pair (TR.sl TrA) (TR.pair (TR.sl TrD) TR.raw)
def ss{α β:Type}{p:α→β→Prop}:∀ a b,p a b→p a b:=fun _ _ h=>h
abbrev B8:=List UInt8
abbrev TrL:=TR.pair TR.str TR.int
abbrev sv(x:B8):Value:=.string ⟨x.toArray⟩
abbrev q_0:Array Bool:=#[true,true,true,true,true,true,true,true,true,true,true,true,true,true,true,false,false,false]
abbrev q_1:Array Bool:=#[true,true,true,true,true,true,true,true,false,false,false,false,false,false]
abbrev q_2:Array Bool:=#[true,true,true,true,true,true,true,true,true,true,true,true,false,false]
abbrev q_3:Array Bool:=#[true,true,true,true,true,true,true,true,true,true,true,false,false,false]
abbrev q_4:Array Bool:=#[true,true,true,false,true,true,true,true,true,true,true,true,false,false]
abbrev q_5:Array Bool:=#[true,true,true,true,true,true,true,true,true,true,false,false,false,false]
abbrev q_6:Array Bool:=#[true,true,true,true,true,true,true,false,true,true,true,false,false,false]
abbrev q_7:Array Bool:=#[true,true,true,false,true,true,true,true,true,true,true,false,false,false]
abbrev q_8:Array Bool:=#[true,true,false,false,true,true,true,true,true,true,true,true,false,false]
abbrev q_9:Array Bool:=#[true,true,true,true,true,true,true,true,true,false,false,false,false,false]
abbrev q_10:Array Bool:=#[true,false,false,false,true,true,true,true,true,true,true,true,false,false]
abbrev q_11:Array Bool:=#[true,true,true,true,true,true,true,false,true,true,false,false,false,false]
abbrev q_12:Array Bool:=#[true,true,true,false,true,true,true,false,true,true,true,false,false,false]
abbrev q_13:Array Bool:=#[true,true,true,false,true,true,true,true,true,true,false,false,false,false]
abbrev q_14:Array Bool:=#[true,true,false,false,true,true,true,true,true,true,true,false,false,false]
abbrev q_15:Array Bool:=#[true,true,true,true,true,true,false,false,true,true,true,false,false,false]
abbrev q_16:Array Bool:=#[true,true,false,false,true,true,true,true,true,true,false,false,false,false]
abbrev q_17:Array Bool:=#[true,true,true,false,true,true,true,true,true,false,false,false,false,false]
abbrev q_18:Array Bool:=#[true,false,false,false,true,true,true,true,true,true,true,false,false,false]
abbrev q_19:Array Bool:=#[true,true,true,false,true,true,true,false,true,true,false,false,false,false]
abbrev q_20:Array Bool:=#[true,true,false,false,true,true,true,false,true,true,true,false,false,false]
abbrev q_21:Array Bool:=#[true,true,true,true,true,true,true,false,true,false,false,false,false,false]
abbrev q_22:Array Bool:=#[true,true,true,false,true,true,false,false,true,true,true,false,false,false]
abbrev q_23:Array Bool:=#[true,true,true,true,true,true,false,false,true,true,false,false,false,false]
abbrev q_24:Array Bool:=#[true,true,true,true,true,false,false,false,true,true,true,false,false,false]
abbrev q_25:Array Bool:=#[true,true,true,false,true,true,false,false,true,true,false,false,false,false]
abbrev q_26:Array Bool:=#[true,true,true,true,true,true,false,false,true,false,false,false,false,false]
abbrev q_27:Array Bool:=#[true,true,true,true,false,false,false,false,true,true,true,false,false,false]
abbrev q_28:Array Bool:=#[true,true,true,true,true,true,true,false,false,false,false,false,false,false]
abbrev q_29:Array Bool:=#[true,true,true,true,true,false,false,false,true,true,false,false,false,false]
abbrev q_30:Array Bool:=#[true,true,true,false,true,false,false,false,true,true,true,false,false,false]
abbrev q_31:Array Bool:=#[true,false,false,false,true,true,true,false,true,true,true,false,false,false]
abbrev q_32:Array Bool:=#[true,true,true,false,true,true,true,true,false,false,false,false,false,false]
abbrev q_33:Array Bool:=#[true,true,false,false,true,true,true,false,true,true,false,false,false,false]
abbrev q_34:Array Bool:=#[true,true,true,false,true,true,true,false,true,false,false,false,false,false]
abbrev q_35:Array Bool:=#[true,false,false,false,true,true,true,true,true,true,false,false,false,false]
abbrev q_36:Array Bool:=#[true,true,false,false,true,true,false,false,true,true,true,false,false,false]
abbrev q_37:Array Bool:=#[true,true,false,false,true,true,true,true,true,false,false,false,false,false]
abbrev q_38:Array Bool:=#[true,true,false,false,true,true,true,false,true,false,false,false,false,false]
abbrev q_39:Array Bool:=#[true,true,true,false,false,false,false,false,true,true,true,false,false,false]
abbrev q_40:Array Bool:=#[true,false,false,false,true,true,true,false,true,true,false,false,false,false]
abbrev q_41:Array Bool:=#[true,true,true,false,true,true,true,false,false,false,false,false,false,false]
abbrev q_42:Array Bool:=#[true,false,false,false,true,true,true,true,true,false,false,false,false,false]
abbrev q_43:Array Bool:=#[true,true,true,true,false,false,false,false,true,true,false,false,false,false]
abbrev q_44:Array Bool:=#[true,true,false,false,true,true,false,false,true,true,false,false,false,false]
abbrev q_45:Array Bool:=#[true,true,false,false,true,false,false,false,true,true,true,false,false,false]
abbrev q_46:Array Bool:=#[true,true,false,false,true,true,true,true,false,false,false,false,false,false]
abbrev q_47:Array Bool:=#[true,true,true,true,true,false,false,false,true,false,false,false,false,false]
abbrev q_48:Array Bool:=#[true,true,true,false,true,true,false,false,true,false,false,false,false,false]
abbrev q_49:Array Bool:=#[true,true,true,false,true,false,false,false,true,true,false,false,false,false]
abbrev q_50:Array Bool:=#[true,false,false,false,true,true,false,false,true,true,true,false,false,false]
abbrev q_51:Array Bool:=#[true,true,true,true,true,true,false,false,false,false,false,false,false,false]
abbrev q_52:Array Bool:=#[true,true,false,false,true,true,true,false,false,false,false,false,false,false]
abbrev q_53:Array Bool:=#[true,false,false,false,true,true,true,true,false,false,false,false,false,false]
abbrev q_54:Array Bool:=#[true,true,true,true,true,false,false,false,false,false,false,false,false,false]
abbrev q_55:Array Bool:=#[true,true,true,false,true,false,false,false,true,false,false,false,false,false]
abbrev q_56:Array Bool:=#[true,true,false,false,false,false,false,false,true,true,true,false,false,false]
abbrev q_57:Array Bool:=#[true,true,false,false,true,true,false,false,true,false,false,false,false,false]
abbrev q_58:Array Bool:=#[true,false,false,false,true,true,true,false,true,false,false,false,false,false]
abbrev q_59:Array Bool:=#[true,true,true,false,true,true,false,false,false,false,false,false,false,false]
abbrev q_60:Array Bool:=#[true,false,false,false,true,true,false,false,true,true,false,false,false,false]
abbrev q_61:Array Bool:=#[true,false,false,false,true,false,false,false,true,true,true,false,false,false]
abbrev q_62:Array Bool:=#[true,true,true,false,false,false,false,false,true,true,false,false,false,false]
abbrev q_63:Array Bool:=#[true,true,true,true,false,false,false,false,true,false,false,false,false,false]
abbrev q_64:Array Bool:=#[true,true,false,false,true,false,false,false,true,true,false,false,false,false]
abbrev q_65:Array Bool:=#[true,true,true,false,false,false,false,false,true,false,false,false,false,false]
abbrev q_66:Array Bool:=#[true,true,true,false,true,false,false,false,false,false,false,false,false,false]
abbrev q_67:Array Bool:=#[true,true,false,false,false,false,false,false,true,true,false,false,false,false]
abbrev q_68:Array Bool:=#[true,false,false,false,false,false,false,false,true,true,true,false,false,false]
abbrev q_69:Array Bool:=#[true,false,false,false,true,false,false,false,true,true,false,false,false,false]
abbrev q_70:Array Bool:=#[true,true,true,true,false,false,false,false,false,false,false,false,false,false]
abbrev q_71:Array Bool:=#[true,true,false,false,true,true,false,false,false,false,false,false,false,false]
abbrev q_72:Array Bool:=#[true,false,false,false,true,true,false,false,true,false,false,false,false,false]
abbrev q_73:Array Bool:=#[true,true,false,false,true,false,false,false,true,false,false,false,false,false]
abbrev q_74:Array Bool:=#[true,false,false,false,true,true,true,false,false,false,false,false,false,false]
abbrev q_75:Array Bool:=#[true,false,false,false,true,false,false,false,true,false,false,false,false,false]
abbrev q_76:Array Bool:=#[true,false,false,false,true,true,false,false,false,false,false,false,false,false]
abbrev q_77:Array Bool:=#[true,true,true,false,false,false,false,false,false,false,false,false,false,false]
abbrev q_78:Array Bool:=#[true,false,false,false,false,false,false,false,true,true,false,false,false,false]
abbrev q_79:Array Bool:=#[true,true,false,false,true,false,false,false,false,false,false,false,false,false]
abbrev q_80:Array Bool:=#[true,true,false,false,false,false,false,false,true,false,false,false,false,false]
abbrev q_81:Array Bool:=#[true,true,false,false,false,false,false,false,false,false,false,false,false,false]
abbrev q_82:Array Bool:=#[true,false,false,false,true,false,false,false,false,false,false,false,false,false]
abbrev q_83:Array Bool:=#[true,false,false,false,false,false,false,false,true,false,false,false,false,false]
abbrev q_84:Array Bool:=#[true,true,true,true,false,false,false]
abbrev q_85:Array Bool:=#[true,false,true,true,false,false,false]
abbrev q_86:Array Bool:=#[true,true,true,false,false,false,false]
abbrev q_87:Array Bool:=#[true,true,false,false,false,false,false]
abbrev q_88:Array Bool:=#[true,false,true,false,false,false,false]
abbrev q_89:Array Bool:=#[true,true,true,true,true,true,true,true,true,true,true,true,false,false,false,false,false,false,false,false]
abbrev q_90:Array Bool:=#[true,true,true,true,true,true,true,true,true,true,true,true,true,true,true,true,true,true,true,false,false,false,false,false]
abbrev q_91:Array Bool:=#[true,true,true,true,false,false]
abbrev q_92:Array Bool:=#[true,true,true,false,false,false]
abbrev q_93:Array Bool:=#[false,true,true,true,false,false]
abbrev q_94:Array Bool:=#[false,true,true,false,false,false]
abbrev q_95:Array Bool:=#[true,true,false,false,false,false]
abbrev q_96:Array Bool:=#[true,true,true,true,true,true,false,false,false,false,false,false]
abbrev q_97:Array Bool:=#[true,true,true,true,true,true,false,false]
theorem zeu:(Tryz.prog.info? 3).map (fun i=>(i.zero,i.size,i.bytes))=some (some (.int .i64 0),1,8):=by kernel_rfl
theorem zd:Ln Tryz.prog 3 1 false:=Ln.of zeu Tryz.underlying3 rfl
theorem zfi:LnO Tryz.prog 3 1 [.int .i64 0]:=LnO.of zeu rfl rfl (by decide) (by decide)
theorem zet:(Tryz.prog.info? 5).map (fun i=>(i.zero,i.size,i.bytes))=some (some (.int .u8 0),1,1):=by kernel_rfl
theorem zcg:Ln Tryz.prog 5 1 false:=Ln.of zet Tryz.underlying5 rfl
theorem Tryz_lo5:LnO Tryz.prog 5 1 [.int .u8 0]:=LnO.of zet rfl rfl (by decide) (by decide)
theorem z9w:(Tryz.prog.info? 9).map (fun i=>(i.zero,i.size,i.bytes))=some (some (.string ⟨#[]⟩),1,16):=by kernel_rfl
theorem zh:Ln Tryz.prog 9 1 false:=Ln.of z9w Tryz.underlying9 rfl
theorem zcf:LnO Tryz.prog 9 1 [.string ⟨#[]⟩]:=LnO.of z9w rfl rfl (by decide) (by decide)
theorem z7n:(Tryz.prog.info? 24).map (fun i=>(i.zero,i.size,i.bytes))=some (some (.int .i64 0),1,8):=by kernel_rfl
theorem zb0:Ln Tryz.prog 24 1 false:=Ln.of z7n Tryz.underlying24 rfl
theorem z89:LnO Tryz.prog 24 1 [.int .i64 0]:=LnO.of z7n rfl rfl (by decide) (by decide)
theorem zae:(Tryz.prog.info? 28).map (fun i=>(i.zero,i.size,i.bytes))=some (some (.agg #[.string ⟨#[]⟩,.string ⟨#[]⟩,.int .i64 0,.int .i64 0,.int .i64 0,.int .i64 0]),6,64):=by kernel_rfl
theorem zu:Ln Tryz.prog 28 6 true:=Ln.of zae Tryz.underlying28 rfl
theorem z49:LnO Tryz.prog 28 6 [.string ⟨#[]⟩,.string ⟨#[]⟩,.int .i64 0,.int .i64 0,.int .i64 0,.int .i64 0]:=LnO.of zae rfl rfl (by decide) (by decide)
theorem zdk:(Tryz.prog.info? 30).map (fun i=>(i.zero,i.size,i.bytes))=some (some (.agg #[.int .i64 0,.int .i64 0,.string ⟨#[]⟩,.string ⟨#[]⟩,.string ⟨#[]⟩,.int .i64 0,.int .i64 0,.int .i64 0,.int .i64 0]),9,96):=by kernel_rfl
theorem z7f:Ln Tryz.prog 30 9 true:=Ln.of zdk Tryz.underlying30 rfl
theorem Tryz_lo30:LnO Tryz.prog 30 9 [.int .i64 0,.int .i64 0,.string ⟨#[]⟩,.string ⟨#[]⟩,.string ⟨#[]⟩,.int .i64 0,.int .i64 0,.int .i64 0,.int .i64 0]:=LnO.of zdk rfl rfl (by decide) (by decide)
theorem z7m:(Tryz.prog.info? 37).map (fun i=>(i.zero,i.size,i.bytes))=some (some (.agg #[.int .i64 0,.int .i64 0]),2,16):=by kernel_rfl
theorem zj:Ln Tryz.prog 37 2 true:=Ln.of z7m Tryz.underlying37 rfl
theorem z5j:LnO Tryz.prog 37 2 [.int .i64 0,.int .i64 0]:=LnO.of z7m rfl rfl (by decide) (by decide)
theorem Tryz_info82:(Tryz.prog.info? 82).map (fun i=>(i.zero,i.size,i.bytes))=some (some (.pointer none),1,8):=by kernel_rfl
theorem z1p:Ln Tryz.prog 82 1 false:=Ln.of Tryz_info82 Tryz.underlying82 rfl
theorem Tryz_info84:(Tryz.prog.info? 84).map (fun i=>(i.zero,i.size,i.bytes))=some (some (.slice none 0 0),1,24):=by kernel_rfl
theorem z4b:Ln Tryz.prog 84 1 false:=Ln.of Tryz_info84 Tryz.underlying84 rfl
theorem Tryz_info85:(Tryz.prog.info? 85).map (fun i=>(i.zero,i.size,i.bytes))=some (some (.slice none 0 0),1,24):=by kernel_rfl
theorem z4a:Ln Tryz.prog 85 1 false:=Ln.of Tryz_info85 Tryz.underlying85 rfl
theorem zad:(Tryz.prog.info? 94).map (fun i=>(i.zero,i.size,i.bytes))=some (some (.agg #[.string ⟨#[]⟩,.int .i64 0,.int .i64 0]),3,32):=by kernel_rfl
theorem z1m:Ln Tryz.prog 94 3 true:=Ln.of zad Tryz.underlying94 rfl
theorem z7d:LnO Tryz.prog 94 3 [.string ⟨#[]⟩,.int .i64 0,.int .i64 0]:=LnO.of zad rfl rfl (by decide) (by decide)
theorem Tryz_info123:(Tryz.prog.info? 123).map (fun i=>(i.zero,i.size,i.bytes))=some (some (.agg #[.int .i64 0,.int .i64 0,.int .i64 0,.int .i64 0]),4,32):=by kernel_rfl
theorem Tryz_lo123:LnO Tryz.prog 123 4 [.int .i64 0,.int .i64 0,.int .i64 0,.int .i64 0]:=LnO.of Tryz_info123 rfl rfl (by decide) (by decide)
theorem Tryz_bld28(pv:List (Nat×Value)):Tryz.prog.built 28 pv=Instr.fill ((z5z 0 [[.string ⟨#[]⟩],[.string ⟨#[]⟩],[.int .i64 0],[.int .i64 0],[.int .i64 0],[.int .i64 0]]).toArray[·]?) (List.flatten [[.string ⟨#[]⟩],[.string ⟨#[]⟩],[.int .i64 0],[.int .i64 0],[.int .i64 0],[.int .i64 0]]).toArray pv:=by kernel_rfl
theorem z5v(pv:List (Nat×Value)):Tryz.prog.built 37 pv=Instr.fill ((z5z 0 [[.int .i64 0],[.int .i64 0]]).toArray[·]?) (List.flatten [[.int .i64 0],[.int .i64 0]]).toArray pv:=by kernel_rfl
theorem Tryz_bld87(pv:List (Nat×Value)):Tryz.prog.built 87 pv=Instr.fill ((z5z 0 [[.slice none 0 0],[.slice none 0 0],[.pointer none]]).toArray[·]?) (List.flatten [[.slice none 0 0],[.slice none 0 0],[.pointer none]]).toArray pv:=by kernel_rfl
theorem Tryz_bld94(pv:List (Nat×Value)):Tryz.prog.built 94 pv=Instr.fill ((z5z 0 [[.string ⟨#[]⟩],[.int .i64 0],[.int .i64 0]]).toArray[·]?) (List.flatten [[.string ⟨#[]⟩],[.int .i64 0],[.int .i64 0]]).toArray pv:=by kernel_rfl
theorem Tryz_bld98(pv:List (Nat×Value)):Tryz.prog.built 98 pv=Instr.fill ((z5z 0 [[.string ⟨#[]⟩],[.int .i64 0]]).toArray[·]?) (List.flatten [[.string ⟨#[]⟩],[.int .i64 0]]).toArray pv:=by kernel_rfl
theorem Tryz_eq37:EqT Tryz.prog 37 (TR.pair TR.int TR.int) 2:=(EqT.struct Tryz.underlying37 Tryz.stoodInHeld37 rfl (EqF.cons (by decide) rfl zd (EqT.int Tryz.underlying3) (EqF.last (by decide) rfl zd (EqT.int Tryz.underlying3))))
theorem Tryz_fit107:Fit Tryz.prog 107:=Fit.of Tryz.func107 (by kernel_rfl) rfl
theorem Tryz_fit13:Fit Tryz.prog 13:=Fit.of Tryz.func13 (by kernel_rfl) rfl
theorem Tryz_fit38:Fit Tryz.prog 38:=Fit.of Tryz.func38 (by kernel_rfl) rfl
theorem zf4:Fit Tryz.prog 39:=Fit.of Tryz.func39 (by kernel_rfl) rfl
theorem Tryz_fit40:Fit Tryz.prog 40:=Fit.of Tryz.func40 (by kernel_rfl) rfl
theorem Tryz_fit41:Fit Tryz.prog 41:=Fit.of Tryz.func41 (by kernel_rfl) rfl
theorem Tryz_fit42:Fit Tryz.prog 42:=Fit.of Tryz.func42 (by kernel_rfl) rfl
theorem Tryz_fit43:Fit Tryz.prog 43:=Fit.of Tryz.func43 (by kernel_rfl) rfl
theorem Tryz_fit44:Fit Tryz.prog 44:=Fit.of Tryz.func44 (by kernel_rfl) rfl
theorem zf3:Fit Tryz.prog 45:=Fit.of Tryz.func45 (by kernel_rfl) rfl
theorem Tryz_fit46:Fit Tryz.prog 46:=Fit.of Tryz.func46 (by kernel_rfl) rfl
theorem zf2:Fit Tryz.prog 48:=Fit.of Tryz.func48 (by kernel_rfl) rfl
theorem zf1:Fit Tryz.prog 49:=Fit.of Tryz.func49 (by kernel_rfl) rfl
theorem z1v:Fit Tryz.prog 50:=Fit.of Tryz.func50 (by kernel_rfl) rfl
theorem z9z:Fit Tryz.prog 51:=Fit.of Tryz.func51 (by kernel_rfl) rfl
theorem zbl:Fit Tryz.prog 52:=Fit.of Tryz.func52 (by kernel_rfl) rfl
theorem zbk:Fit Tryz.prog 53:=Fit.of Tryz.func53 (by kernel_rfl) rfl
theorem z72:Fit Tryz.prog 54:=Fit.of Tryz.func54 (by kernel_rfl) rfl
theorem Tryz_fit55:Fit Tryz.prog 55:=Fit.of Tryz.func55 (by kernel_rfl) rfl
theorem Tryz_fit56:Fit Tryz.prog 56:=Fit.of Tryz.func56 (by kernel_rfl) rfl
theorem Tryz_fit57:Fit Tryz.prog 57:=Fit.of Tryz.func57 (by kernel_rfl) rfl
theorem Tryz_fit58:Fit Tryz.prog 58:=Fit.of Tryz.func58 (by kernel_rfl) rfl
theorem zf0:Fit Tryz.prog 59:=Fit.of Tryz.func59 (by kernel_rfl) rfl
theorem Tryz_fit60:Fit Tryz.prog 60:=Fit.of Tryz.func60 (by kernel_rfl) rfl
theorem Tryz_fit61:Fit Tryz.prog 61:=Fit.of Tryz.func61 (by kernel_rfl) rfl
theorem zez:Fit Tryz.prog 62:=Fit.of Tryz.func62 (by kernel_rfl) rfl
theorem zbj:Fit Tryz.prog 63:=Fit.of Tryz.func63 (by kernel_rfl) rfl
theorem zbi:Fit Tryz.prog 64:=Fit.of Tryz.func64 (by kernel_rfl) rfl
theorem Tryz_fit65:Fit Tryz.prog 65:=Fit.of Tryz.func65 (by kernel_rfl) rfl
theorem Tryz_fit66:Fit Tryz.prog 66:=Fit.of Tryz.func66 (by kernel_rfl) rfl
theorem z8g:Fit Tryz.prog 67:=Fit.of Tryz.func67 (by kernel_rfl) rfl
theorem z9y:Fit Tryz.prog 68:=Fit.of Tryz.func68 (by kernel_rfl) rfl
theorem z9x:Fit Tryz.prog 69:=Fit.of Tryz.func69 (by kernel_rfl) rfl
theorem zey:Fit Tryz.prog 70:=Fit.of Tryz.func70 (by kernel_rfl) rfl
theorem Tryz_fit71:Fit Tryz.prog 71:=Fit.of Tryz.func71 (by kernel_rfl) rfl
theorem Tryz_fit72:Fit Tryz.prog 72:=Fit.of Tryz.func72 (by kernel_rfl) rfl
theorem Tryz_fit73:Fit Tryz.prog 73:=Fit.of Tryz.func73 (by kernel_rfl) rfl
theorem zex:Fit Tryz.prog 75:=Fit.of Tryz.func75 (by kernel_rfl) rfl
theorem Tryz_fit76:Fit Tryz.prog 76:=Fit.of Tryz.func76 (by kernel_rfl) rfl
theorem zew:Fit Tryz.prog 77:=Fit.of Tryz.func77 (by kernel_rfl) rfl
theorem Tryz_fit78:Fit Tryz.prog 78:=Fit.of Tryz.func78 (by kernel_rfl) rfl
theorem Tryz_fit79:Fit Tryz.prog 79:=Fit.of Tryz.func79 (by kernel_rfl) rfl
theorem Tryz_fit80:Fit Tryz.prog 80:=Fit.of Tryz.func80 (by kernel_rfl) rfl
theorem Tryz_fit81:Fit Tryz.prog 81:=Fit.of Tryz.func81 (by kernel_rfl) rfl
theorem zev:Fit Tryz.prog 82:=Fit.of Tryz.func82 (by kernel_rfl) rfl
theorem Tryz_fit86:Fit Tryz.prog 86:=Fit.of Tryz.func86 (by kernel_rfl) rfl
theorem Tryz_fit87:Fit Tryz.prog 87:=Fit.of Tryz.func87 (by kernel_rfl) rfl
theorem Tryz_fit88:Fit Tryz.prog 88:=Fit.of Tryz.func88 (by kernel_rfl) rfl
theorem Tryz_fit98:Fit Tryz.prog 98:=Fit.of Tryz.func98 (by kernel_rfl) rfl
theorem z3u(ad:Addr)(w:World):(Instr.fieldAt 28 (.pointer (some ad)) 0).run Tryz.prog w=.ok (.pointer (some (ad.add 0))) w:=by
  simp[Instr.fieldAt,run_underlying Tryz.underlying28,Instr.sureAddr,fieldPlace,Fw.run_sizeOf zh]
theorem z7r(ad:Addr)(w:World):(Instr.fieldAt 28 (.pointer (some ad)) 1).run Tryz.prog w=.ok (.pointer (some (ad.add 1))) w:=by
  simp[Instr.fieldAt,run_underlying Tryz.underlying28,Instr.sureAddr,fieldPlace,Fw.run_sizeOf zh]
theorem z3t(ad:Addr)(w:World):(Instr.fieldAt 28 (.pointer (some ad)) 2).run Tryz.prog w=.ok (.pointer (some (ad.add 2))) w:=by
  simp[Instr.fieldAt,run_underlying Tryz.underlying28,Instr.sureAddr,fieldPlace,Fw.run_sizeOf zd]
theorem z5c(ad:Addr)(w:World):(Instr.fieldAt 28 (.pointer (some ad)) 3).run Tryz.prog w=.ok (.pointer (some (ad.add 3))) w:=by
  simp[Instr.fieldAt,run_underlying Tryz.underlying28,Instr.sureAddr,fieldPlace,Fw.run_sizeOf zd]
theorem z2i(ad:Addr)(w:World):(Instr.fieldAt 28 (.pointer (some ad)) 4).run Tryz.prog w=.ok (.pointer (some (ad.add 4))) w:=by
  simp[Instr.fieldAt,run_underlying Tryz.underlying28,Instr.sureAddr,fieldPlace,Fw.run_sizeOf zd]
theorem z4h(ad:Addr)(w:World):(Instr.fieldAt 28 (.pointer (some ad)) 5).run Tryz.prog w=.ok (.pointer (some (ad.add 5))) w:=by
  simp[Instr.fieldAt,run_underlying Tryz.underlying28,Instr.sureAddr,fieldPlace,Fw.run_sizeOf zd]
theorem Tryz_fld30_0(ad:Addr)(w:World):(Instr.fieldAt 30 (.pointer (some ad)) 0).run Tryz.prog w=.ok (.pointer (some (ad.add 0))) w:=by
  simp[Instr.fieldAt,run_underlying Tryz.underlying30,Instr.sureAddr,fieldPlace,Fw.run_sizeOf zd]
theorem z1a(ad:Addr)(w:World):(Instr.fieldAt 30 (.pointer (some ad)) 1).run Tryz.prog w=.ok (.pointer (some (ad.add 1))) w:=by
  simp[Instr.fieldAt,run_underlying Tryz.underlying30,Instr.sureAddr,fieldPlace,Fw.run_sizeOf zd]
theorem z1d(ad:Addr)(w:World):(Instr.fieldAt 30 (.pointer (some ad)) 2).run Tryz.prog w=.ok (.pointer (some (ad.add 2))) w:=by
  simp[Instr.fieldAt,run_underlying Tryz.underlying30,Instr.sureAddr,fieldPlace,Fw.run_sizeOf zh]
theorem Tryz_fld30_3(ad:Addr)(w:World):(Instr.fieldAt 30 (.pointer (some ad)) 3).run Tryz.prog w=.ok (.pointer (some (ad.add 3))) w:=by
  simp[Instr.fieldAt,run_underlying Tryz.underlying30,Instr.sureAddr,fieldPlace,Fw.run_sizeOf zu]
theorem z3s(ad:Addr)(w:World):(Instr.fieldAt 87 (.pointer (some ad)) 0).run Tryz.prog w=.ok (.pointer (some (ad.add 0))) w:=by
  simp[Instr.fieldAt,run_underlying Tryz.underlying87,Instr.sureAddr,fieldPlace,Fw.run_sizeOf z4b]
theorem z2t(ad:Addr)(w:World):(Instr.fieldAt 87 (.pointer (some ad)) 1).run Tryz.prog w=.ok (.pointer (some (ad.add 1))) w:=by
  simp[Instr.fieldAt,run_underlying Tryz.underlying87,Instr.sureAddr,fieldPlace,Fw.run_sizeOf z4a]
theorem z10(ad:Addr)(w:World):(Instr.fieldAt 87 (.pointer (some ad)) 2).run Tryz.prog w=.ok (.pointer (some (ad.add 2))) w:=by
  simp[Instr.fieldAt,run_underlying Tryz.underlying87,Instr.sureAddr,fieldPlace,Fw.run_sizeOf z1p]
theorem z3r(ad:Addr)(w:World):(Instr.fieldAt 94 (.pointer (some ad)) 0).run Tryz.prog w=.ok (.pointer (some (ad.add 0))) w:=by
  simp[Instr.fieldAt,run_underlying Tryz.underlying94,Instr.sureAddr,fieldPlace,Fw.run_sizeOf zh]
theorem z2s(ad:Addr)(w:World):(Instr.fieldAt 94 (.pointer (some ad)) 1).run Tryz.prog w=.ok (.pointer (some (ad.add 1))) w:=by
  simp[Instr.fieldAt,run_underlying Tryz.underlying94,Instr.sureAddr,fieldPlace,Fw.run_sizeOf zd]
theorem z4g(ad:Addr)(w:World):(Instr.fieldAt 94 (.pointer (some ad)) 2).run Tryz.prog w=.ok (.pointer (some (ad.add 2))) w:=by
  simp[Instr.fieldAt,run_underlying Tryz.underlying94,Instr.sureAddr,fieldPlace,Fw.run_sizeOf zd]
theorem z38(ad:Addr)(w:World):(Instr.fieldAt 98 (.pointer (some ad)) 0).run Tryz.prog w=.ok (.pointer (some (ad.add 0))) w:=by
  simp[Instr.fieldAt,run_underlying Tryz.underlying98,Instr.sureAddr,fieldPlace,Fw.run_sizeOf zh]
theorem z6e(ad:Addr)(w:World):(Instr.fieldAt 98 (.pointer (some ad)) 1).run Tryz.prog w=.ok (.pointer (some (ad.add 1))) w:=by
  simp[Instr.fieldAt,run_underlying Tryz.underlying98,Instr.sureAddr,fieldPlace,Fw.run_sizeOf zd]
theorem log_New_c(S:Hp)(w:World)(hS:S.sub w)  (res:(B8×Int))(hm:zd1=some res):Calls Tryz.prog 38 #[] w (Post w S (fun(o:Value)=>o) (fun(o:Value)=>[obox 98 TrL o res])):=by
 refine zi 3 Tryz.func38 Tryz.ntmps38 rfl S false [] [] rfl trivial hS trivial ?_
 unfold zd1 at hm
 refine GL.seq (GL.region (RL.asg rfl rfl rfl (RL.finG (GL.seq (GL.region ?_)))))
 refine RL.bld (t:=TrL) (d0:=((([]:B8),(0:Int)):(B8×Int))) (pv:=[]) rfl Tryz_bld98 rfl rfl rfl trivial (fun S f hi=>by
   show TR.rep TrL S (List.flatten [[.string ⟨#[]⟩],[.int .i64 0]]) _
   simp only[ List.flatten_cons,List.flatten_nil,List.append_nil]
   exact⟨_,_,rfl,rfl,rfl⟩) ?_
 intro v3
 refine RL.box (t:=TrL) (e:=((([]:B8),(0:Int)):(B8×Int))) rfl rfl rfl rfl (VR.item 0 rfl) ?_
 intro v4
 refine RL.reL (L':=[imm TrL v3 ((([]:B8),(0:Int)):(B8×Int)),obox 98 TrL v4 ((([]:B8),(0:Int)):(B8×Int))]) rfl (RL.asg rfl rfl rfl (RL.finG ?_))
 have hm:=Option.some.inj hm
 subst hm
 exact GL.ret (Gx.ret (v:=v4) (res1 rfl rfl) (fun a w st=>(st.pick [1] (by decide) rfl).toPost v4))
theorem house_New_c(S:Hp)(w:World)(hS:S.sub w)  (res:TyH)(hm:z7k=some res):Calls Tryz.prog 27 #[] w (Post w S (fun(o:Value×Value)=>o.1) (fun(o:Value×Value)=>[obox 87 TrH o.1 (res.1,(res.2.1,o.2)),obox 98 TrL o.2 res.2.2])):=by
 refine zi 4 Tryz.func27 Tryz.ntmps27 rfl S false [] [] rfl trivial hS trivial ?_
 unfold z7k at hm
 refine GL.seq (GL.region (RL.asg rfl rfl rfl (RL.finG (GL.seq (GL.region ?_)))))
 obtain⟨y6,e7,hm⟩:=z7 hm
 refine RL.call (vs:=[]) Tryz_fit38 rfl rfl rfl rfl rfl (fun S f w hS hW hi=>log_New_c S w hS  _ e7) ?_
 intro v8
 refine RL.bld (t:=TrH) (d0:=((([]:(List TyA)),([]:(List TyD)),v8):(List TyA)×(List TyD)×Value)) (pv:=[(2,v8)]) rfl Tryz_bld87 rfl rfl rfl ⟨⟨_,_,TR.raw,v8,rfl,rfl,(VR.rawPt 0 rfl PtOf.obox)⟩,trivial⟩ (fun S f hi=>by
   obtain⟨c2,e2,r2⟩:=z28 (t:=TR.raw) (u:=v8) (e:=v8) ((VR.rawPt 0 rfl PtOf.obox) S f hi)
   show TR.rep TrH S (List.flatten [[.slice none 0 0],[.slice none 0 0],(v8:Value).cells.toList]) _
   simp only[e2,List.flatten_cons,List.flatten_nil,List.append_nil]
   exact⟨_,_,rfl,⟨_,[],rfl,⟨none,0,rfl,Nat.le_refl _,Nat.zero_le _,Or.inl ⟨rfl,rfl⟩⟩,rfl⟩,⟨_,_,rfl,⟨_,[],rfl,⟨none,0,rfl,Nat.le_refl _,Nat.zero_le _,Or.inl ⟨rfl,rfl⟩⟩,rfl⟩,r2⟩⟩) ?_
 intro v9
 refine RL.reL (L':=[obox 98 TrL v8 y6,imm TrH v9 (((([]:(List TyA)),([]:(List TyD)),y6):TyH).1,(((([]:(List TyA)),([]:(List TyD)),y6):TyH).2.1,v8))]) rfl (RL.box (t:=TrH) (e:=(((([]:(List TyA)),([]:(List TyD)),y6):TyH).1,(((([]:(List TyA)),([]:(List TyD)),y6):TyH).2.1,v8))) rfl rfl rfl rfl (VR.item 1 rfl) ?_)
 intro v10
 refine RL.reL (L':=[obox 98 TrL v8 y6,imm TrH v9 (((([]:(List TyA)),([]:(List TyD)),y6):TyH).1,(((([]:(List TyA)),([]:(List TyD)),y6):TyH).2.1,v8)),obox 87 TrH v10 (((([]:(List TyA)),([]:(List TyD)),y6):TyH).1,(((([]:(List TyA)),([]:(List TyD)),y6):TyH).2.1,v8))]) rfl (RL.asg rfl rfl rfl (RL.finG ?_))
 have hm:=Option.some.inj hm
 subst hm
 exact GL.ret (Gx.ret (v:=v10) (res1 rfl rfl) (fun a w st=>(st.pick [2,0] (by decide) rfl).toPost (v10,v8)))
theorem z65(S:Hp)(w:World)(hS:S.sub w)(x0:B8)(res:Bool)(hm:z26 x0=some res):Calls Tryz.prog 68 #[(sv x0)] w (z45 w (.bool res)):=by
 refine zi 27 Tryz.func68 Tryz.ntmps68 rfl S false [(0,(sv x0))] [] rfl ⟨rfl,trivial⟩ hS trivial ?_
 unfold z26 at hm
 refine GL.seq (GL.region (RL.asg rfl rfl rfl (RL.finG (GL.seq (GL.seq (GL.region (RL.mv rfl rfl rfl ?_)))))))
 obtain⟨y5,e6,hm⟩:=z7 hm
 replace e6:=z15 e6
 refine RL.cvSB Tryz.underlying9 Tryz.underlying146 Tryz.underlying5 rfl rfl rfl rfl e6 ?_
 intro v7
 refine RL.lenS 0 Tryz.underlying146 rfl rfl rfl rfl SlOf.imm (RL.mv rfl rfl rfl (RL.finG (GL.open_ 0 rfl (fun S h=>z77 S h) (fun n26=>?_))))
 obtain⟨y27,K28,h29,h30,h31,h32,h33⟩:=z1z hm
 refine GL.join (ι:=Unit) (fun(p:Unit)=>[(0,(sv x0))]) (fun(p:Unit)=>[]) (fun(p:Unit)=>K28 (.nx ())) ?_ ?_
 ·refine GL.block (GL.loop (ι:=Nat×(List Int)) (fun(p:Nat×(List Int))=>[(0,(sv x0)),(6,v7),(7,.int .i64 (((z1o x0)).length:Int)),(8,.int .i64 (p.1:Int))]) (fun(p:Nat×(List Int))=>[imm (TR.sl (TR.ik .u8)) v7 (z1o x0)]) (fun(p:Nat×(List Int))=>p.1+p.2.length=((z1o x0)).length∧List.drop p.1 (z1o x0)=p.2∧z2w z4k p.2 p.1 ()=some y27) (fun(p:Nat×(List Int))=>p.2.length) (0,(z1o x0)) ⟨by simp,by simp,h29⟩ (fun a w st=>St.cut [0] ⟨rfl,rfl,rfl,rfl,trivial⟩ (by decide) rfl st) ?_)
  rintro⟨i34,r35⟩ ⟨h40,h41,h39⟩
  try dsimp only at h40 h41 h39
  refine GL.weak (env':=[(0,(sv x0)),(6,v7),(7,.int .i64 (((z1o x0)).length:Int)),(8,.int .i64 (i34:Int))]) (L':=[imm (TR.sl (TR.ik .u8)) v7 (z1o x0)]) ss (GL.seq (GL.region (RL.binI (v:=.bool (decide ((i34:Int)<(((z1o x0)).length:Int)))) rfl rfl rfl rfl rfl (RL.finG (GL.seq (GL.cond rfl (fun b42=>?_) (fun b42=>?_)))))))
  ·have h43:i34<((z1o x0)).length:=by have:=of_decide_eq_true b42;omega
   obtain⟨y44,r46,hr,e45,h47⟩:=z48 h41 rfl h43
   subst hr
   obtain⟨z36,h37,h38⟩:=z2x h39
   unfold z4k at h37
   try dsimp only at h37
   refine GL.skip (GL.seq (GL.block (GL.seq (GL.region (RL.idxS (sz:=1) 0 Tryz.underlying146 zcg rfl rfl rfl rfl rfl SlOf.imm (by omega) (by omega) (RL.ldSx (i:=i34) (e':=y44) 0 Ex.ik zcg rfl rfl rfl rfl SlOf.imm e45 Part.self (RL.asg rfl rfl rfl ?_)))))))
   refine RL.finG (GL.seq ?_)
   obtain⟨y51,K52,h53,h54,h55,h56,h57⟩:=z78 h37
   refine GL.join (ι:=Bool) (fun(p:Bool)=>[(0,(sv x0)),(6,v7),(7,.int .i64 (((z1o x0)).length:Int)),(8,.int .i64 (i34:Int)),(17,.bool p)]) (fun(p:Bool)=>[imm (TR.sl (TR.ik .u8)) v7 (z1o x0)]) (fun(p:Bool)=>K52 (.nx p)) ?_ ?_
   ·skip
    refine GL.region (RL.mv rfl rfl rfl (RL.binI (v:=.bool (decide (y44<(97:Int)))) rfl rfl rfl rfl rfl (RL.mv rfl rfl rfl (RL.split (t:=14) rfl (fun b58=>?_) (fun b58=>?_)))))
    ·replace h53:=z13 b58 h53
     refine RL.skip rfl rfl (RL.skip rfl rfl (RL.pickT rfl rfl rfl rfl (RL.fin ?_)))
     cases h53
     exact fun a w st=>ze true h54 (st.cu [0])
    replace h53:=z14 b58 h53
    refine RL.mv rfl rfl rfl (RL.binI (v:=.bool (decide (y44>(122:Int)))) rfl rfl rfl rfl rfl (RL.pickF rfl rfl rfl rfl (RL.fin ?_)))
    cases h53
    exact fun a w st=>ze (decide (y44>(122:Int))) h54 (st.cu [0])
   rintro x50 h59
   have h60:=h55 _ h59
   try dsimp only at h60
   refine GL.weak (env':=[(0,(sv x0)),(6,v7),(7,.int .i64 (((z1o x0)).length:Int)),(8,.int .i64 (i34:Int)),(17,.bool x50)]) (L':=[imm (TR.sl (TR.ik .u8)) v7 (z1o x0)]) ss (GL.cond rfl (fun b61=>?_) (fun b61=>?_))
   ·replace h60:=z13 b61 h60
    refine GL.seq (GL.region (RL.asg rfl rfl rfl (RL.finG ?_)))
    cases h60
    replace h38:some (Fl.rt _)=some y27:=h38
    cases h38
    have hh:=h32 _ h30
    subst hh
    exact GL.ret (Gx.ret (v:=.bool false) (res1 rfl rfl) (fun a w st=>st.toPostV))
   replace h60:=z14 b61 h60
   refine GL.skip (GL.nilB (GL.region (RL.binI (v:=.int .i64 ((i34+1:Nat):Int)) rfl rfl rfl rfl (binI_succ i34 (by omega)) (RL.mv rfl rfl rfl (RL.fin ?_)))))
   cases h60
   exact fun a w st=>z1l (i34+1,r46) ⟨by show i34+1+r46.length=((z1o x0)).length;simp only[List.length_cons] at h40;omega,h47,h38⟩ (by simp) (st.cu [0])
  have h43:¬ i34<((z1o x0)).length:=by have:=of_decide_eq_false b42;omega
  obtain rfl:r35=[]:=by rw[← h41];exact List.drop_of_length_le (by omega)
  replace h39:some (Fl.nx _)=some y27:=h39
  cases h39
  exact GL.exit (fun a w st=>ze () h30 (st.cu []))
 rintro⟨⟩ h62
 have h63:=h31 _ h62
 try dsimp only at h63
 refine GL.weak (env':=[(0,(sv x0))]) (L':=[]) ss (GL.seq ?_)
 obtain⟨y67,K68,h69,h70,h71,h72,h73⟩:=z1z h63
 refine GL.join (ι:=Bool) (fun(p:Bool)=>[(2,.bool p)]) (fun(p:Bool)=>[]) (fun(p:Bool)=>K68 (.nx p)) ?_ ?_
 ·skip
  refine GL.region (RL.mv rfl rfl rfl (RL.lenT Tryz.underlying9 rfl rfl rfl (RL.binI (v:=.bool (decide (((x0).length:Int)>(0:Int)))) rfl rfl rfl rfl rfl (RL.mv rfl rfl rfl (RL.split (t:=22) rfl (fun b74=>?_) (fun b74=>?_))))))
  ·replace h69:=z13 b74 h69
   refine RL.mv rfl rfl rfl (RL.lenT Tryz.underlying9 rfl rfl rfl (RL.binI (v:=.bool (decide (((x0).length:Int)≤(8:Int)))) rfl rfl rfl rfl rfl (RL.pickT rfl rfl rfl rfl (RL.asg rfl rfl rfl (RL.fin ?_)))))
   cases h69
   exact fun a w st=>ze (decide (((x0).length:Int)≤(8:Int))) h70 (st.cu [])
  replace h69:=z14 b74 h69
  refine RL.skip rfl rfl (RL.skip rfl rfl (RL.skip rfl rfl (RL.pickF rfl rfl rfl rfl (RL.asg rfl rfl rfl (RL.fin ?_)))))
  cases h69
  exact fun a w st=>ze false h70 (st.cu [])
 rintro x66 h75
 have h76:=h71 _ h75
 try dsimp only at h76
 refine GL.weak (env':=[(2,.bool x66)]) (L':=[]) ss ?_
 have h76:=Option.some.inj h76
 subst h76
 exact GL.ret (Gx.ret (v:=.bool x66) (res1 rfl rfl) (fun a w st=>st.toPostV))
theorem z4x(S:Hp)(w:World)(hS:S.sub w)(v0:Value)(x0:(List TyA))(k0:((TR.sl TrA)).vrep S v0 x0)(res:Int)(hm:z1c x0=some res):Calls Tryz.prog 67 #[v0] w (z45 w (.int .i64 res)):=by
 refine zi 53 Tryz.func67 Tryz.ntmps67 rfl S false [(0,v0)] [imm (TR.sl TrA) v0 x0] rfl ⟨rfl,trivial⟩ hS ⟨k0,trivial⟩ ?_
 unfold z1c at hm
 refine GL.seq (GL.region (RL.asg rfl rfl rfl (RL.finG (GL.seq (GL.seq (GL.region (RL.mv rfl rfl rfl ?_)))))))
 refine RL.lenS 0 Tryz.underlying84 rfl rfl rfl rfl SlOf.imm (RL.binI (v:=.bool (decide (((x0).length:Int)>(6:Int)))) rfl rfl rfl rfl rfl (RL.finG (GL.cond rfl (fun b2=>?_) (fun b2=>?_))))
 ·replace hm:=z13 b2 hm
  refine GL.seq (GL.region (RL.asg rfl rfl rfl (RL.finG ?_)))
  have hm:=Option.some.inj hm
  subst hm
  exact GL.ret (Gx.ret (v:=.int .i64 (2:Int)) (res1 rfl rfl) (fun a w st=>st.toPostV))
 replace hm:=z14 b2 hm
 refine GL.skip (GL.seq (GL.seq (GL.region (RL.mv rfl rfl rfl (RL.lenS 0 Tryz.underlying84 rfl rfl rfl rfl SlOf.imm (RL.mv rfl rfl rfl (RL.finG ?_)))))))
 refine GL.open_ 0 rfl (fun S h=>z77 S h) (fun n60=>?_)
 obtain⟨y61,K62,h63,h64,h65,h66,h67⟩:=z1z hm
 refine GL.join (ι:=Unit) (fun(p:Unit)=>[]) (fun(p:Unit)=>[]) (fun(p:Unit)=>K62 (.nx ())) ?_ ?_
 ·refine GL.block (GL.loop (ι:=Nat×(List TyA)) (fun(p:Nat×(List TyA))=>[(0,v0),(8,v0),(9,.int .i64 ((x0).length:Int)),(10,.int .i64 (p.1:Int))]) (fun(p:Nat×(List TyA))=>[imm (TR.sl TrA) v0 x0]) (fun(p:Nat×(List TyA))=>p.1+p.2.length=(x0).length∧List.drop p.1 x0=p.2∧z2w (z3n x0) p.2 p.1 ()=some y61) (fun(p:Nat×(List TyA))=>p.2.length) (0,x0) ⟨by simp,by simp,h63⟩ (fun a w st=>St.cut [0] ⟨rfl,rfl,rfl,rfl,trivial⟩ (by decide) rfl st) ?_)
  rintro⟨i68,r69⟩ ⟨h74,h75,h73⟩
  try dsimp only at h74 h75 h73
  refine GL.weak (env':=[(0,v0),(8,v0),(9,.int .i64 ((x0).length:Int)),(10,.int .i64 (i68:Int))]) (L':=[imm (TR.sl TrA) v0 x0]) ss (GL.seq (GL.region (RL.binI (v:=.bool (decide ((i68:Int)<((x0).length:Int)))) rfl rfl rfl rfl rfl (RL.finG (GL.seq (GL.cond rfl (fun b76=>?_) (fun b76=>?_)))))))
  ·have h77:i68<(x0).length:=by have:=of_decide_eq_true b76;omega
   obtain⟨y78,r80,hr,e79,h81⟩:=z48 h75 rfl h77
   subst hr
   obtain⟨z70,h71,h72⟩:=z2x h73
   unfold z3n at h71
   try dsimp only at h71
   refine GL.skip (GL.seq (GL.block (GL.seq (GL.region (RL.mv rfl rfl rfl (RL.idxS (sz:=3) 0 Tryz.underlying84 z1m rfl rfl rfl rfl rfl SlOf.imm (by omega) (by omega) (RL.ldS (i:=i68) (r:=TrA) (e':=y78) 0 z1m rfl rfl rfl rfl SlOf.imm e79 Part.self ?_)))))))
   intro v84
   refine RL.alloc (t:=TrA) (z:=(([]:B8),(0:Int),(0:Int))) z7d (fun S=>⟨[.string ⟨#[]⟩],_,rfl,rfl,⟨[.int .i64 0],_,rfl,rfl,rfl⟩⟩) rfl rfl rfl ?_
   intro v85
   refine RL.reL (L':=[imm (TR.sl TrA) v0 x0,imm TrA v84 y78,obox 94 TrA v85 (([]:B8),(0:Int),(0:Int))]) rfl (RL.asg rfl rfl rfl (RL.stP (off:=0) (e':=y78) (d1:=y78) (r:=TrA) 2 z1m rfl rfl oi rfl (VR.item 1 rfl) rfl Upd.self (RL.finG (GL.seq (GL.seq ?_)))))
   obtain⟨y99,K100,h101,h102,h103,h104,h105⟩:=z78 h71
   refine GL.join (ι:=Bool) (fun(p:Bool)=>[(0,v0),(4,v85),(8,v0),(9,.int .i64 ((x0).length:Int)),(10,.int .i64 (i68:Int)),(33,.bool p)]) (fun(p:Bool)=>[imm (TR.sl TrA) v0 x0,obox 94 TrA v85 y78]) (fun(p:Bool)=>K100 (.nx p)) ?_ ?_
   ·skip
    refine GL.regionQ rfl rfl (by kernel_rfl) (RL.fadr (off:=0) (fo:=0) 2 z3r rfl rfl rfl PtOf.obox oi (RL.ldPx (off:=(0+0)) (e':=y78.1) 2 Ex.str zh rfl rfl ol rfl PtOf.obox (Part.fst Part.self) ?_))
    obtain⟨y106,e107,h101⟩:=z7 h101
    refine RL.callV (v:=.bool y106) (vs:=[(sv y78.1)]) z9y rfl (Or.inr ⟨_,rfl⟩) rfl rfl rfl rfl (fun U w hU hW hL=>z65 U w hU y78.1 _ e107) (RL.notB rfl rfl rfl (RL.mv rfl rfl rfl (RL.split (t:=19) rfl (fun b108=>?_) (fun b108=>?_))))
    ·replace h101:=z13 b108 h101
     refine RL.skip rfl rfl (RL.skip rfl rfl (RL.skip rfl rfl (RL.skip rfl rfl (RL.skip rfl rfl (RL.skip rfl rfl (RL.skip rfl rfl (RL.skip rfl rfl ?_)))))))
     refine RL.skip rfl rfl (RL.skip rfl rfl (RL.skip rfl rfl (RL.skip rfl rfl (RL.skip rfl rfl (RL.pickT rfl rfl rfl rfl (RL.finQ ?_))))))
     cases h101
     exact fun a w st=>ze true h102 (st.cu [0,2])
    replace h101:=z14 b108 h101
    refine RL.mv rfl rfl rfl (RL.binI (v:=.bool (decide ((i68:Int)>(0:Int)))) rfl rfl rfl rfl rfl (RL.mv rfl rfl rfl (RL.split (t:=22) rfl (fun b109=>?_) (fun b109=>?_))))
    ·replace h101:=z13 b109 h101
     refine RL.fadr (off:=0) (fo:=0) 2 z3r rfl rfl rfl PtOf.obox oi (RL.ldPx (off:=(0+0)) (e':=y78.1) 2 Ex.str zh rfl rfl ol rfl PtOf.obox (Part.fst Part.self) (RL.mv rfl rfl rfl (RL.mv rfl rfl rfl (RL.binI (v:=.int .i64 (wsub (i68:Int) (1:Int))) rfl rfl rfl rfl rfl ?_))))
     obtain⟨y110,e111,h101⟩:=z7 h101
     refine RL.idxS (sz:=3) 0 Tryz.underlying84 z1m rfl rfl rfl rfl rfl SlOf.imm (z8 e111).1 (z8 e111).2.1 (RL.fadrS (off:=((wsub (i68:Int) (1:Int)).toNat*3)) (fo:=0) 0 z3r rfl rfl rfl SlOf.imm (by have:=(List.getElem?_eq_some_iff.1 (z8 e111).2.2).1;(try dsimp only at this ⊢);omega) rfl ?_)
     refine RL.ldSx (i:=(wsub (i68:Int) (1:Int)).toNat) (e':=y110.1) 0 Ex.str zh rfl rfl rfl rfl SlOf.imm (z8 e111).2.2 (Part.fst Part.self) (RL.binS (v:=.bool (bls y78.1 y110.1||y78.1==y110.1)) rfl rfl rfl rfl rfl (RL.pickT rfl rfl rfl rfl (RL.pickF rfl rfl rfl rfl (RL.finQ ?_))))
     cases h101
     exact fun a w st=>ze (bls y78.1 y110.1||y78.1==y110.1) h102 (st.cu [0,2])
    replace h101:=z14 b109 h101
    refine RL.skip rfl rfl (RL.skip rfl rfl (RL.skip rfl rfl (RL.skip rfl rfl (RL.skip rfl rfl (RL.skip rfl rfl (RL.skip rfl rfl (RL.skip rfl rfl ?_)))))))
    refine RL.skip rfl rfl (RL.pickF rfl rfl rfl rfl (RL.pickF rfl rfl rfl rfl (RL.finQ ?_)))
    cases h101
    exact fun a w st=>ze false h102 (st.cu [0,2])
   rintro x98 h112
   have h113:=h103 _ h112
   try dsimp only at h113
   refine GL.weak (env':=[(0,v0),(4,v85),(8,v0),(9,.int .i64 ((x0).length:Int)),(10,.int .i64 (i68:Int)),(33,.bool x98)]) (L':=[imm (TR.sl TrA) v0 x0,obox 94 TrA v85 y78]) ss (GL.cond rfl (fun b114=>?_) (fun b114=>?_))
   ·replace h113:=z13 b114 h113
    refine GL.seq (GL.region (RL.asg rfl rfl rfl (RL.finG ?_)))
    cases h113
    replace h72:some (Fl.rt _)=some y61:=h72
    cases h72
    have hh:=h66 _ h64
    subst hh
    exact GL.ret (Gx.ret (v:=.int .i64 (3:Int)) (res1 rfl rfl) (fun a w st=>st.toPostV))
   replace h113:=z14 b114 h113
   refine GL.skip (GL.seq ?_)
   obtain⟨y122,K123,h124,h125,h126,h127,h128⟩:=z78 h113
   refine GL.join (ι:=Bool) (fun(p:Bool)=>[(0,v0),(8,v0),(9,.int .i64 ((x0).length:Int)),(10,.int .i64 (i68:Int)),(51,.bool p)]) (fun(p:Bool)=>[imm (TR.sl TrA) v0 x0]) (fun(p:Bool)=>K123 (.nx p)) ?_ ?_
   ·skip
    refine GL.region (RL.fadr (off:=0) (fo:=1) 1 z2s rfl rfl rfl PtOf.obox oi (RL.ldPx (off:=(0+1)) (e':=y78.2.1) 1 Ex.ik zd rfl rfl ol rfl PtOf.obox (Part.snd (Part.fst Part.self)) (RL.binI (v:=.bool (decide (y78.2.1<(0:Int)))) rfl rfl rfl rfl rfl (RL.mv rfl rfl rfl (RL.split (t:=37) rfl (fun b129=>?_) (fun b129=>?_))))))
    ·replace h124:=z13 b129 h124
     refine RL.skip rfl rfl (RL.skip rfl rfl (RL.skip rfl rfl (RL.pickT rfl rfl rfl rfl (RL.mv rfl rfl rfl (RL.skip rfl rfl (RL.skip rfl rfl (RL.skip rfl rfl ?_)))))))
     refine RL.pickT rfl rfl rfl rfl (RL.mv rfl rfl rfl (RL.skip rfl rfl (RL.skip rfl rfl (RL.skip rfl rfl (RL.pickT rfl rfl rfl rfl (RL.fin ?_))))))
     cases h124
     exact fun a w st=>ze true h125 (st.cu [0])
    replace h124:=z14 b129 h124
    refine RL.fadr (off:=0) (fo:=1) 1 z2s rfl rfl rfl PtOf.obox oi (RL.ldPx (off:=(0+1)) (e':=y78.2.1) 1 Ex.ik zd rfl rfl ol rfl PtOf.obox (Part.snd (Part.fst Part.self)) (RL.binI (v:=.bool (decide (y78.2.1>(1000000:Int)))) rfl rfl rfl rfl rfl (RL.pickF rfl rfl rfl rfl (RL.mv rfl rfl rfl (RL.split (t:=42) rfl (fun b130=>?_) (fun b130=>?_))))))
    ·replace h124:=z13 b130 h124
     refine RL.skip rfl rfl (RL.skip rfl rfl (RL.skip rfl rfl (RL.pickT rfl rfl rfl rfl (RL.mv rfl rfl rfl (RL.skip rfl rfl (RL.skip rfl rfl (RL.skip rfl rfl ?_)))))))
     refine RL.pickT rfl rfl rfl rfl (RL.fin ?_)
     cases h124
     exact fun a w st=>ze true h125 (st.cu [0])
    replace h124:=z14 b130 h124
    refine RL.fadr (off:=0) (fo:=2) 1 z4g rfl rfl rfl PtOf.obox oi (RL.ldPx (off:=(0+2)) (e':=y78.2.2) 1 Ex.ik zd rfl rfl ol rfl PtOf.obox (Part.snd (Part.snd Part.self)) (RL.binI (v:=.bool (decide (y78.2.2<(0:Int)))) rfl rfl rfl rfl rfl (RL.pickF rfl rfl rfl rfl (RL.mv rfl rfl rfl (RL.split (t:=47) rfl (fun b131=>?_) (fun b131=>?_))))))
    ·replace h124:=z13 b131 h124
     refine RL.skip rfl rfl (RL.skip rfl rfl (RL.skip rfl rfl (RL.pickT rfl rfl rfl rfl (RL.fin ?_))))
     cases h124
     exact fun a w st=>ze true h125 (st.cu [0])
    replace h124:=z14 b131 h124
    refine RL.fadr (off:=0) (fo:=2) 1 z4g rfl rfl rfl PtOf.obox oi (RL.ldPx (off:=(0+2)) (e':=y78.2.2) 1 Ex.ik zd rfl rfl ol rfl PtOf.obox (Part.snd (Part.snd Part.self)) (RL.binI (v:=.bool (decide (y78.2.2>(1000000:Int)))) rfl rfl rfl rfl rfl (RL.pickF rfl rfl rfl rfl (RL.fin ?_))))
    cases h124
    exact fun a w st=>ze (decide (y78.2.2>(1000000:Int))) h125 (st.cu [0])
   rintro x121 h132
   have h133:=h126 _ h132
   try dsimp only at h133
   refine GL.weak (env':=[(0,v0),(8,v0),(9,.int .i64 ((x0).length:Int)),(10,.int .i64 (i68:Int)),(51,.bool x121)]) (L':=[imm (TR.sl TrA) v0 x0]) ss (GL.cond rfl (fun b134=>?_) (fun b134=>?_))
   ·replace h133:=z13 b134 h133
    refine GL.seq (GL.region (RL.asg rfl rfl rfl (RL.finG ?_)))
    cases h133
    replace h72:some (Fl.rt _)=some y61:=h72
    cases h72
    have hh:=h66 _ h64
    subst hh
    exact GL.ret (Gx.ret (v:=.int .i64 (1:Int)) (res1 rfl rfl) (fun a w st=>st.toPostV))
   replace h133:=z14 b134 h133
   refine GL.skip (GL.nilB (GL.region (RL.binI (v:=.int .i64 ((i68+1:Nat):Int)) rfl rfl rfl rfl (binI_succ i68 (by omega)) (RL.mv rfl rfl rfl (RL.fin ?_)))))
   cases h133
   exact fun a w st=>z1l (i68+1,r80) ⟨by show i68+1+r80.length=(x0).length;simp only[List.length_cons] at h74;omega,h81,h72⟩ (by simp) (st.cu [0])
  have h77:¬ i68<(x0).length:=by have:=of_decide_eq_false b76;omega
  obtain rfl:r69=[]:=by rw[← h75];exact List.drop_of_length_le (by omega)
  replace h73:some (Fl.nx _)=some y61:=h73
  cases h73
  exact GL.exit (fun a w st=>ze () h64 (st.cu []))
 rintro⟨⟩ h135
 have h136:=h65 _ h135
 try dsimp only at h136
 refine GL.weak (env':=[]) (L':=[]) ss (GL.seq (GL.region (RL.asg rfl rfl rfl (RL.finG ?_))))
 have h136:=Option.some.inj h136
 subst h136
 exact GL.ret (Gx.ret (v:=.int .i64 (0:Int)) (res1 rfl rfl) (fun a w st=>st.toPostV))
theorem z1u(S:Hp)(w:World)(hS:S.sub w)(v0:Value)(x0:(List TyA))(k0:((TR.sl TrA)).vrep S v0 x0)(f1:FuncId)(c1:Array Value)(t1:Fit Tryz.prog f1)(g1:TyA→Option Bool)(k1:∀ (U:Hp) (w':World),Hp.le S U→U.sub w'→∀ (u0:Value) (a0:TyA) (_:(TrA).vrep U u0 a0) (rr:Bool),g1 a0=some rr→Calls Tryz.prog f1 (#[u0]++c1) w' (z45 w' (.bool rr)))(res:Int)(hm:zl x0 g1=some res):Calls Tryz.prog 64 #[v0,.func (.func f1) #[] c1] w (z45 w (.int .i64 res)):=by
 refine zi 19 Tryz.func64 Tryz.ntmps64 rfl S false [(0,v0),(1,.func (.func f1) #[] c1)] [imm (TR.sl TrA) v0 x0] rfl ⟨rfl,⟨rfl,trivial⟩⟩ hS ⟨k0,trivial⟩ ?_
 unfold zl at hm
 refine GL.seq (GL.region (RL.asg rfl rfl rfl (RL.finG (GL.seq (GL.seq (GL.region (RL.mv rfl rfl rfl ?_)))))))
 refine RL.lenS 0 Tryz.underlying84 rfl rfl rfl rfl SlOf.imm (RL.mv rfl rfl rfl (RL.finG (GL.open_ 0 rfl (fun S h=>z77 S h) (fun n14=>?_))))
 obtain⟨y15,K16,h17,h18,h19,h20,h21⟩:=z1z hm
 refine GL.join (ι:=Unit) (fun(p:Unit)=>[]) (fun(p:Unit)=>[]) (fun(p:Unit)=>K16 (.nx ())) ?_ ?_
 ·refine GL.block (GL.loop (ι:=Nat×(List TyA)) (fun(p:Nat×(List TyA))=>[(0,v0),(1,.func (.func f1) #[] c1),(7,.int .i64 ((x0).length:Int)),(8,.int .i64 (p.1:Int))]) (fun(p:Nat×(List TyA))=>[imm (TR.sl TrA) v0 x0]) (fun(p:Nat×(List TyA))=>p.1+p.2.length=(x0).length∧List.drop p.1 x0=p.2∧z2w (z1h g1) p.2 p.1 ()=some y15) (fun(p:Nat×(List TyA))=>p.2.length) (0,x0) ⟨by simp,by simp,h17⟩ (fun a w st=>St.cut [0] ⟨rfl,rfl,rfl,rfl,trivial⟩ (by decide) rfl st) ?_)
  rintro⟨i22,r23⟩ ⟨h28,h29,h27⟩
  try dsimp only at h28 h29 h27
  refine GL.weak (env':=[(0,v0),(1,.func (.func f1) #[] c1),(7,.int .i64 ((x0).length:Int)),(8,.int .i64 (i22:Int))]) (L':=[imm (TR.sl TrA) v0 x0]) ss (GL.seq (GL.region (RL.binI (v:=.bool (decide ((i22:Int)<((x0).length:Int)))) rfl rfl rfl rfl rfl (RL.finG (GL.seq (GL.cond rfl (fun b30=>?_) (fun b30=>?_)))))))
  ·have h31:i22<(x0).length:=by have:=of_decide_eq_true b30;omega
   obtain⟨y32,r34,hr,e33,h35⟩:=z48 h29 rfl h31
   subst hr
   obtain⟨z24,h25,h26⟩:=z2x h27
   unfold z1h at h25
   try dsimp only at h25
   refine GL.skip (GL.seq (GL.block (GL.seq (GL.region (RL.mv rfl rfl rfl (RL.asg rfl rfl rfl (RL.finG ?_)))))))
   refine GL.seq (GL.region (RL.mv rfl rfl rfl (RL.mv rfl rfl rfl (RL.mv rfl rfl rfl (RL.idxS (sz:=3) 0 Tryz.underlying84 z1m rfl rfl rfl rfl rfl SlOf.imm (by omega) (by omega) (RL.ldS (i:=i22) (r:=TrA) (e':=y32) 0 z1m rfl rfl rfl rfl SlOf.imm e33 Part.self ?_))))))
   intro v39
   obtain⟨y40,e41,h25⟩:=z7 h25
   refine RL.callV (v:=.bool y40) (vs:=[v39]) t1 rfl ol rfl rfl rfl rfl (fun U w hU hW hL=>k1 U w hW hU _ _ (hL 1 _ _ rfl Seen.imm) _ e41) (RL.finG (GL.cond rfl (fun b42=>?_) (fun b42=>?_)))
   ·replace h25:=z13 b42 h25
    refine GL.seq (GL.region (RL.mv rfl rfl rfl (RL.asg rfl rfl rfl (RL.finG ?_))))
    cases h25
    replace h26:some (Fl.rt _)=some y15:=h26
    cases h26
    have hh:=h20 _ h18
    subst hh
    exact GL.ret (Gx.ret (v:=.int .i64 (i22:Int)) (res1 rfl rfl) (fun a w st=>st.toPostV))
   replace h25:=z14 b42 h25
   refine GL.skip (GL.nilB (GL.region (RL.binI (v:=.int .i64 ((i22+1:Nat):Int)) rfl rfl rfl rfl (binI_succ i22 (by omega)) (RL.mv rfl rfl rfl (RL.fin ?_)))))
   cases h25
   exact fun a w st=>z1l (i22+1,r34) ⟨by show i22+1+r34.length=(x0).length;simp only[List.length_cons] at h28;omega,h35,h26⟩ (by simp) (st.cu [0])
  have h31:¬ i22<(x0).length:=by have:=of_decide_eq_false b30;omega
  obtain rfl:r23=[]:=by rw[← h29];exact List.drop_of_length_le (by omega)
  replace h27:some (Fl.nx _)=some y15:=h27
  cases h27
  exact GL.exit (fun a w st=>ze () h18 (st.cu []))
 rintro⟨⟩ h43
 have h44:=h19 _ h43
 try dsimp only at h44
 refine GL.weak (env':=[]) (L':=[]) ss (GL.seq (GL.region (RL.asg rfl rfl rfl (RL.finG ?_))))
 have h44:=Option.some.inj h44
 subst h44
 exact GL.ret (Gx.ret (v:=.int .i64 (-1:Int)) (res1 rfl rfl) (fun a w st=>st.toPostV))
theorem zdv(S:Hp)(w:World)(hS:S.sub w)(v0:Value)(x0:TyA)(k0:(TrA).vrep S v0 x0)(v1:Value)(x1:B8)(k1:((TR.ptr TR.str)).vrep S v1 x1)(res:Bool)(hm:z4l x0 x1=some res):Calls Tryz.prog 86 #[v0,v1] w (z45 w (.bool res)):=by
 refine zi 8 Tryz.func86 Tryz.ntmps86 rfl S false [(0,v0),(1,v1)] [imm TrA v0 x0,imm (TR.ptr TR.str) v1 x1] rfl ⟨rfl,⟨rfl,trivial⟩⟩ hS ⟨k0,⟨k1,trivial⟩⟩ ?_
 unfold z4l at hm
 refine GL.seq (GL.region (RL.box (t:=TrA) (e:=x0) rfl rfl rfl rfl (VR.item 0 rfl) ?_))
 intro v4
 refine RL.asg rfl rfl rfl (RL.finG (GL.seq (GL.region (RL.fadr (off:=0) (fo:=0) 2 z3r rfl rfl rfl PtOf.obox oi (RL.ldPx (off:=(0+0)) (e':=x0.1) 2 Ex.str zh rfl rfl ol rfl PtOf.obox (Part.fst Part.self) (RL.ldPx (off:=0) (e':=x1) 1 Ex.str zh rfl rfl oi rfl PtOf.imm Part.self (RL.binS (v:=.bool (x0.1==x1)) rfl rfl rfl rfl rfl ?_)))))))
 refine RL.asg rfl rfl rfl (RL.finG ?_)
 have hm:=Option.some.inj hm
 subst hm
 exact GL.ret (Gx.ret (v:=.bool (x0.1==x1)) (res1 rfl rfl) (fun a w st=>st.toPostV))
theorem z6t(S:Hp)(w:World)(hS:S.sub w)(v0:Value)(x0:(List TyA))(k0:((TR.sl TrA)).vrep S v0 x0)(x1:B8)(res:Int)(hm:z2b x0 x1=some res):Calls Tryz.prog 69 #[v0,(sv x1)] w (z45 w (.int .i64 res)):=by
 refine zi 8 Tryz.func69 Tryz.ntmps69 rfl S false [(0,v0),(1,(sv x1))] [imm (TR.sl TrA) v0 x0] rfl ⟨rfl,⟨rfl,trivial⟩⟩ hS ⟨k0,trivial⟩ ?_
 unfold z2b at hm
 refine GL.seq (GL.region (RL.box (t:=TR.str) (e:=x1) rfl rfl rfl rfl VR.str ?_))
 intro v4
 refine RL.asg rfl rfl rfl (RL.finG (GL.seq (GL.region (RL.mv rfl rfl rfl (RL.mkF (vs:=[v4]) rfl rfl rfl ?_)))))
 obtain⟨y7,e8,hm⟩:=z7 hm
 refine RL.callV (v:=.int .i64 y7) (vs:=[v0,.func (.func 86) #[] #[v4]]) zbi rfl ol rfl rfl rfl rfl (fun U w hU hW hL=>z1u U w hU _ _ (hL 0 _ _ rfl Seen.imm) 86 #[v4] Tryz_fit86 (fun a0=>z4l a0 x1) (fun U' w' hle hU' u0 a0 q0 rr hr=>(zdv U' w' hU' u0 a0 q0 _ _ (TR.vrep_mono hle (hL 1 _ _ rfl Seen.obox)) rr hr).mono (fun _ _ z=>z)) _ e8) (RL.asg rfl rfl rfl (RL.finG ?_))
 have hm:=Option.some.inj hm
 subst hm
 exact GL.ret (Gx.ret (v:=.int .i64 y7) (res1 rfl rfl) (fun a w st=>st.toPostV))
theorem z2k(S:Hp)(w:World)(hS:S.sub w)(v0:Value)(x0:List TyA)(k0:(TR.sl TrA).vrep S v0 x0)(res:List TyA)(hm:zz x0=some res):Calls Tryz.prog 70 #[v0] w (Post w S (fun(o:Value)=>o) (fun(o:Value)=>[own 94 TrA o res])):=by
  refine zi 8 Tryz.func70 Tryz.ntmps70 rfl S false [(0,v0)] [imm (TR.sl TrA) v0 x0] rfl ⟨rfl,trivial⟩ hS ⟨k0,trivial⟩ ?_
  unfold zz at hm
  obtain⟨_,hc,hm⟩:=z7 hm
  replace hc:=z15 hc
  have hm:=Option.some.inj hm
  subst hm
  refine GL.seq (GL.region (RL.asg rfl rfl rfl (RL.finG (GL.seq (GL.seq (GL.region ?_))))))
  refine RL.mv rfl rfl rfl (RL.eqNil 0 Tryz.underlying84 rfl rfl rfl rfl rfl SlOf.imm (fun b hb=>?_))
  refine RL.finG (GL.cond rfl (fun h=>?_) (fun h=>?_))
  · have:=hb h
    subst this
    refine GL.seq (GL.region (RL.asg rfl rfl rfl (RL.finG ?_)))
    refine GL.weak (fun a w st=>st.nilOwn 94 TrA) ?_
    exact GL.ret (Gx.ret (v:=Value.slice none 0 0) (res1 rfl rfl) (fun a w st=>(st.pick [1] (by decide) rfl).toPost (Value.slice none 0 0)))
  · refine GL.skip (GL.seq (GL.region ?_))
    refine RL.bS (t:=TrA) (vs:=[]) ([]:List TyA) Tryz.underlying84 z7d rfl rfl rfl rfl trivial rfl (by decide) ?_
    intro v1
    refine RL.mv rfl rfl rfl (RL.appB 1 0 Tryz.underlying84 z7d rfl rfl rfl rfl rfl rfl rfl SlOf.imm (zby.of (N:=4398046511104) zad (by decide) (by decide)) (by simpa using hc) ?_)
    intro v2
    refine RL.asg rfl rfl rfl (RL.finG ?_)
    exact GL.ret (Gx.ret (v:=v2) (res1 rfl rfl) (fun a w st=>(st.pick [1] (by decide) rfl).toPost v2))
theorem zbn(S:Hp)(w:World)(hS:S.sub w)(x0:Int)(res:Int)(hm:z5y x0=some res):Calls Tryz.prog 107 #[.int .u64 x0] w (PostC w (.int .i64 res)):=by
 refine zi 25 Tryz.func107 Tryz.ntmps107 rfl S true [(0,.int .u64 x0)] [] rfl ⟨rfl,trivial⟩ hS trivial ?_
 unfold z5y at hm
 refine GL.seq (GL.region (RL.asg rfl rfl rfl (RL.finG (GL.seq (GL.seq (GL.region (RL.mv rfl rfl rfl ?_)))))))
 refine RL.binI (v:=.bool (decide (x0≥(4294967296:Int)))) rfl rfl rfl rfl rfl (RL.finG ?_)
 obtain⟨y9,K10,h11,h12,h13,h14,h15⟩:=z1z hm
 refine GL.join (ι:=Int×Int) (fun(p:Int×Int)=>[(0,.int .u64 p.1),(2,.int .i64 p.2)]) (fun(p:Int×Int)=>[]) (fun(p:Int×Int)=>K10 (.nx (p.1,p.2))) ?_ ?_
 ·skip
  refine GL.cond rfl (fun b16=>?_) (fun b16=>?_)
  ·replace h11:=z13 b16 h11
   refine GL.seq (GL.region (RL.mv rfl rfl rfl ?_))
   obtain⟨y19,e20,h11⟩:=z7 h11
   replace e20:=z15 e20
   refine RL.sh (by simp) rfl rfl rfl rfl e20 (RL.asg rfl rfl rfl (RL.finG (GL.region (RL.asg rfl rfl rfl (RL.finG ?_)))))
   cases h11
   exact fun a w st=>ze (Int.fdiv x0 (2 ^ (min (32:Int).toNat (IntKind.bits .u64))),(32:Int)) h12 (st.cu [])
  replace h11:=z14 b16 h11
  refine GL.skip ?_
  cases h11
  exact fun a w st=>ze (x0,(0:Int)) h12 (st.cu [])
 rintro⟨x7,x8⟩ h21
 have h22:=h13 _ h21
 try dsimp only at h22
 refine GL.weak (env':=[(0,.int .u64 x7),(2,.int .i64 x8)]) (L':=[]) ss (GL.seq (GL.seq (GL.region (RL.mv rfl rfl rfl (RL.binI (v:=.bool (decide (x7≥(65536:Int)))) rfl rfl rfl rfl rfl (RL.finG ?_))))))
 obtain⟨y30,K31,h32,h33,h34,h35,h36⟩:=z1z h22
 refine GL.join (ι:=Int×Int) (fun(p:Int×Int)=>[(0,.int .u64 p.1),(2,.int .i64 p.2)]) (fun(p:Int×Int)=>[]) (fun(p:Int×Int)=>K31 (.nx (p.1,p.2))) ?_ ?_
 ·skip
  refine GL.cond rfl (fun b37=>?_) (fun b37=>?_)
  ·replace h32:=z13 b37 h32
   refine GL.seq (GL.region (RL.mv rfl rfl rfl ?_))
   obtain⟨y40,e41,h32⟩:=z7 h32
   replace e41:=z15 e41
   refine RL.sh (by simp) rfl rfl rfl rfl e41 (RL.asg rfl rfl rfl (RL.finG (GL.region (RL.mv rfl rfl rfl (RL.binI (v:=.int .i64 (wadd x8 (16:Int))) rfl rfl rfl rfl rfl (RL.asg rfl rfl rfl (RL.finG ?_)))))))
   cases h32
   exact fun a w st=>ze (Int.fdiv x7 (2 ^ (min (16:Int).toNat (IntKind.bits .u64))),wadd x8 (16:Int)) h33 (st.cu [])
  replace h32:=z14 b37 h32
  refine GL.skip ?_
  cases h32
  exact fun a w st=>ze (x7,x8) h33 (st.cu [])
 rintro⟨x28,x29⟩ h42
 have h43:=h34 _ h42
 try dsimp only at h43
 refine GL.weak (env':=[(0,.int .u64 x28),(2,.int .i64 x29)]) (L':=[]) ss (GL.seq (GL.seq (GL.region (RL.mv rfl rfl rfl (RL.binI (v:=.bool (decide (x28≥(256:Int)))) rfl rfl rfl rfl rfl (RL.finG ?_))))))
 obtain⟨y51,K52,h53,h54,h55,h56,h57⟩:=z1z h43
 refine GL.join (ι:=Int×Int) (fun(p:Int×Int)=>[(0,.int .u64 p.1),(2,.int .i64 p.2)]) (fun(p:Int×Int)=>[]) (fun(p:Int×Int)=>K52 (.nx (p.1,p.2))) ?_ ?_
 ·skip
  refine GL.cond rfl (fun b58=>?_) (fun b58=>?_)
  ·replace h53:=z13 b58 h53
   refine GL.seq (GL.region (RL.mv rfl rfl rfl ?_))
   obtain⟨y61,e62,h53⟩:=z7 h53
   replace e62:=z15 e62
   refine RL.sh (by simp) rfl rfl rfl rfl e62 (RL.asg rfl rfl rfl (RL.finG (GL.region (RL.mv rfl rfl rfl (RL.binI (v:=.int .i64 (wadd x29 (8:Int))) rfl rfl rfl rfl rfl (RL.asg rfl rfl rfl (RL.finG ?_)))))))
   cases h53
   exact fun a w st=>ze (Int.fdiv x28 (2 ^ (min (8:Int).toNat (IntKind.bits .u64))),wadd x29 (8:Int)) h54 (st.cu [])
  replace h53:=z14 b58 h53
  refine GL.skip ?_
  cases h53
  exact fun a w st=>ze (x28,x29) h54 (st.cu [])
 rintro⟨x49,x50⟩ h63
 have h64:=h55 _ h63
 try dsimp only at h64
 refine GL.weak (env':=[(0,.int .u64 x49),(2,.int .i64 x50)]) (L':=[]) ss (GL.seq (GL.region (RL.mv rfl rfl rfl (RL.mv rfl rfl rfl (RL.cvI Tryz.underlying47 Tryz.underlying5 rfl rfl rfl ?_)))))
 obtain⟨y67,e68,h64⟩:=z7 h64
 refine RL.idxT Tryz.underlying9 rfl rfl rfl rfl (z8 e68).1 (z8 e68).2.2 (RL.cvI Tryz.underlying5 Tryz.underlying3 rfl rfl rfl (RL.binI (v:=.int .i64 (wadd x50 (IntKind.wrap .i64 (y67.toNat:Int)))) rfl rfl rfl rfl rfl (RL.asg rfl rfl rfl (RL.finG ?_))))
 have h64:=Option.some.inj h64
 subst h64
 exact GL.ret (Gx.ret (v:=.int .i64 (wadd x50 (IntKind.wrap .i64 (y67.toNat:Int)))) (res1 rfl rfl) (fun a w st=>st.toPostC rfl))
theorem zds(S:Hp)(w:World)(hS:S.sub w)(x0:Int)(res:Int)(hm:z4j x0=some res):Calls Tryz.prog 88 #[.int .u64 x0] w (PostC w (.int .i64 res)):=by
 refine zi 8 Tryz.func88 Tryz.ntmps88 rfl S true [(0,.int .u64 x0)] [] rfl ⟨rfl,trivial⟩ hS trivial ?_
 unfold z4j at hm
 refine GL.seq (GL.region (RL.asg rfl rfl rfl (RL.finG (GL.seq (GL.cond rfl (fun b2=>?_) (fun b2=>?_))))))
 ·exact absurd b2 (by decide)
 refine GL.skip (GL.seq (GL.region (RL.mv rfl rfl rfl ?_)))
 obtain⟨y5,e6,hm⟩:=z7 hm
 refine RL.callC (v:=.int .i64 y5) (vs:=[.int .u64 x0]) Tryz_fit107 rfl rfl rfl rfl (fun U w hU hW hL=>zbn U w hU x0 _ e6) (RL.asg rfl rfl rfl (RL.finG ?_))
 have hm:=Option.some.inj hm
 subst hm
 exact GL.ret (Gx.ret (v:=.int .i64 y5) (res1 rfl rfl) (fun a w st=>st.toPostC rfl))
theorem z43(B:World)(S X:Hp)(f:Nat→Hp)(w:World)(v0:Value)(x0:(List TyA))(hO:z2h B.heap.size S f [own 94 TrA v0 x0,keep X].length w)(hB:Below B.heap.size B w)(hI:Its [own 94 TrA v0 x0,keep X] S f)(x1:Int)(x2:Int)(f3:FuncId)(c3:Array Value)(t3:Fit Tryz.prog f3)(g3:TyA→TyA→Option Int)(k3:∀ (U:Hp) (w':World),Hp.le S U→U.sub w'→∀ (u0:Value) (a0:TyA) (_:(TrA).vrep U u0 a0) (u1:Value) (a1:TyA) (_:(TrA).vrep U u1 a1) (rr:Int),g3 a0 a1=some rr→Calls Tryz.prog f3 (#[u0,u1]++c3) w' (z45 w' (.int .i64 rr)))(res:(List TyA))(hm:z18 x0 x1 x2 g3=some res):Calls Tryz.prog 98 #[v0,.int .i64 x1,.int .i64 x2,.func (.func f3) #[] c3] w (zaj B S (fun(o:Unit)=>.tuple #[]) (fun(o:Unit)=>[own 94 TrA v0 res,keep X])):=by
 refine z2e 53 Tryz.func98 Tryz.ntmps98 rfl B S f [(0,v0),(1,.int .i64 x1),(2,.int .i64 x2),(3,.func (.func f3) #[] c3)] [own 94 TrA v0 x0,keep X] [] rfl ⟨rfl,⟨rfl,⟨rfl,⟨rfl,trivial⟩⟩⟩⟩ hB hO hI trivial ?_
 unfold z18 at hm
 refine GL.seq (GL.region (RL.mv rfl rfl rfl (RL.binI (v:=.int .i64 (wadd x1 (1:Int))) rfl rfl rfl rfl rfl (RL.asg rfl rfl rfl (RL.finG ?_)))))
 obtain⟨y400,K401,h402,h403,h404,h405,h406⟩:=z1z hm
 refine GL.join (ι:=(List TyA)×Int) (fun(p:(List TyA)×Int)=>[]) (fun(p:(List TyA)×Int)=>[own 94 TrA v0 p.1,keep X]) (fun(p:(List TyA)×Int)=>K401 (.nx (p.1,p.2))) ?_ ?_
 ·refine GL.block (GL.loop (ι:=Nat×(List TyA)×Int) (fun(p:Nat×(List TyA)×Int)=>[(0,v0),(1,.int .i64 x1),(2,.int .i64 x2),(3,.func (.func f3) #[] c3),(8,.int .i64 p.2.2)]) (fun(p:Nat×(List TyA)×Int)=>[own 94 TrA v0 p.2.1,keep X]) (fun(p:Nat×(List TyA)×Int)=>z40 (zk x2 x1 g3) p.1 (p.2.1,p.2.2)=some y400) (fun(p:Nat×(List TyA)×Int)=>p.1) (1048576,x0,wadd x1 (1:Int)) h402 (fun a w st=>St.cut [0,1] ⟨rfl,rfl,rfl,rfl,rfl,trivial⟩ (by decide) rfl st) ?_)
  rintro⟨r408,l202,x203⟩ h412
  try dsimp only at h412
  refine GL.weak (env':=[(0,v0),(1,.int .i64 x1),(2,.int .i64 x2),(3,.func (.func f3) #[] c3),(8,.int .i64 x203)]) (L':=[own 94 TrA v0 l202,keep X]) ss ?_
  obtain⟨r415,z409,hr,h410,h411⟩:=z58 h412
  subst hr
  unfold zk at h410
  try dsimp only at h410
  refine GL.seq (GL.seq (GL.region (RL.mv rfl rfl rfl (RL.mv rfl rfl rfl (RL.binI (v:=.bool (decide (x203<x2))) rfl rfl rfl rfl rfl (RL.finG (GL.cond rfl (fun b416=>?_) (fun b416=>?_))))))))
  ·replace h410:=z13 b416 h410
   refine GL.skip (GL.seq (GL.block (GL.seq (GL.region (RL.mv rfl rfl rfl (RL.asg rfl rfl rfl (RL.finG ?_)))))))
   obtain⟨y536,K537,h538,h539,h540,h541,h542⟩:=z78 h410
   refine GL.join (ι:=(List TyA)×Int) (fun(p:(List TyA)×Int)=>[(0,v0),(1,.int .i64 x1),(2,.int .i64 x2),(3,.func (.func f3) #[] c3),(8,.int .i64 x203)]) (fun(p:(List TyA)×Int)=>[own 94 TrA v0 p.1,keep X]) (fun(p:(List TyA)×Int)=>K537 (.nx (p.1,p.2))) ?_ ?_
   ·refine GL.block (GL.loop (ι:=Nat×(List TyA)×Int) (fun(p:Nat×(List TyA)×Int)=>[(0,v0),(1,.int .i64 x1),(2,.int .i64 x2),(3,.func (.func f3) #[] c3),(8,.int .i64 x203),(9,.int .i64 p.2.2)]) (fun(p:Nat×(List TyA)×Int)=>[own 94 TrA v0 p.2.1,keep X]) (fun(p:Nat×(List TyA)×Int)=>z40 (zn x1 g3) p.1 (p.2.1,p.2.2)=some y536) (fun(p:Nat×(List TyA)×Int)=>p.1) (1048576,l202,x203) h538 (fun a w st=>St.cut [0,1] ⟨rfl,rfl,rfl,rfl,rfl,rfl,trivial⟩ (by decide) rfl st) ?_)
    rintro⟨r544,l476,x477⟩ h548
    try dsimp only at h548
    refine GL.weak (env':=[(0,v0),(1,.int .i64 x1),(2,.int .i64 x2),(3,.func (.func f3) #[] c3),(8,.int .i64 x203),(9,.int .i64 x477)]) (L':=[own 94 TrA v0 l476,keep X]) ss ?_
    obtain⟨r551,z545,hr,h546,h547⟩:=z58 h548
    subst hr
    unfold zn at h546
    try dsimp only at h546
    refine GL.seq (GL.seq ?_)
    obtain⟨y571,K572,h573,h574,h575,h576,h577⟩:=z78 h546
    refine GL.join (ι:=Bool) (fun(p:Bool)=>[(0,v0),(1,.int .i64 x1),(2,.int .i64 x2),(3,.func (.func f3) #[] c3),(8,.int .i64 x203),(9,.int .i64 x477),(34,.bool p)]) (fun(p:Bool)=>[own 94 TrA v0 l476,keep X]) (fun(p:Bool)=>K572 (.nx p)) ?_ ?_
    ·skip
     refine GL.regionQ rfl rfl (by kernel_rfl) (RL.mv rfl rfl rfl (RL.mv rfl rfl rfl (RL.binI (v:=.bool (decide (x477>x1))) rfl rfl rfl rfl rfl (RL.mv rfl rfl rfl (RL.split (t:=21) rfl (fun b578=>?_) (fun b578=>?_))))))
     ·replace h573:=z13 b578 h573
      refine RL.mv rfl rfl rfl (RL.mv rfl rfl rfl (RL.mv rfl rfl rfl ?_))
      obtain⟨y579,e580,h573⟩:=z7 h573
      refine RL.idxS (sz:=3) 0 Tryz.underlying84 z1m rfl rfl rfl rfl rfl SlOf.own (z8 e580).1 (z8 e580).2.1 (RL.ldS (i:=(x477).toNat) (r:=TrA) (e':=y579) 0 z1m rfl rfl rfl rfl SlOf.own (z8 e580).2.2 Part.self ?_)
      intro v581
      refine RL.mv rfl rfl rfl (RL.mv rfl rfl rfl (RL.binI (v:=.int .i64 (wsub x477 (1:Int))) rfl rfl rfl rfl rfl ?_))
      obtain⟨y582,e583,h573⟩:=z7 h573
      refine RL.idxS (sz:=3) 0 Tryz.underlying84 z1m rfl rfl rfl rfl rfl SlOf.own (z8 e583).1 (z8 e583).2.1 (RL.ldS (i:=(wsub x477 (1:Int)).toNat) (r:=TrA) (e':=y582) 0 z1m rfl rfl rfl rfl SlOf.own (z8 e583).2.2 Part.self ?_)
      intro v584
      refine RL.reL (L':=[own 94 TrA v0 l476,keep X,imm TrA v581 y579,imm TrA v584 y582]) rfl ?_
      obtain⟨y585,e586,h573⟩:=z7 h573
      refine RL.callV (v:=.int .i64 y585) (vs:=[v581,v584]) t3 rfl (Or.inr ⟨_,rfl⟩) rfl rfl rfl rfl (fun U w hU hW hL=>k3 U w hW hU _ _ (hL 2 _ _ rfl Seen.imm) _ _ (hL 3 _ _ rfl Seen.imm) _ e586) (RL.binI (v:=.bool (decide (y585<(0:Int)))) rfl rfl rfl rfl rfl (RL.pickT rfl rfl rfl rfl (RL.finQ ?_)))
      cases h573
      exact fun a w st=>ze (decide (y585<(0:Int))) h574 (st.cu [0,1])
     replace h573:=z14 b578 h573
     refine RL.skip rfl rfl (RL.skip rfl rfl (RL.skip rfl rfl (RL.skip rfl rfl (RL.skip rfl rfl (RL.skip rfl rfl (RL.skip rfl rfl (RL.skip rfl rfl ?_)))))))
     refine RL.skip rfl rfl (RL.skip rfl rfl (RL.skip rfl rfl (RL.skip rfl rfl (RL.pickF rfl rfl rfl rfl (RL.finQ ?_)))))
     cases h573
     exact fun a w st=>ze false h574 (st.cu [0,1])
    rintro x570 h587
    have h588:=h575 _ h587
    try dsimp only at h588
    refine GL.weak (env':=[(0,v0),(1,.int .i64 x1),(2,.int .i64 x2),(3,.func (.func f3) #[] c3),(8,.int .i64 x203),(9,.int .i64 x477),(34,.bool x570)]) (L':=[own 94 TrA v0 l476,keep X]) ss (GL.cond rfl (fun b589=>?_) (fun b589=>?_))
    ·replace h588:=z13 b589 h588
     refine GL.skip (GL.seq (GL.block (GL.regionA rfl rfl (RA.mv 0 rfl (by kernel_rfl) rfl rfl rfl (RA.mv 1 rfl (by kernel_rfl) rfl rfl rfl (RA.mv 2 rfl (by kernel_rfl) rfl rfl rfl (RA.mv 3 rfl (by kernel_rfl) rfl rfl rfl ?_)))))))
     refine RA.binI (v:=.int .i64 (wsub x477 (1:Int))) 4 rfl (by kernel_rfl) rfl rfl rfl rfl rfl (RA.mv 5 rfl (by kernel_rfl) rfl rfl rfl (RA.mv 6 rfl (by kernel_rfl) rfl rfl rfl (RA.binI (v:=.int .i64 (wsub x477 (1:Int))) 7 rfl (by kernel_rfl) rfl rfl rfl rfl rfl ?_)))
     obtain⟨y600,e601,h588⟩:=z7 h588
     refine RA.idxS (sz:=3) 0 Tryz.underlying84 z1m 8 rfl (by kernel_rfl) rfl rfl rfl rfl rfl SlOf.own (z8 e601).1 (z8 e601).2.1 (RA.mv 10 rfl (by kernel_rfl) rfl rfl rfl (RA.mv 11 rfl (by kernel_rfl) rfl rfl rfl ?_))
     obtain⟨y602,e603,h588⟩:=z7 h588
     refine RA.idxS (sz:=3) 0 Tryz.underlying84 z1m 12 rfl (by kernel_rfl) rfl rfl rfl rfl rfl SlOf.own (z8 e603).1 (z8 e603).2.1 (RA.still (le:=q_0) (f:=3) [9,13,14] 15 rfl (by kernel_rfl) ?_)
     simp only[z6h,List.getElem?_toArray,List.getElem?_cons_succ,List.getElem?_cons_zero]
     refine RL.ldS (i:=(wsub x477 (1:Int)).toNat) (r:=TrA) (e':=y600) 0 z1m rfl rfl rfl rfl SlOf.own (z8 e601).2.2 Part.self ?_
     intro v604
     refine RL.ldS (i:=(x477).toNat) (r:=TrA) (e':=y602) 0 z1m rfl rfl rfl rfl SlOf.own (z8 e603).2.2 Part.self ?_
     intro v605
     obtain⟨y606,e607,h588⟩:=z7 h588
     refine RL.idxS (sz:=3) 0 Tryz.underlying84 z1m rfl rfl rfl rfl rfl SlOf.own (z8 e607).1 (z8 e607).2.1 (RL.finH (RL.fin (RA.next (RA.seq 15 rfl (by kernel_rfl) (RL.stS (i:=(x477).toNat) (e':=y600) (e1:=y600) (r:=TrA) 0 z1m rfl rfl rfl rfl (VR.item 2 rfl) rfl (z8 e607).2.2 Upd.self (RL.fin (RA.next ?_)))))))
     obtain⟨y608,e609,h588⟩:=z7 h588
     refine RA.idxS (sz:=3) 0 Tryz.underlying84 z1m 16 rfl (by kernel_rfl) rfl rfl rfl rfl rfl SlOf.own (z8 e609).1 (z8 e609).2.1 (RA.seq 17 rfl (by kernel_rfl) (RL.stS (i:=(wsub x477 (1:Int)).toNat) (e':=y602) (e1:=y602) (r:=TrA) 0 z1m rfl rfl rfl rfl (VR.item 3 rfl) rfl (z8 e609).2.2 Upd.self (RL.fin (RA.next (RA.doneG (by kernel_rfl) (GL.weak (env':=[(0,v0),(1,.int .i64 x1),(2,.int .i64 x2),(3,.func (.func f3) #[] c3),(8,.int .i64 x203),(9,.int .i64 x477)]) (L':=[own 94 TrA v0 (List.set (List.set l476 ((x477).toNat) y600) ((wsub x477 (1:Int)).toNat) y602),keep X]) (fun a w st=>St.cut [0,1] ⟨rfl,rfl,rfl,rfl,rfl,rfl,trivial⟩ (by decide) rfl st) (GL.nilB ?_)))))))
     refine GL.region (RL.mv rfl rfl rfl (RL.binI (v:=.int .i64 (wsub x477 (1:Int))) rfl rfl rfl rfl rfl (RL.asg rfl rfl rfl (RL.finG ?_))))
     cases h588
     exact fun a w st=>z1l (r551,(List.set (List.set l476 ((x477).toNat) y600) ((wsub x477 (1:Int)).toNat) y602),wsub x477 (1:Int)) (by exact h547) (by simp) (st.cu [0,1])
    replace h588:=z14 b589 h588
    cases h588
    replace h547:some (Fl.nx _)=some y536:=h547
    cases h547
    exact GL.exit (fun a w st=>ze (l476,x477) h539 (st.cu [0,1]))
   rintro⟨l476,x477⟩ h610
   have h611:=h540 _ h610
   try dsimp only at h611
   refine GL.weak (env':=[(0,v0),(1,.int .i64 x1),(2,.int .i64 x2),(3,.func (.func f3) #[] c3),(8,.int .i64 x203)]) (L':=[own 94 TrA v0 l476,keep X]) ss (GL.nilB (GL.region (RL.mv rfl rfl rfl (RL.binI (v:=.int .i64 (wadd x203 (1:Int))) rfl rfl rfl rfl rfl (RL.asg rfl rfl rfl (RL.finG ?_))))))
   cases h611
   exact fun a w st=>z1l (r415,l476,wadd x203 (1:Int)) (by exact h411) (by simp) (st.cu [0,1])
  replace h410:=z14 b416 h410
  cases h410
  replace h411:some (Fl.nx _)=some y400:=h411
  cases h411
  exact GL.exit (fun a w st=>ze (l202,x203) h403 (st.cu [0,1]))
 rintro⟨l202,x203⟩ h612
 have h613:=h404 _ h612
 try dsimp only at h613
 refine GL.weak (env':=[]) (L':=[own 94 TrA v0 l202,keep X]) ss ?_
 have h613:=Option.some.inj h613
 subst h613
 exact GL.nil (Gx.retN (v:=.tuple #[]) (res0 rfl) (fun a w st=>(st.pick [0,1] (by decide) rfl).toPostM (V:=fun(o:Unit)=>.tuple #[]) (LR:=fun(o:Unit)=>[own 94 TrA v0 l202,keep X]) ()))
theorem z56(B:World)(S X:Hp)(f:Nat→Hp)(w:World)(v0:Value)(x0:(List TyA))(hO:z2h B.heap.size S f [own 94 TrA v0 x0,keep X].length w)(hB:Below B.heap.size B w)(hI:Its [own 94 TrA v0 x0,keep X] S f)(x1:Int)(x2:Int)(x3:Int)(f4:FuncId)(c4:Array Value)(t4:Fit Tryz.prog f4)(g4:TyA→TyA→Option Int)(k4:∀ (U:Hp) (w':World),Hp.le S U→U.sub w'→∀ (u0:Value) (a0:TyA) (_:(TrA).vrep U u0 a0) (u1:Value) (a1:TyA) (_:(TrA).vrep U u1 a1) (rr:Int),g4 a0 a1=some rr→Calls Tryz.prog f4 (#[u0,u1]++c4) w' (z45 w' (.int .i64 rr)))(res:(List TyA))(hm:z1r x0 x1 x2 x3 g4=some res):Calls Tryz.prog 87 #[v0,.int .i64 x1,.int .i64 x2,.int .i64 x3,.func (.func f4) #[] c4] w (zaj B S (fun(o:Unit)=>.tuple #[]) (fun(o:Unit)=>[own 94 TrA v0 res,keep X])):=by
 refine z2e 148 Tryz.func87 Tryz.ntmps87 rfl B S f [(0,v0),(1,.int .i64 x1),(2,.int .i64 x2),(3,.int .i64 x3),(4,.func (.func f4) #[] c4)] [own 94 TrA v0 x0,keep X] [] rfl ⟨rfl,⟨rfl,⟨rfl,⟨rfl,⟨rfl,trivial⟩⟩⟩⟩⟩ hB hO hI trivial ?_
 unfold z1r at hm
 refine GL.seq (GL.region (RL.asg rfl rfl rfl (RL.finG (GL.seq (GL.region (RL.asg rfl rfl rfl (RL.finG ?_)))))))
 obtain⟨y83,K84,h85,h86,h87,h88,h89⟩:=z1z hm
 refine GL.join (ι:=(List TyA)×Int×Int×Int×Bool×Bool) (fun(p:(List TyA)×Int×Int×Int×Bool×Bool)=>[]) (fun(p:(List TyA)×Int×Int×Int×Bool×Bool)=>[own 94 TrA v0 p.1,keep X]) (fun(p:(List TyA)×Int×Int×Int×Bool×Bool)=>K84 (.nx (p.1,p.2.1,p.2.2.1,p.2.2.2.1,p.2.2.2.2.1,p.2.2.2.2.2))) ?_ ?_
 ·refine GL.block (GL.loop (ι:=Nat×(List TyA)×Int×Int×Int×Bool×Bool) (fun(p:Nat×(List TyA)×Int×Int×Int×Bool×Bool)=>[(0,v0),(1,.int .i64 p.2.2.1),(2,.int .i64 p.2.2.2.1),(3,.int .i64 p.2.2.2.2.1),(4,.func (.func f4) #[] c4),(10,.bool p.2.2.2.2.2.1),(11,.bool p.2.2.2.2.2.2)]) (fun(p:Nat×(List TyA)×Int×Int×Int×Bool×Bool)=>[own 94 TrA v0 p.2.1,keep X]) (fun(p:Nat×(List TyA)×Int×Int×Int×Bool×Bool)=>z40 (z1q g4) p.1 (p.2.1,p.2.2.1,p.2.2.2.1,p.2.2.2.2.1,p.2.2.2.2.2.1,p.2.2.2.2.2.2)=some y83) (fun(p:Nat×(List TyA)×Int×Int×Int×Bool×Bool)=>p.1) (1048576,x0,x1,x2,x3,true,true) h85 (fun a w st=>St.cut [0,1] ⟨rfl,rfl,rfl,rfl,rfl,rfl,rfl,trivial⟩ (by decide) rfl st) ?_)
  rintro⟨r91,l44,x45,x46,x47,x48,x49⟩ h95
  try dsimp only at h95
  refine GL.weak (env':=[(0,v0),(1,.int .i64 x45),(2,.int .i64 x46),(3,.int .i64 x47),(4,.func (.func f4) #[] c4),(10,.bool x48),(11,.bool x49)]) (L':=[own 94 TrA v0 l44,keep X]) ss ?_
  obtain⟨r98,z92,hr,h93,h94⟩:=z58 h95
  subst hr
  unfold z1q at h93
  try dsimp only at h93
  refine GL.block (GL.seq (GL.region (RL.mv rfl rfl rfl (RL.mv rfl rfl rfl (RL.binI (v:=.int .i64 (wsub x46 x45)) rfl rfl rfl rfl rfl (RL.asg rfl rfl rfl (RL.finG ?_)))))))
  refine GL.seq (GL.seq (GL.region (RL.mv rfl rfl rfl (RL.binI (v:=.bool (decide ((wsub x46 x45)≤(12:Int)))) rfl rfl rfl rfl rfl (RL.finG (GL.cond rfl (fun b99=>?_) (fun b99=>?_)))))))
  ·replace h93:=z13 b99 h93
   refine GL.seq (GL.region (RL.mv rfl rfl rfl (RL.mv rfl rfl rfl (RL.mv rfl rfl rfl (RL.mv rfl rfl rfl ?_)))))
   obtain⟨y106,e107,h93⟩:=z7 h93
   refine RL.callK (vs:=[v0,.int .i64 x45,.int .i64 x46,.func (.func f4) #[] c4]) (V:=fun(o:Unit)=>.tuple #[]) (LR:=fun(o:Unit)=>[own 94 TrA v0 y106]) (Ls:=[own 94 TrA v0 l44]) [0] (by decide) Tryz_fit98 rfl rfl rfl rfl rfl rfl (fun S f X w hO hB hW hI hL=>z43 _ S X f w _ _  hO hB hI x45 x46 f4 c4 t4 g4 (fun U' w' hle=>k4 U' w' (Hp.le_trans hW hle)) _ e107) ?_
   intro _
   refine RL.reL (L':=[gone,keep X,own 94 TrA v0 y106]) rfl (RL.finG ?_)
   cases h93
   replace h94:some (Fl.rt _)=some y83:=h94
   cases h94
   have hh:=h88 _ h86
   subst hh
   exact GL.ret (Gx.ret (v:=.tuple #[]) (res0 rfl) (fun a w st=>(st.pick [2,1] (by decide) rfl).toPostM (V:=fun(o:Unit)=>.tuple #[]) (LR:=fun(o:Unit)=>[own 94 TrA v0 y106,keep X]) ()))
  replace h93:=z14 b99 h93
  refine GL.skip (GL.seq (GL.seq (GL.region (RL.mv rfl rfl rfl (RL.binI (v:=.bool (x47==(0:Int))) rfl rfl rfl rfl rfl (RL.finG (GL.cond rfl (fun b120=>?_) (fun b120=>?_))))))))
  ·replace h93:=z13 b120 h93
   cases h93
  replace h93:=z14 b120 h93
  cases h93
 rintro⟨l44,x45,x46,x47,x48,x49⟩ h132
 have h133:=h87 _ h132
 try dsimp only at h133
 cases h133
theorem z44(B:World)(S X:Hp)(f:Nat→Hp)(w:World)(v0:Value)(x0:(List TyA))(hO:z2h B.heap.size S f [own 94 TrA v0 x0,keep X].length w)(hB:Below B.heap.size B w)(hI:Its [own 94 TrA v0 x0,keep X] S f)(f1:FuncId)(c1:Array Value)(t1:Fit Tryz.prog f1)(g1:TyA→TyA→Option Int)(k1:∀ (U:Hp) (w':World),Hp.le S U→U.sub w'→∀ (u0:Value) (a0:TyA) (_:(TrA).vrep U u0 a0) (u1:Value) (a1:TyA) (_:(TrA).vrep U u1 a1) (rr:Int),g1 a0 a1=some rr→Calls Tryz.prog f1 (#[u0,u1]++c1) w' (z45 w' (.int .i64 rr)))(res:(List TyA))(hm:z19 x0 g1=some res):Calls Tryz.prog 71 #[v0,.func (.func f1) #[] c1] w (zaj B S (fun(o:Unit)=>.tuple #[]) (fun(o:Unit)=>[own 94 TrA v0 res,keep X])):=by
 refine z2e 14 Tryz.func71 Tryz.ntmps71 rfl B S f [(0,v0),(1,.func (.func f1) #[] c1)] [own 94 TrA v0 x0,keep X] [] rfl ⟨rfl,⟨rfl,trivial⟩⟩ hB hO hI trivial ?_
 unfold z19 at hm
 refine GL.seq (GL.region (RL.mv rfl rfl rfl (RL.lenS 0 Tryz.underlying84 rfl rfl rfl rfl SlOf.own (RL.asg rfl rfl rfl (RL.finG (GL.region (RL.mv rfl rfl rfl ?_)))))))
 refine RL.mv rfl rfl rfl (RL.mv rfl rfl rfl (RL.cvI Tryz.underlying3 Tryz.underlying64 rfl rfl rfl ?_))
 obtain⟨y7,e8,hm⟩:=z7 hm
 refine RL.callC (v:=.int .i64 y7) (vs:=[.int .u64 (IntKind.wrap .u64 ((x0).length:Int))]) Tryz_fit88 rfl rfl rfl rfl (fun U w hU hW hL=>zds U w hU (IntKind.wrap .u64 ((x0).length:Int)) _ e8) (RL.mv rfl rfl rfl ?_)
 obtain⟨y9,e10,hm⟩:=z7 hm
 refine RL.callK (vs:=[v0,.int .i64 (0:Int),.int .i64 ((x0).length:Int),.int .i64 y7,.func (.func f1) #[] c1]) (V:=fun(o:Unit)=>.tuple #[]) (LR:=fun(o:Unit)=>[own 94 TrA v0 y9]) (Ls:=[own 94 TrA v0 x0]) [0] (by decide) Tryz_fit87 rfl rfl rfl rfl rfl rfl (fun S f X w hO hB hW hI hL=>z56 _ S X f w _ _  hO hB hI (0:Int) ((x0).length:Int) y7 f1 c1 t1 g1 (fun U' w' hle=>k1 U' w' (Hp.le_trans hW hle)) _ e10) ?_
 intro _
 refine RL.reL (L':=[gone,keep X,own 94 TrA v0 y9]) rfl (RL.finG ?_)
 have hm:=Option.some.inj hm
 subst hm
 exact GL.nil (Gx.retN (v:=.tuple #[]) (res0 rfl) (fun a w st=>(st.pick [2,1] (by decide) rfl).toPostM (V:=fun(o:Unit)=>.tuple #[]) (LR:=fun(o:Unit)=>[own 94 TrA v0 y9,keep X]) ()))
theorem zdw(S:Hp)(w:World)(hS:S.sub w)(v0:Value)(x0:TyA)(k0:(TrA).vrep S v0 x0)(v1:Value)(x1:TyA)(k1:(TrA).vrep S v1 x1)(res:Int)(hm:z3m x0 x1=some res):Calls Tryz.prog 72 #[v0,v1] w (z45 w (.int .i64 res)):=by
 refine zi 10 Tryz.func72 Tryz.ntmps72 rfl S false [(0,v0),(1,v1)] [imm TrA v0 x0,imm TrA v1 x1] rfl ⟨rfl,⟨rfl,trivial⟩⟩ hS ⟨k0,⟨k1,trivial⟩⟩ ?_
 unfold z3m at hm
 refine GL.seq (GL.region (RL.box (t:=TrA) (e:=x0) rfl rfl rfl rfl (VR.item 0 rfl) ?_))
 intro v5
 refine RL.box (t:=TrA) (e:=x1) rfl rfl rfl rfl (VR.item 1 rfl) ?_
 intro v6
 refine RL.reL (L':=[imm TrA v0 x0,imm TrA v1 x1,obox 94 TrA v5 x0,obox 94 TrA v6 x1]) rfl (RL.asg rfl rfl rfl (RL.finG (GL.seq (GL.seq (GL.region (RL.fadr (off:=0) (fo:=0) 2 z3r rfl rfl rfl PtOf.obox oi (RL.ldPx (off:=(0+0)) (e':=x0.1) 2 Ex.str zh rfl rfl ol rfl PtOf.obox (Part.fst Part.self) ?_)))))))
 refine RL.fadr (off:=0) (fo:=0) 3 z3r rfl rfl rfl PtOf.obox oi (RL.ldPx (off:=(0+0)) (e':=x1.1) 3 Ex.str zh rfl rfl ol rfl PtOf.obox (Part.fst Part.self) (RL.binS (v:=.bool (bls x0.1 x1.1)) rfl rfl rfl rfl rfl (RL.finG (GL.cond rfl (fun b7=>?_) (fun b7=>?_)))))
 ·replace hm:=z13 b7 hm
  refine GL.seq (GL.region (RL.asg rfl rfl rfl (RL.finG ?_)))
  have hm:=Option.some.inj hm
  subst hm
  exact GL.ret (Gx.ret (v:=.int .i64 (-1:Int)) (res1 rfl rfl) (fun a w st=>st.toPostV))
 replace hm:=z14 b7 hm
 refine GL.skip (GL.seq (GL.region (RL.asg rfl rfl rfl (RL.finG ?_))))
 have hm:=Option.some.inj hm
 subst hm
 exact GL.ret (Gx.ret (v:=.int .i64 (1:Int)) (res1 rfl rfl) (fun a w st=>st.toPostV))
theorem zb3(S:Hp)(w:World)(hS:S.sub w)(v0:Value)(x0:(List TyA))(k0:((TR.sl TrA)).vrep S v0 x0)(x1:B8)(x2:Int)(res:(List TyA)×Int)(hm:z2r x0 x1 x2=some res):Calls Tryz.prog 48 #[v0,(sv x1),.int .i64 x2] w (Post w S (fun(o:Value)=>.tuple #[o,.int .i64 res.2]) (fun(o:Value)=>[own 94 TrA o res.1])):=by
 refine zi 45 Tryz.func48 Tryz.ntmps48 rfl S false [(0,v0),(1,(sv x1)),(2,.int .i64 x2)] [imm (TR.sl TrA) v0 x0] rfl ⟨rfl,⟨rfl,⟨rfl,trivial⟩⟩⟩ hS ⟨k0,trivial⟩ ?_
 unfold z2r at hm
 refine GL.seq (GL.region (RL.asg rfl rfl rfl (RL.asg rfl rfl rfl (RL.finG (GL.seq (GL.seq (GL.region ?_)))))))
 refine RL.mv rfl rfl rfl ?_
 obtain⟨y6,e7,hm⟩:=z7 hm
 refine RL.callV (v:=.int .i64 y6) (vs:=[v0]) z8g rfl ol rfl rfl rfl rfl (fun U w hU hW hL=>z4x U w hU _ _ (hL 0 _ _ rfl Seen.imm) _ e7) (RL.asg rfl rfl rfl (RL.finG (GL.seq (GL.region (RL.mv rfl rfl rfl (RL.binI (v:=.bool (y6 != (0:Int))) rfl rfl rfl rfl rfl (RL.finG ?_)))))))
 refine GL.cond rfl (fun b8=>?_) (fun b8=>?_)
 ·replace hm:=z13 b8 hm
  refine GL.seq (GL.region (RL.mv rfl rfl rfl (RL.asg rfl rfl rfl (RL.asg rfl rfl rfl (RL.finG (GL.weak (fun a w st=>st.nilOwn 94 TrA) ?_))))))
  have hm:=Option.some.inj hm
  subst hm
  exact GL.ret (Gx.ret (v:=.tuple #[Value.slice none 0 0,.int .i64 y6]) (res2 rfl rfl rfl) (fun a w st=>(st.pick [1] (by decide) rfl).toPost (Value.slice none 0 0)))
 replace hm:=z14 b8 hm
 refine GL.skip (GL.seq (GL.block (GL.seq (GL.region (RL.mv rfl rfl rfl ?_)))))
 obtain⟨y11,e12,hm⟩:=z7 hm
 refine RL.callV (v:=.bool y11) (vs:=[(sv x1)]) z9y rfl ol rfl rfl rfl rfl (fun U w hU hW hL=>z65 U w hU x1 _ e12) (RL.notB rfl rfl rfl (RL.asg rfl rfl rfl (RL.finG (GL.cond rfl (fun b13=>?_) (fun b13=>?_)))))
 ·replace hm:=z13 b13 hm
  refine GL.seq (GL.region (RL.asg rfl rfl rfl (RL.asg rfl rfl rfl (RL.finG (GL.weak (fun a w st=>st.nilOwn 94 TrA) ?_)))))
  have hm:=Option.some.inj hm
  subst hm
  exact GL.ret (Gx.ret (v:=.tuple #[Value.slice none 0 0,.int .i64 (3:Int)]) (res2 rfl rfl rfl) (fun a w st=>(st.pick [1] (by decide) rfl).toPost (Value.slice none 0 0)))
 replace hm:=z14 b13 hm
 refine GL.seq ?_
 obtain⟨y17,K18,h19,h20,h21,h22,h23⟩:=z1z hm
 refine GL.join (ι:=Bool) (fun(p:Bool)=>[(0,v0),(1,(sv x1)),(2,.int .i64 x2),(19,.bool p)]) (fun(p:Bool)=>[imm (TR.sl TrA) v0 x0]) (fun(p:Bool)=>K18 (.nx p)) ?_ ?_
 ·skip
  refine GL.region (RL.mv rfl rfl rfl (RL.binI (v:=.bool (decide (x2<(0:Int)))) rfl rfl rfl rfl rfl (RL.mv rfl rfl rfl (RL.split (t:=22) rfl (fun b24=>?_) (fun b24=>?_)))))
  ·replace h19:=z13 b24 h19
   refine RL.skip rfl rfl (RL.skip rfl rfl (RL.pickT rfl rfl rfl rfl (RL.asg rfl rfl rfl (RL.fin ?_))))
   cases h19
   exact fun a w st=>ze true h20 (st.cu [0])
  replace h19:=z14 b24 h19
  refine RL.mv rfl rfl rfl (RL.binI (v:=.bool (decide (x2>(1000000:Int)))) rfl rfl rfl rfl rfl (RL.pickF rfl rfl rfl rfl (RL.asg rfl rfl rfl (RL.fin ?_))))
  cases h19
  exact fun a w st=>ze (decide (x2>(1000000:Int))) h20 (st.cu [0])
 rintro x16 h25
 have h26:=h21 _ h25
 try dsimp only at h26
 refine GL.weak (env':=[(0,v0),(1,(sv x1)),(2,.int .i64 x2),(19,.bool x16)]) (L':=[imm (TR.sl TrA) v0 x0]) ss (GL.cond rfl (fun b27=>?_) (fun b27=>?_))
 ·replace h26:=z13 b27 h26
  refine GL.seq (GL.region (RL.asg rfl rfl rfl (RL.asg rfl rfl rfl (RL.finG (GL.weak (fun a w st=>st.nilOwn 94 TrA) ?_)))))
  have h26:=Option.some.inj h26
  subst h26
  exact GL.ret (Gx.ret (v:=.tuple #[Value.slice none 0 0,.int .i64 (1:Int)]) (res2 rfl rfl rfl) (fun a w st=>(st.pick [1] (by decide) rfl).toPost (Value.slice none 0 0)))
 replace h26:=z14 b27 h26
 refine GL.seq (GL.region (RL.mv rfl rfl rfl (RL.mv rfl rfl rfl ?_)))
 obtain⟨y30,e31,h26⟩:=z7 h26
 refine RL.callV (v:=.int .i64 y30) (vs:=[v0,(sv x1)]) z9x rfl ol rfl rfl rfl rfl (fun U w hU hW hL=>z6t U w hU _ _ (hL 0 _ _ rfl Seen.imm) x1 _ e31) (RL.binI (v:=.bool (decide (y30≥(0:Int)))) rfl rfl rfl rfl rfl (RL.asg rfl rfl rfl (RL.finG (GL.cond rfl (fun b32=>?_) (fun b32=>?_)))))
 ·replace h26:=z13 b32 h26
  refine GL.seq (GL.region (RL.asg rfl rfl rfl (RL.asg rfl rfl rfl (RL.finG (GL.weak (fun a w st=>st.nilOwn 94 TrA) ?_)))))
  have h26:=Option.some.inj h26
  subst h26
  exact GL.ret (Gx.ret (v:=.tuple #[Value.slice none 0 0,.int .i64 (7:Int)]) (res2 rfl rfl rfl) (fun a w st=>(st.pick [1] (by decide) rfl).toPost (Value.slice none 0 0)))
 replace h26:=z14 b32 h26
 refine GL.seq (GL.region (RL.mv rfl rfl rfl (RL.lenS 0 Tryz.underlying84 rfl rfl rfl rfl SlOf.imm (RL.binI (v:=.bool (((x0).length:Int)==(6:Int))) rfl rfl rfl rfl rfl (RL.asg rfl rfl rfl (RL.finG (GL.cond rfl (fun b33=>?_) (fun b33=>?_))))))))
 ·replace h26:=z13 b33 h26
  refine GL.seq (GL.region (RL.asg rfl rfl rfl (RL.asg rfl rfl rfl (RL.finG (GL.weak (fun a w st=>st.nilOwn 94 TrA) ?_)))))
  have h26:=Option.some.inj h26
  subst h26
  exact GL.ret (Gx.ret (v:=.tuple #[Value.slice none 0 0,.int .i64 (8:Int)]) (res2 rfl rfl rfl) (fun a w st=>(st.pick [1] (by decide) rfl).toPost (Value.slice none 0 0)))
 replace h26:=z14 b33 h26
 refine GL.skip (GL.nilB (GL.seq (GL.region (RL.mv rfl rfl rfl ?_))))
 obtain⟨y42,e43,h26⟩:=z7 h26
 refine RL.call (vs:=[v0]) zey rfl rfl rfl rfl rfl (fun S f w hS hW hi=>z2k S w hS _ _ (hi 0 _ rfl) _ e43) ?_
 intro v44
 refine RL.mv rfl rfl rfl (RL.mv rfl rfl rfl ?_)
 refine RL.bld (t:=TrA) (d0:=((x1,x2,(0:Int)):TyA)) (pv:=[(0,(sv x1)),(1,.int .i64 x2)]) rfl Tryz_bld94 rfl rfl rfl ⟨⟨_,_,TR.str,x1,rfl,rfl,VR.str⟩,⟨⟨_,_,TR.int,x2,rfl,rfl,VR.int⟩,trivial⟩⟩ (fun S f hi=>by
   obtain⟨c0,e0,r0⟩:=z28 (t:=TR.str) (u:=(sv x1)) (e:=x1) (VR.str S f hi)
   obtain⟨c1,e1,r1⟩:=z28 (t:=TR.int) (u:=.int .i64 x2) (e:=x2) (VR.int S f hi)
   show TR.rep TrA S (List.flatten [((sv x1):Value).cells.toList,(.int .i64 x2:Value).cells.toList,[.int .i64 0]]) _
   simp only[e0,e1,List.flatten_cons,List.flatten_nil,List.append_nil]
   exact⟨_,_,rfl,r0,⟨_,_,rfl,r1,rfl⟩⟩) ?_
 intro v45
 refine RL.reL (L':=[imm (TR.sl TrA) v0 x0,own 94 TrA v44 y42,imm TrA v45 ((x1,x2,(0:Int)):TyA)]) rfl (RL.bS (t:=TrA) (vs:=[v45]) ([((x1,x2,(0:Int)):TyA)]:(List TyA)) Tryz.underlying84 z7d rfl rfl rfl rfl ⟨(VR.item 2 rfl),trivial⟩ rfl (by decide) ?_)
 intro v46
 obtain⟨y47,e48,h26⟩:=z7 h26
 replace e48:=z15 e48
 refine RL.app 1 3 Tryz.underlying84 z7d rfl rfl rfl rfl rfl rfl rfl SlOf.own e48 ?_
 intro v49
 refine RL.reL (L':=[imm (TR.sl TrA) v0 x0,own 94 TrA v49 (y42++([((x1,x2,(0:Int)):TyA)]:(List TyA))),imm TrA v45 ((x1,x2,(0:Int)):TyA),own 94 TrA v46 ([((x1,x2,(0:Int)):TyA)]:(List TyA))]) rfl (RL.asg rfl rfl rfl (RL.finG (GL.seq (GL.region (RL.mv rfl rfl rfl ?_)))))
 obtain⟨y52,e53,h26⟩:=z7 h26
 refine RL.callK (vs:=[v49,.func (.func 72) #[] #[]]) (V:=fun(o:Unit)=>.tuple #[]) (LR:=fun(o:Unit)=>[own 94 TrA v49 y52]) (Ls:=[own 94 TrA v49 (y42++([((x1,x2,(0:Int)):TyA)]:(List TyA)))]) [1] (by decide) Tryz_fit71 rfl rfl rfl rfl rfl rfl (fun S f X w hO hB hW hI hL=>z44 _ S X f w _ _  hO hB hI 72 #[] Tryz_fit72 (fun a0 a1=>z3m a0 a1) (fun U' w' hle hU' u0 a0 q0 u1 a1 q1 rr hr=>(zdw U' w' hU' u0 a0 q0 u1 a1 q1 rr hr).mono (fun _ _ z=>z)) _ e53) ?_
 intro _
 refine RL.reL (L':=[imm (TR.sl TrA) v0 x0,gone,imm TrA v45 ((x1,x2,(0:Int)):TyA),own 94 TrA v46 ([((x1,x2,(0:Int)):TyA)]:(List TyA)),own 94 TrA v49 y52]) rfl (RL.finG (GL.seq (GL.region (RL.mv rfl rfl rfl (RL.asg rfl rfl rfl (RL.asg rfl rfl rfl (RL.finG ?_)))))))
 have h26:=Option.some.inj h26
 subst h26
 exact GL.ret (Gx.ret (v:=.tuple #[v49,.int .i64 (0:Int)]) (res2 rfl rfl rfl) (fun a w st=>(st.pick [4] (by decide) rfl).toPost v49))
theorem z11(S:Hp)(w:World)(hS:S.sub w)(hT:Tab Tryz.prog (Tryz.lays146_ren.g 1) S)(x0:Int)(res:B8)(hm:z3y x0=some res):Calls Tryz.prog 50 #[.int .i64 x0] w (z45 w ((sv res))):=by
  unfold z3y at hm
  obtain⟨_,hc,hm⟩:=z7 hm
  replace hc:=z15 hc
  cases hm
  refine(Any.strconv_Itoa Tryz.lays171 x0 hc.1 hc.2 w (hT.pow w hS)).mono ?_
  rintro e w' ⟨rfl,k,os,rfl⟩
  exact⟨rfl,belowGrow0 _ _ _⟩
theorem log_Sum_c(S:Hp)(w:World)(hS:S.sub w)(x0:B8)(res:Int)(hm:z69 x0=some res):Calls Tryz.prog 82 #[(sv x0)] w (z45 w (.int .u16 res)):=by
 refine zi 31 Tryz.func82 Tryz.ntmps82 rfl S false [(0,(sv x0))] [] rfl ⟨rfl,trivial⟩ hS trivial ?_
 unfold z69 at hm
 refine GL.seq (GL.region (RL.asg rfl rfl rfl (RL.finG (GL.seq (GL.region (RL.asg rfl rfl rfl (RL.finG ?_)))))))
 refine GL.seq (GL.seq (GL.region (RL.mv rfl rfl rfl ?_)))
 obtain⟨y5,e6,hm⟩:=z7 hm
 replace e6:=z15 e6
 refine RL.cvSB Tryz.underlying9 Tryz.underlying146 Tryz.underlying5 rfl rfl rfl rfl e6 ?_
 intro v7
 refine RL.lenS 0 Tryz.underlying146 rfl rfl rfl rfl SlOf.imm (RL.mv rfl rfl rfl (RL.finG (GL.open_ 0 rfl (fun S h=>z77 S h) (fun n65=>?_))))
 obtain⟨y66,K67,h68,h69,h70,h71,h72⟩:=z1z hm
 refine GL.join (ι:=Int) (fun(p:Int)=>[(3,.int .u16 p)]) (fun(p:Int)=>[]) (fun(p:Int)=>K67 (.nx p)) ?_ ?_
 ·refine GL.block (GL.loop (ι:=Nat×(List Int)×Int) (fun(p:Nat×(List Int)×Int)=>[(3,.int .u16 p.2.2),(7,v7),(8,.int .i64 (((z1o x0)).length:Int)),(9,.int .i64 (p.1:Int))]) (fun(p:Nat×(List Int)×Int)=>[imm (TR.sl (TR.ik .u8)) v7 (z1o x0)]) (fun(p:Nat×(List Int)×Int)=>p.1+p.2.1.length=((z1o x0)).length∧List.drop p.1 (z1o x0)=p.2.1∧z2w z9v p.2.1 p.1 p.2.2=some y66) (fun(p:Nat×(List Int)×Int)=>p.2.1.length) (0,(z1o x0),(65535:Int)) ⟨by simp,by simp,h68⟩ (fun a w st=>St.cut [0] ⟨rfl,rfl,rfl,rfl,trivial⟩ (by decide) rfl st) ?_)
  rintro⟨i73,r74,x8⟩ ⟨h79,h80,h78⟩
  try dsimp only at h79 h80 h78
  refine GL.weak (env':=[(3,.int .u16 x8),(7,v7),(8,.int .i64 (((z1o x0)).length:Int)),(9,.int .i64 (i73:Int))]) (L':=[imm (TR.sl (TR.ik .u8)) v7 (z1o x0)]) ss (GL.seq (GL.region (RL.binI (v:=.bool (decide ((i73:Int)<(((z1o x0)).length:Int)))) rfl rfl rfl rfl rfl (RL.finG (GL.seq (GL.cond rfl (fun b81=>?_) (fun b81=>?_)))))))
  ·have h82:i73<((z1o x0)).length:=by have:=of_decide_eq_true b81;omega
   obtain⟨y83,r85,hr,e84,h86⟩:=z48 h80 rfl h82
   subst hr
   obtain⟨z75,h76,h77⟩:=z2x h78
   unfold z9v at h76
   try dsimp only at h76
   refine GL.skip (GL.seq (GL.block (GL.seq (GL.region (RL.idxS (sz:=1) 0 Tryz.underlying146 zcg rfl rfl rfl rfl rfl SlOf.imm (by omega) (by omega) (RL.ldSx (i:=i73) (e':=y83) 0 Ex.ik zcg rfl rfl rfl rfl SlOf.imm e84 Part.self (RL.asg rfl rfl rfl ?_)))))))
   refine RL.finG (GL.seq (GL.region (RL.mv rfl rfl rfl (RL.mv rfl rfl rfl (RL.cvI Tryz.underlying5 Tryz.underlying142 rfl rfl rfl ?_)))))
   obtain⟨y89,e90,h76⟩:=z7 h76
   replace e90:=z15 e90
   refine RL.sh (by simp) rfl rfl rfl rfl e90 (RL.binI (v:=.int .u16 (bits .xor .u16 x8 (IntKind.wrap .u16 ((IntKind.wrap .u16 y83)*2 ^ (min (8:Int).toNat (IntKind.bits .u16)))))) rfl rfl rfl rfl rfl (RL.asg rfl rfl rfl (RL.finG (GL.seq (GL.region (RL.mv rfl rfl rfl (RL.finG ?_)))))))
   obtain⟨y107,K108,h109,h110,h111,h112,h113⟩:=z78 h76
   refine GL.join (ι:=Int×Int) (fun(p:Int×Int)=>[(3,.int .u16 p.1),(7,v7),(8,.int .i64 (((z1o x0)).length:Int)),(9,.int .i64 (i73:Int))]) (fun(p:Int×Int)=>[imm (TR.sl (TR.ik .u8)) v7 (z1o x0)]) (fun(p:Int×Int)=>K108 (.nx (p.1,p.2))) ?_ ?_
   ·refine GL.block (GL.loop (ι:=Nat×Int×Int) (fun(p:Nat×Int×Int)=>[(3,.int .u16 p.2.1),(7,v7),(8,.int .i64 (((z1o x0)).length:Int)),(9,.int .i64 (i73:Int)),(18,.int .i64 p.2.2)]) (fun(p:Nat×Int×Int)=>[imm (TR.sl (TR.ik .u8)) v7 (z1o x0)]) (fun(p:Nat×Int×Int)=>z40 z9u p.1 (p.2.1,p.2.2)=some y107) (fun(p:Nat×Int×Int)=>p.1) (1048576,bits .xor .u16 x8 (IntKind.wrap .u16 ((IntKind.wrap .u16 y83)*2 ^ (min (8:Int).toNat (IntKind.bits .u16)))),(0:Int)) h109 (fun a w st=>St.cut [0] ⟨rfl,rfl,rfl,rfl,rfl,trivial⟩ (by decide) rfl st) ?_)
    rintro⟨r115,x91,x92⟩ h119
    try dsimp only at h119
    refine GL.weak (env':=[(3,.int .u16 x91),(7,v7),(8,.int .i64 (((z1o x0)).length:Int)),(9,.int .i64 (i73:Int)),(18,.int .i64 x92)]) (L':=[imm (TR.sl (TR.ik .u8)) v7 (z1o x0)]) ss ?_
    obtain⟨r122,z116,hr,h117,h118⟩:=z58 h119
    subst hr
    unfold z9u at h117
    try dsimp only at h117
    refine GL.seq (GL.region (RL.binI (v:=.bool (decide (x92<(8:Int)))) rfl rfl rfl rfl rfl (RL.finG (GL.seq (GL.cond rfl (fun b123=>?_) (fun b123=>?_))))))
    ·replace h117:=z13 b123 h117
     refine GL.skip (GL.seq (GL.block (GL.seq (GL.region (RL.mv rfl rfl rfl ?_)))))
     obtain⟨y126,e127,h117⟩:=z7 h117
     replace e127:=z15 e127
     refine RL.sh (by simp) rfl rfl rfl rfl e127 (RL.binI (v:=.bool ((Int.fdiv x91 (2 ^ (min (15:Int).toNat (IntKind.bits .u16))))==(1:Int))) rfl rfl rfl rfl rfl (RL.finG (GL.cond rfl (fun b128=>?_) (fun b128=>?_))))
     ·replace h117:=z13 b128 h117
      refine GL.region (RL.mv rfl rfl rfl ?_)
      obtain⟨y131,e132,h117⟩:=z7 h117
      replace e132:=z15 e132
      refine RL.sh (by simp) rfl rfl rfl rfl e132 (RL.binI (v:=.int .u16 (bits .xor .u16 (IntKind.wrap .u16 (x91*2 ^ (min (1:Int).toNat (IntKind.bits .u16)))) (4129:Int))) rfl rfl rfl rfl rfl (RL.asg rfl rfl rfl (RL.finG (GL.nilB (GL.region (RL.binI (v:=.int .i64 (wadd x92 (1:Int))) rfl rfl rfl rfl rfl (RL.mv rfl rfl rfl ?_)))))))
      refine RL.finG ?_
      cases h117
      exact fun a w st=>z1l (r122,bits .xor .u16 (IntKind.wrap .u16 (x91*2 ^ (min (1:Int).toNat (IntKind.bits .u16)))) (4129:Int),wadd x92 (1:Int)) (by exact h118) (by simp) (st.cu [0])
     replace h117:=z14 b128 h117
     refine GL.region (RL.mv rfl rfl rfl ?_)
     obtain⟨y135,e136,h117⟩:=z7 h117
     replace e136:=z15 e136
     refine RL.sh (by simp) rfl rfl rfl rfl e136 (RL.asg rfl rfl rfl (RL.finG (GL.nilB (GL.region (RL.binI (v:=.int .i64 (wadd x92 (1:Int))) rfl rfl rfl rfl rfl (RL.mv rfl rfl rfl (RL.finG ?_)))))))
     cases h117
     exact fun a w st=>z1l (r122,IntKind.wrap .u16 (x91*2 ^ (min (1:Int).toNat (IntKind.bits .u16))),wadd x92 (1:Int)) (by exact h118) (by simp) (st.cu [0])
    replace h117:=z14 b123 h117
    cases h117
    replace h118:some (Fl.nx _)=some y107:=h118
    cases h118
    exact GL.exit (fun a w st=>ze (x91,x92) h110 (st.cu [0]))
   rintro⟨x91,x92⟩ h137
   have h138:=h111 _ h137
   try dsimp only at h138
   refine GL.weak (env':=[(3,.int .u16 x91),(7,v7),(8,.int .i64 (((z1o x0)).length:Int)),(9,.int .i64 (i73:Int))]) (L':=[imm (TR.sl (TR.ik .u8)) v7 (z1o x0)]) ss (GL.nilB (GL.region (RL.binI (v:=.int .i64 ((i73+1:Nat):Int)) rfl rfl rfl rfl (binI_succ i73 (by omega)) (RL.mv rfl rfl rfl (RL.fin ?_)))))
   cases h138
   exact fun a w st=>z1l (i73+1,r85,x91) ⟨by show i73+1+r85.length=((z1o x0)).length;simp only[List.length_cons] at h79;omega,h86,h77⟩ (by simp) (st.cu [0])
  have h82:¬ i73<((z1o x0)).length:=by have:=of_decide_eq_false b81;omega
  obtain rfl:r74=[]:=by rw[← h80];exact List.drop_of_length_le (by omega)
  replace h78:some (Fl.nx _)=some y66:=h78
  cases h78
  exact GL.exit (fun a w st=>ze x8 h69 (st.cu []))
 rintro x8 h139
 have h140:=h70 _ h139
 try dsimp only at h140
 refine GL.weak (env':=[(3,.int .u16 x8)]) (L':=[]) ss (GL.seq (GL.region (RL.mv rfl rfl rfl (RL.asg rfl rfl rfl (RL.finG ?_)))))
 have h140:=Option.some.inj h140
 subst h140
 exact GL.ret (Gx.ret (v:=.int .u16 x8) (res1 rfl rfl) (fun a w st=>st.toPostV))
theorem log_Frame_c(S:Hp)(w:World)(hS:S.sub w)(x0:B8)(res:B8×Int)(hm:z7j x0=some res):Calls Tryz.prog 73 #[(sv x0)] w (z45 w (.tuple #[(sv res.1),.int .i64 res.2])):=by
 refine zi 27 Tryz.func73 Tryz.ntmps73 rfl S false [(0,(sv x0))] [] rfl ⟨rfl,trivial⟩ hS trivial ?_
 unfold z7j at hm
 refine GL.seq (GL.region (RL.asg rfl rfl rfl (RL.asg rfl rfl rfl (RL.finG (GL.seq (GL.seq (GL.region ?_)))))))
 refine RL.mv rfl rfl rfl (RL.lenT Tryz.underlying9 rfl rfl rfl (RL.binI (v:=.bool (decide (((x0).length:Int)>(64:Int)))) rfl rfl rfl rfl rfl (RL.finG (GL.cond rfl (fun b2=>?_) (fun b2=>?_)))))
 ·replace hm:=z13 b2 hm
  refine GL.seq (GL.region (RL.asg rfl rfl rfl (RL.asg rfl rfl rfl (RL.finG ?_))))
  have hm:=Option.some.inj hm
  subst hm
  exact GL.ret (Gx.ret (v:=.tuple #[(sv (([]:B8))),.int .i64 (2:Int)]) (res2 rfl rfl rfl) (fun a w st=>st.toPostV))
 replace hm:=z14 b2 hm
 refine GL.skip (GL.seq (GL.region (RL.mv rfl rfl rfl (RL.lenT Tryz.underlying9 rfl rfl rfl (RL.cvI Tryz.underlying3 Tryz.underlying5 rfl rfl rfl (RL.bS (t:=(TR.ik .u8)) (vs:=[.int .u8 (IntKind.wrap .u8 ((x0).length:Int))]) ([IntKind.wrap .u8 ((x0).length:Int)]:(List Int)) Tryz.underlying146 Tryz_lo5 rfl rfl rfl rfl ⟨VR.int,trivial⟩ rfl (by decide) ?_))))))
 intro v6
 refine RL.cvBS 0 Tryz.underlying146 Tryz.underlying5 Tryz.underlying9 rfl rfl rfl rfl SlOf.own (RL.mv rfl rfl rfl ?_)
 obtain⟨y7,e8,hm⟩:=z7 hm
 replace e8:=z15 e8
 refine RL.cat rfl rfl rfl rfl e8 (RL.asg rfl rfl rfl (RL.finG (GL.seq (GL.region (RL.mv rfl rfl rfl ?_)))))
 obtain⟨y11,e12,hm⟩:=z7 hm
 refine RL.callV (v:=.int .u16 y11) (vs:=[(sv ((bytesOf ([IntKind.wrap .u8 ((x0).length:Int)]:(List Int)))++x0))]) zev rfl ol rfl rfl rfl rfl (fun U w hU hW hL=>log_Sum_c U w hU ((bytesOf ([IntKind.wrap .u8 ((x0).length:Int)]:(List Int)))++x0) _ e12) (RL.asg rfl rfl rfl (RL.finG (GL.seq (GL.region (RL.mv rfl rfl rfl (RL.mv rfl rfl rfl ?_))))))
 obtain⟨y18,e19,hm⟩:=z7 hm
 replace e19:=z15 e19
 refine RL.sh (by simp) rfl rfl rfl rfl e19 (RL.cvI Tryz.underlying142 Tryz.underlying5 rfl rfl rfl (RL.mv rfl rfl rfl (RL.cvI Tryz.underlying142 Tryz.underlying5 rfl rfl rfl (RL.bS (t:=(TR.ik .u8)) (vs:=[.int .u8 (IntKind.wrap .u8 (Int.fdiv y11 (2 ^ (min (8:Int).toNat (IntKind.bits .u16))))),.int .u8 (IntKind.wrap .u8 y11)]) ([IntKind.wrap .u8 (Int.fdiv y11 (2 ^ (min (8:Int).toNat (IntKind.bits .u16)))),IntKind.wrap .u8 y11]:(List Int)) Tryz.underlying146 Tryz_lo5 rfl rfl rfl rfl ⟨VR.int,⟨VR.int,trivial⟩⟩ rfl (by decide) ?_))))
 intro v20
 refine RL.reL (L':=[own 5 (TR.ik .u8) v6 ([IntKind.wrap .u8 ((x0).length:Int)]:(List Int)),own 5 (TR.ik .u8) v20 ([IntKind.wrap .u8 (Int.fdiv y11 (2 ^ (min (8:Int).toNat (IntKind.bits .u16)))),IntKind.wrap .u8 y11]:(List Int))]) rfl (RL.cvBS 1 Tryz.underlying146 Tryz.underlying5 Tryz.underlying9 rfl rfl rfl rfl SlOf.own ?_)
 obtain⟨y21,e22,hm⟩:=z7 hm
 replace e22:=z15 e22
 refine RL.cat rfl rfl rfl rfl e22 (RL.asg rfl rfl rfl (RL.asg rfl rfl rfl (RL.finG ?_)))
 have hm:=Option.some.inj hm
 subst hm
 exact GL.ret (Gx.ret (v:=.tuple #[(sv (((bytesOf ([IntKind.wrap .u8 ((x0).length:Int)]:(List Int)))++x0)++(bytesOf ([IntKind.wrap .u8 (Int.fdiv y11 (2 ^ (min (8:Int).toNat (IntKind.bits .u16)))),IntKind.wrap .u8 y11]:(List Int))))),.int .i64 (0:Int)]) (res2 rfl rfl rfl) (fun a w st=>st.toPostV))
theorem z93(B:World)(S X:Hp)(f:Nat→Hp)(w:World)(v0:Value)(x0:(B8×Int))(hO:z2h B.heap.size S f [obox 98 TrL v0 x0,keep X].length w)(hB:Below B.heap.size B w)(hI:Its [obox 98 TrL v0 x0,keep X] S f)(x1:B8)(res:Int×(B8×Int))(hm:z33 x0 x1=some res):Calls Tryz.prog 49 #[v0,(sv x1)] w (zaj B S (fun(o:Unit)=>.int .i64 res.1) (fun(o:Unit)=>[obox 98 TrL v0 res.2,keep X])):=by
 refine z2e 32 Tryz.func49 Tryz.ntmps49 rfl B S f [(0,v0),(1,(sv x1))] [obox 98 TrL v0 x0,keep X] [] rfl ⟨rfl,⟨rfl,trivial⟩⟩ hB hO hI trivial ?_
 unfold z33 at hm
 refine GL.seq (GL.region (RL.asg rfl rfl rfl (RL.finG (GL.seq (GL.region (RL.mv rfl rfl rfl ?_))))))
 obtain⟨y5,e6,hm⟩:=z7 hm
 refine RL.callV (v:=.tuple #[(sv y5.1),.int .i64 y5.2]) (vs:=[(sv x1)]) Tryz_fit73 rfl ol rfl rfl rfl rfl (fun U w hU hW hL=>log_Frame_c U w hU x1 _ e6) (RL.mv rfl rfl rfl (RL.ext rfl rfl rfl rfl (RL.ext rfl rfl rfl rfl (RL.asg rfl rfl rfl (RL.asg rfl rfl rfl (RL.finG (GL.seq ?_)))))))
 refine GL.seq (GL.region (RL.mv rfl rfl rfl (RL.binI (v:=.bool (y5.2 != (0:Int))) rfl rfl rfl rfl rfl (RL.finG (GL.cond rfl (fun b7=>?_) (fun b7=>?_))))))
 ·replace hm:=z13 b7 hm
  refine GL.seq (GL.region (RL.mv rfl rfl rfl (RL.asg rfl rfl rfl (RL.finG ?_))))
  have hm:=Option.some.inj hm
  subst hm
  exact GL.ret (Gx.ret (v:=.int .i64 y5.2) (res1 rfl rfl) (fun a w st=>(st.pick [0,1] (by decide) rfl).toPostM (V:=fun(o:Unit)=>.int .i64 ((y5.2,x0).1)) (LR:=fun(o:Unit)=>[obox 98 TrL v0 ((y5.2,x0).2),keep X]) ()))
 replace hm:=z14 b7 hm
 refine GL.skip (GL.seq (GL.seq (GL.region (RL.mv rfl rfl rfl (RL.nilk 0 rfl rfl rfl rfl PtOf.obox (RL.fadr (off:=0) (fo:=0) 0 z38 rfl rfl rfl PtOf.obox oi (RL.ldPx (off:=(0+0)) (e':=x0.1) 0 Ex.str zh rfl rfl ol rfl PtOf.obox (Part.fst Part.self) ?_)))))))
 refine RL.lenT Tryz.underlying9 rfl rfl rfl (RL.mv rfl rfl rfl (RL.lenT Tryz.underlying9 rfl rfl rfl (RL.binI (v:=.int .i64 (wadd ((x0.1).length:Int) ((y5.1).length:Int))) rfl rfl rfl rfl rfl (RL.binI (v:=.bool (decide ((wadd ((x0.1).length:Int) ((y5.1).length:Int))>(4000:Int)))) rfl rfl rfl rfl rfl (RL.finG (GL.cond rfl (fun b8=>?_) (fun b8=>?_)))))))
 ·replace hm:=z13 b8 hm
  refine GL.seq (GL.region (RL.asg rfl rfl rfl (RL.finG ?_)))
  have hm:=Option.some.inj hm
  subst hm
  exact GL.ret (Gx.ret (v:=.int .i64 (8:Int)) (res1 rfl rfl) (fun a w st=>(st.pick [0,1] (by decide) rfl).toPostM (V:=fun(o:Unit)=>.int .i64 (((8:Int),x0).1)) (LR:=fun(o:Unit)=>[obox 98 TrL v0 (((8:Int),x0).2),keep X]) ()))
 replace hm:=z14 b8 hm
 refine GL.skip (GL.seq (GL.region (RL.mv rfl rfl rfl (RL.nilk 0 rfl rfl rfl rfl PtOf.obox (RL.fadr (off:=0) (fo:=0) 0 z38 rfl rfl rfl PtOf.obox oi (RL.ldPx (off:=(0+0)) (e':=x0.1) 0 Ex.str zh rfl rfl ol rfl PtOf.obox (Part.fst Part.self) (RL.mv rfl rfl rfl ?_)))))))
 obtain⟨y11,e12,hm⟩:=z7 hm
 replace e12:=z15 e12
 refine RL.cat rfl rfl rfl rfl e12 (RL.nilk 0 rfl rfl rfl rfl PtOf.obox (RL.fadr (off:=0) (fo:=0) 0 z38 rfl rfl rfl PtOf.obox oi (RL.stP (off:=(0+0)) (e':=x0.1++y5.1) (d1:=(x0.1++y5.1,x0.2)) (r:=TR.str) 0 zh rfl rfl ol rfl VR.str rfl (Upd.fst Upd.self) (RL.finG (GL.seq (GL.region (RL.asg rfl rfl rfl ?_)))))))
 refine RL.finG ?_
 have hm:=Option.some.inj hm
 subst hm
 exact GL.ret (Gx.ret (v:=.int .i64 (0:Int)) (res1 rfl rfl) (fun a w st=>(st.pick [0,1] (by decide) rfl).toPostM (V:=fun(o:Unit)=>.int .i64 (((0:Int),(x0.1++y5.1,x0.2)).1)) (LR:=fun(o:Unit)=>[obox 98 TrL v0 (((0:Int),(x0.1++y5.1,x0.2)).2),keep X]) ()))
theorem z7s(B:World)(S X:Hp)(f:Nat→Hp)(w:World)(v0:Value)(u0a:Value)(x0:TyH)(hO:z2h B.heap.size S f [obox 87 TrH v0 (x0.1,(x0.2.1,u0a)),obox 98 TrL u0a x0.2.2,keep X].length w)(hB:Below B.heap.size B w)(hI:Its [obox 87 TrH v0 (x0.1,(x0.2.1,u0a)),obox 98 TrL u0a x0.2.2,keep X] S f)(hT:Tab Tryz.prog (Tryz.lays146_ren.g 1) S)(v1:Value)(x1:TyE)(k1:(TrE).vrep S v1 x1)(res:Int×TyH)(hm:z3b x0 x1=some res):Calls Tryz.prog 39 #[v0,v1] w (zaj B S (fun(o:Unit)=>.int .i64 res.1) (fun(o:Unit)=>[obox 87 TrH v0 (res.2.1,(res.2.2.1,u0a)),obox 98 TrL u0a res.2.2.2,keep X])):=by
 refine z2e 43 Tryz.func39 Tryz.ntmps39 rfl B S f [(0,v0),(1,v1)] [obox 87 TrH v0 (x0.1,(x0.2.1,u0a)),obox 98 TrL u0a x0.2.2,keep X] [imm TrE v1 x1] rfl ⟨rfl,⟨rfl,trivial⟩⟩ hB hO hI ⟨k1,trivial⟩ ?_
 unfold z3b at hm
 refine GL.seq (GL.region (RL.box (t:=TrE) (e:=x1) rfl rfl rfl rfl (VR.item 3 rfl) ?_))
 intro v4
 refine RL.asg rfl rfl rfl (RL.finG (GL.seq (GL.regionA rfl rfl (RA.mv 0 rfl (by kernel_rfl) rfl rfl rfl (RA.still (le:=q_1) (f:=6) [1,2,3,4,5,6,7] 8 rfl (by kernel_rfl) ?_)))))
 simp only[z6h,List.getElem?_toArray,List.getElem?_cons_succ,List.getElem?_cons_zero]
 refine RL.nilk 0 rfl rfl rfl rfl PtOf.obox (RL.fadr (off:=0) (fo:=0) 0 z3s rfl rfl rfl PtOf.obox oi (RL.ldP (off:=(0+0)) (r:=(TR.sl TrA)) (e':=x0.1) 0 z4b rfl rfl ol rfl PtOf.obox (Part.fst Part.self) ?_))
 intro v9
 refine RL.fadr (off:=0) (fo:=2) 4 z1d rfl rfl rfl PtOf.obox oi (RL.ldPx (off:=(0+2)) (e':=x1.2.2.1) 4 Ex.str zh rfl rfl ol rfl PtOf.obox (Part.snd (Part.snd (Part.fst Part.self))) (RL.fadr (off:=0) (fo:=1) 4 z1a rfl rfl rfl PtOf.obox oi (RL.ldPx (off:=(0+1)) (e':=x1.2.1) 4 Ex.ik zd rfl rfl ol rfl PtOf.obox (Part.snd (Part.fst Part.self)) (RL.finH (RL.fin (RA.next (RA.seq 8 rfl (by kernel_rfl) ?_)))))))
 obtain⟨y10,e11,hm⟩:=z7 hm
 refine RL.call (vs:=[v9,(sv x1.2.2.1),.int .i64 x1.2.1]) zf2 rfl rfl rfl rfl rfl (fun S f w hS hW hi=>zb3 S w hS _ _ (hi 5 _ rfl) x1.2.2.1 x1.2.1 _ e11) ?_
 intro v12
 refine RL.fin (RA.next (RA.quiet 9 rfl rfl (by kernel_rfl) ?_))
 simp only[List.drop_succ_cons,List.drop_zero]
 refine RL.mv rfl rfl rfl (RL.ext rfl rfl rfl rfl (RL.ext rfl rfl rfl rfl (RL.asg rfl rfl rfl (RL.asg rfl rfl rfl (RL.finQ (RA.outQ (GL.weak (env':=[(0,v0),(3,v4),(5,v12),(6,.int .i64 y10.2)]) (L':=[obox 87 TrH v0 (x0.1,(x0.2.1,u0a)),obox 98 TrL u0a x0.2.2,keep X,obox 30 TrE v4 x1,own 94 TrA v12 y10.1]) (fun a w st=>St.cut [0,1,2,4,6] ⟨rfl,rfl,rfl,rfl,trivial⟩ (by decide) rfl st) ?_)))))))
 refine GL.seq (GL.seq (GL.region (RL.mv rfl rfl rfl (RL.binI (v:=.bool (y10.2 != (0:Int))) rfl rfl rfl rfl rfl (RL.finG (GL.cond rfl (fun b13=>?_) (fun b13=>?_)))))))
 ·replace hm:=z13 b13 hm
  refine GL.seq (GL.region (RL.mv rfl rfl rfl (RL.asg rfl rfl rfl (RL.finG ?_))))
  have hm:=Option.some.inj hm
  subst hm
  exact GL.ret (Gx.ret (v:=.int .i64 y10.2) (res1 rfl rfl) (fun a w st=>(st.pick [0,1,2] (by decide) rfl).toPostM (V:=fun(o:Unit)=>.int .i64 ((y10.2,x0).1)) (LR:=fun(o:Unit)=>[obox 87 TrH v0 (((y10.2,x0).2).1,(((y10.2,x0).2).2.1,u0a)),obox 98 TrL u0a (((y10.2,x0).2).2.2),keep X]) ()))
 replace hm:=z14 b13 hm
 refine GL.skip (GL.seq (GL.seq (GL.regionA rfl rfl (RA.mv 0 rfl (by kernel_rfl) rfl rfl rfl ?_))))
 obtain⟨y107,e108,hm⟩:=z7 hm
 replace e108:=z15 e108
 obtain⟨y109,e110,hm⟩:=z7 hm
 replace e110:=z15 e110
 obtain⟨y111,e112,hm⟩:=z7 hm
 obtain⟨y113,e114,hm⟩:=z7 hm
 replace e114:=z15 e114
 refine RA.meet (ι:=Unit) (fun(p:Unit)=>[(0,v0),(5,v12),(26,u0a),(34,(sv (((([111,32]:B8)++x1.2.2.1)++([32]:B8))++y111)))]) (fun(p:Unit)=>[obox 87 TrH v0 (x0.1,(x0.2.1,u0a)),obox 98 TrL u0a x0.2.2,keep X,own 94 TrA v12 y10.1]) 2 q_2 (fun h115=>?_) ?_
 ·skip
  refine RA.meetU [(0,v0),(5,v12),(26,u0a),(30,(sv ((([111,32]:B8)++x1.2.2.1)++([32]:B8)))),(33,(sv y111))] [obox 87 TrH v0 (x0.1,(x0.2.1,u0a)),obox 98 TrL u0a x0.2.2,keep X,own 94 TrA v12 y10.1] 3 q_3 (fun h116=>?_) ?_
  rotate_left
  ·refine RA.seq 11 rfl (by kernel_rfl) (RL.cat rfl rfl rfl rfl e114 (RL.fin (RA.next (RA.rl 2 q_2 ?_))))
   exact St.via [0,1,2,3] h115
  refine RA.meetU [(0,v0),(5,v12),(25,adr v0 (0+2)),(34,(sv (((([111,32]:B8)++x1.2.2.1)++([32]:B8))++y111)))] [obox 87 TrH v0 (x0.1,(x0.2.1,u0a)),obox 98 TrL u0a x0.2.2,keep X,own 94 TrA v12 y10.1] 3 q_4 (fun h117=>?_) ?_
  rotate_left
  ·refine RA.seq 3 rfl (by kernel_rfl) (RL.ldPx (off:=(0+2)) (e':=u0a) 0 Ex.raw z1p rfl rfl ol rfl PtOf.obox (Part.snd (Part.snd Part.self)) (RL.fin (RA.next (RA.rl 2 q_2 ?_))))
   exact St.via [0,1,2,3] h115
  refine RA.meetU [(0,v0),(5,v12),(26,u0a),(30,(sv ((([111,32]:B8)++x1.2.2.1)++([32]:B8)))),(32,.int .i64 x1.2.1)] [obox 87 TrH v0 (x0.1,(x0.2.1,u0a)),obox 98 TrL u0a x0.2.2,keep X,own 94 TrA v12 y10.1] 4 q_5 (fun h118=>?_) ?_
  rotate_left
  ·refine RA.seq 10 rfl (by kernel_rfl) (RL.callV (v:=(sv y111)) (vs:=[.int .i64 x1.2.1]) z1v rfl ol rfl rfl rfl rfl (fun U w hU hW hL=>z11 U w hU (hT.mono hW) x1.2.1 _ e112) (RL.fin (RA.next (RA.rl 3 q_3 ?_))))
   exact St.via [0,1,2,3] h116
  refine RA.meetU [(0,v0),(5,v12),(26,u0a),(29,(sv (([111,32]:B8)++x1.2.2.1))),(33,(sv y111))] [obox 87 TrH v0 (x0.1,(x0.2.1,u0a)),obox 98 TrL u0a x0.2.2,keep X,own 94 TrA v12 y10.1] 4 q_6 (fun h119=>?_) ?_
  rotate_left
  ·refine RA.seq 7 rfl (by kernel_rfl) (RL.cat rfl rfl rfl rfl e110 (RL.fin (RA.next (RA.rl 3 q_3 ?_))))
   exact St.via [0,1,2,3] h116
  refine RA.meetU [(0,v0),(5,v12),(25,adr v0 (0+2)),(30,(sv ((([111,32]:B8)++x1.2.2.1)++([32]:B8)))),(33,(sv y111))] [obox 87 TrH v0 (x0.1,(x0.2.1,u0a)),obox 98 TrL u0a x0.2.2,keep X,own 94 TrA v12 y10.1] 4 q_7 (fun h120=>?_) ?_
  rotate_left
  ·refine RA.many [3,11] (by kernel_rfl) ⟨⟨_,rfl,?_⟩,⟨_,rfl,?_⟩,trivial⟩
   ·skip
    refine RL.ldPx (off:=(0+2)) (e':=u0a) 0 Ex.raw z1p rfl rfl ol rfl PtOf.obox (Part.snd (Part.snd Part.self)) (RL.fin (RA.next (RA.rl 3 q_3 ?_)))
    exact St.via [0,1,2,3] h116
   refine RL.cat rfl rfl rfl rfl e114 (RL.fin (RA.next (RA.rl 3 q_4 ?_)))
   exact St.via [0,1,2,3] h117
  refine RA.meetU [(0,v0),(5,v12),(24,v0),(34,(sv (((([111,32]:B8)++x1.2.2.1)++([32]:B8))++y111)))] [obox 87 TrH v0 (x0.1,(x0.2.1,u0a)),obox 98 TrL u0a x0.2.2,keep X,own 94 TrA v12 y10.1] 4 q_8 (fun h121=>?_) ?_
  rotate_left
  ·refine RA.seq 2 rfl (by kernel_rfl) (RL.fadr (off:=0) (fo:=2) 0 z10 rfl rfl rfl PtOf.obox oi (RL.fin (RA.next (RA.rl 3 q_4 ?_))))
   exact St.via [0,1,2,3] h117
  refine RA.meetU [(0,v0),(5,v12),(26,u0a),(30,(sv ((([111,32]:B8)++x1.2.2.1)++([32]:B8)))),(31,adr v4 (0+1))] [obox 87 TrH v0 (x0.1,(x0.2.1,u0a)),obox 98 TrL u0a x0.2.2,keep X,own 94 TrA v12 y10.1,obox 30 TrE v4 x1] 5 q_9 (fun h122=>?_) ?_
  rotate_left
  ·refine RA.seq 9 rfl (by kernel_rfl) (RL.ldPx (off:=(0+1)) (e':=x1.2.1) 4 Ex.ik zd rfl rfl ol rfl PtOf.obox (Part.snd (Part.fst Part.self)) (RL.fin (RA.next (RA.rl 4 q_5 ?_))))
   exact St.via [0,1,2,3] h118
  refine RA.meetU [(0,v0),(5,v12),(23,v0),(34,(sv (((([111,32]:B8)++x1.2.2.1)++([32]:B8))++y111)))] [obox 87 TrH v0 (x0.1,(x0.2.1,u0a)),obox 98 TrL u0a x0.2.2,keep X,own 94 TrA v12 y10.1] 5 q_10 (fun h123=>?_) ?_
  rotate_left
  ·refine RA.seq 1 rfl (by kernel_rfl) (RL.nilk 0 rfl rfl rfl rfl PtOf.obox (RL.fin (RA.next (RA.rl 4 q_8 ?_))))
   exact St.via [0,1,2,3] h121
  refine RA.meetU [(0,v0),(5,v12),(26,u0a),(29,(sv (([111,32]:B8)++x1.2.2.1))),(32,.int .i64 x1.2.1)] [obox 87 TrH v0 (x0.1,(x0.2.1,u0a)),obox 98 TrL u0a x0.2.2,keep X,own 94 TrA v12 y10.1] 5 q_11 (fun h124=>?_) ?_
  rotate_left
  ·refine RA.many [7,10] (by kernel_rfl) ⟨⟨_,rfl,?_⟩,⟨_,rfl,?_⟩,trivial⟩
   ·skip
    refine RL.cat rfl rfl rfl rfl e110 (RL.fin (RA.next (RA.rl 4 q_5 ?_)))
    exact St.via [0,1,2,3] h118
   refine RL.callV (v:=(sv y111)) (vs:=[.int .i64 x1.2.1]) z1v rfl ol rfl rfl rfl rfl (fun U w hU hW hL=>z11 U w hU (hT.mono hW) x1.2.1 _ e112) (RL.fin (RA.next (RA.rl 4 q_6 ?_)))
   exact St.via [0,1,2,3] h119
  refine RA.meetU [(0,v0),(5,v12),(25,adr v0 (0+2)),(29,(sv (([111,32]:B8)++x1.2.2.1))),(33,(sv y111))] [obox 87 TrH v0 (x0.1,(x0.2.1,u0a)),obox 98 TrL u0a x0.2.2,keep X,own 94 TrA v12 y10.1] 5 q_12 (fun h125=>?_) ?_
  rotate_left
  ·refine RA.many [3,7] (by kernel_rfl) ⟨⟨_,rfl,?_⟩,⟨_,rfl,?_⟩,trivial⟩
   ·skip
    refine RL.ldPx (off:=(0+2)) (e':=u0a) 0 Ex.raw z1p rfl rfl ol rfl PtOf.obox (Part.snd (Part.snd Part.self)) (RL.fin (RA.next (RA.rl 4 q_6 ?_)))
    exact St.via [0,1,2,3] h119
   refine RL.cat rfl rfl rfl rfl e110 (RL.fin (RA.next (RA.rl 4 q_7 ?_)))
   exact St.via [0,1,2,3] h120
  refine RA.meetU [(0,v0),(5,v12),(25,adr v0 (0+2)),(30,(sv ((([111,32]:B8)++x1.2.2.1)++([32]:B8)))),(32,.int .i64 x1.2.1)] [obox 87 TrH v0 (x0.1,(x0.2.1,u0a)),obox 98 TrL u0a x0.2.2,keep X,own 94 TrA v12 y10.1] 5 q_13 (fun h126=>?_) ?_
  rotate_left
  ·refine RA.many [3,10] (by kernel_rfl) ⟨⟨_,rfl,?_⟩,⟨_,rfl,?_⟩,trivial⟩
   ·skip
    refine RL.ldPx (off:=(0+2)) (e':=u0a) 0 Ex.raw z1p rfl rfl ol rfl PtOf.obox (Part.snd (Part.snd Part.self)) (RL.fin (RA.next (RA.rl 4 q_5 ?_)))
    exact St.via [0,1,2,3] h118
   refine RL.callV (v:=(sv y111)) (vs:=[.int .i64 x1.2.1]) z1v rfl ol rfl rfl rfl rfl (fun U w hU hW hL=>z11 U w hU (hT.mono hW) x1.2.1 _ e112) (RL.fin (RA.next (RA.rl 4 q_7 ?_)))
   exact St.via [0,1,2,3] h120
  refine RA.meetU [(0,v0),(5,v12),(24,v0),(30,(sv ((([111,32]:B8)++x1.2.2.1)++([32]:B8)))),(33,(sv y111))] [obox 87 TrH v0 (x0.1,(x0.2.1,u0a)),obox 98 TrL u0a x0.2.2,keep X,own 94 TrA v12 y10.1] 5 q_14 (fun h127=>?_) ?_
  rotate_left
  ·refine RA.many [2,11] (by kernel_rfl) ⟨⟨_,rfl,?_⟩,⟨_,rfl,?_⟩,trivial⟩
   ·skip
    refine RL.fadr (off:=0) (fo:=2) 0 z10 rfl rfl rfl PtOf.obox oi (RL.fin (RA.next (RA.rl 4 q_7 ?_)))
    exact St.via [0,1,2,3] h120
   refine RL.cat rfl rfl rfl rfl e114 (RL.fin (RA.next (RA.rl 4 q_8 ?_)))
   exact St.via [0,1,2,3] h121
  refine RA.meetU [(0,v0),(5,v12),(26,u0a),(28,(sv x1.2.2.1)),(33,(sv y111))] [obox 87 TrH v0 (x0.1,(x0.2.1,u0a)),obox 98 TrL u0a x0.2.2,keep X,own 94 TrA v12 y10.1] 5 q_15 (fun h128=>?_) ?_
  rotate_left
  ·refine RA.seq 6 rfl (by kernel_rfl) (RL.cat rfl rfl rfl rfl e108 (RL.fin (RA.next (RA.rl 4 q_6 ?_))))
   exact St.via [0,1,2,3] h119
  refine RA.meetU [(0,v0),(5,v12),(24,v0),(30,(sv ((([111,32]:B8)++x1.2.2.1)++([32]:B8)))),(32,.int .i64 x1.2.1)] [obox 87 TrH v0 (x0.1,(x0.2.1,u0a)),obox 98 TrL u0a x0.2.2,keep X,own 94 TrA v12 y10.1] 6 q_16 (fun h129=>?_) ?_
  rotate_left
  ·refine RA.many [2,10] (by kernel_rfl) ⟨⟨_,rfl,?_⟩,⟨_,rfl,?_⟩,trivial⟩
   ·skip
    refine RL.fadr (off:=0) (fo:=2) 0 z10 rfl rfl rfl PtOf.obox oi (RL.fin (RA.next (RA.rl 5 q_13 ?_)))
    exact St.via [0,1,2,3] h126
   refine RL.callV (v:=(sv y111)) (vs:=[.int .i64 x1.2.1]) z1v rfl ol rfl rfl rfl rfl (fun U w hU hW hL=>z11 U w hU (hT.mono hW) x1.2.1 _ e112) (RL.fin (RA.next (RA.rl 5 q_14 ?_)))
   exact St.via [0,1,2,3] h127
  refine RA.meetU [(0,v0),(5,v12),(25,adr v0 (0+2)),(30,(sv ((([111,32]:B8)++x1.2.2.1)++([32]:B8)))),(31,adr v4 (0+1))] [obox 87 TrH v0 (x0.1,(x0.2.1,u0a)),obox 98 TrL u0a x0.2.2,keep X,own 94 TrA v12 y10.1,obox 30 TrE v4 x1] 6 q_17 (fun h130=>?_) ?_
  rotate_left
  ·refine RA.many [3,9] (by kernel_rfl) ⟨⟨_,rfl,?_⟩,⟨_,rfl,?_⟩,trivial⟩
   ·skip
    refine RL.ldPx (off:=(0+2)) (e':=u0a) 0 Ex.raw z1p rfl rfl ol rfl PtOf.obox (Part.snd (Part.snd Part.self)) (RL.fin (RA.next (RA.rl 5 q_9 ?_)))
    exact St.via [0,1,2,3,4] h122
   refine RL.ldPx (off:=(0+1)) (e':=x1.2.1) 4 Ex.ik zd rfl rfl ol rfl PtOf.obox (Part.snd (Part.fst Part.self)) (RL.fin (RA.next (RA.rl 5 q_13 ?_)))
   exact St.via [0,1,2,3] h126
  refine RA.meetU [(0,v0),(5,v12),(23,v0),(30,(sv ((([111,32]:B8)++x1.2.2.1)++([32]:B8)))),(33,(sv y111))] [obox 87 TrH v0 (x0.1,(x0.2.1,u0a)),obox 98 TrL u0a x0.2.2,keep X,own 94 TrA v12 y10.1] 6 q_18 (fun h131=>?_) ?_
  rotate_left
  ·refine RA.many [1,11] (by kernel_rfl) ⟨⟨_,rfl,?_⟩,⟨_,rfl,?_⟩,trivial⟩
   ·skip
    refine RL.nilk 0 rfl rfl rfl rfl PtOf.obox (RL.fin (RA.next (RA.rl 5 q_14 ?_)))
    exact St.via [0,1,2,3] h127
   refine RL.cat rfl rfl rfl rfl e114 (RL.fin (RA.next (RA.rl 5 q_10 ?_)))
   exact St.via [0,1,2,3] h123
  refine RA.meetU [(0,v0),(3,v4),(5,v12),(26,u0a),(30,(sv ((([111,32]:B8)++x1.2.2.1)++([32]:B8))))] [obox 87 TrH v0 (x0.1,(x0.2.1,u0a)),obox 98 TrL u0a x0.2.2,keep X,obox 30 TrE v4 x1,own 94 TrA v12 y10.1] 6 q_1 (fun h132=>?_) ?_
  rotate_left
  ·refine RA.seq 8 rfl (by kernel_rfl) (RL.fadr (off:=0) (fo:=1) 3 z1a rfl rfl rfl PtOf.obox oi (RL.fin (RA.next (RA.rl 5 q_9 ?_))))
   exact St.via [0,1,2,4,3] h122
  refine RA.meetU [(0,v0),(5,v12),(25,adr v0 (0+2)),(29,(sv (([111,32]:B8)++x1.2.2.1))),(32,.int .i64 x1.2.1)] [obox 87 TrH v0 (x0.1,(x0.2.1,u0a)),obox 98 TrL u0a x0.2.2,keep X,own 94 TrA v12 y10.1] 6 q_19 (fun h133=>?_) ?_
  rotate_left
  ·refine RA.many [3,7,10] (by kernel_rfl) ⟨⟨_,rfl,?_⟩,⟨_,rfl,?_⟩,⟨_,rfl,?_⟩,trivial⟩
   ·skip
    refine RL.ldPx (off:=(0+2)) (e':=u0a) 0 Ex.raw z1p rfl rfl ol rfl PtOf.obox (Part.snd (Part.snd Part.self)) (RL.fin (RA.next (RA.rl 5 q_11 ?_)))
    exact St.via [0,1,2,3] h124
   ·skip
    refine RL.cat rfl rfl rfl rfl e110 (RL.fin (RA.next (RA.rl 5 q_13 ?_)))
    exact St.via [0,1,2,3] h126
   refine RL.callV (v:=(sv y111)) (vs:=[.int .i64 x1.2.1]) z1v rfl ol rfl rfl rfl rfl (fun U w hU hW hL=>z11 U w hU (hT.mono hW) x1.2.1 _ e112) (RL.fin (RA.next (RA.rl 5 q_12 ?_)))
   exact St.via [0,1,2,3] h125
  refine RA.meetU [(0,v0),(5,v12),(24,v0),(29,(sv (([111,32]:B8)++x1.2.2.1))),(33,(sv y111))] [obox 87 TrH v0 (x0.1,(x0.2.1,u0a)),obox 98 TrL u0a x0.2.2,keep X,own 94 TrA v12 y10.1] 6 q_20 (fun h134=>?_) ?_
  rotate_left
  ·refine RA.many [2,7] (by kernel_rfl) ⟨⟨_,rfl,?_⟩,⟨_,rfl,?_⟩,trivial⟩
   ·skip
    refine RL.fadr (off:=0) (fo:=2) 0 z10 rfl rfl rfl PtOf.obox oi (RL.fin (RA.next (RA.rl 5 q_12 ?_)))
    exact St.via [0,1,2,3] h125
   refine RL.cat rfl rfl rfl rfl e110 (RL.fin (RA.next (RA.rl 5 q_14 ?_)))
   exact St.via [0,1,2,3] h127
  refine RA.meetU [(0,v0),(5,v12),(26,u0a),(29,(sv (([111,32]:B8)++x1.2.2.1))),(31,adr v4 (0+1))] [obox 87 TrH v0 (x0.1,(x0.2.1,u0a)),obox 98 TrL u0a x0.2.2,keep X,own 94 TrA v12 y10.1,obox 30 TrE v4 x1] 6 q_21 (fun h135=>?_) ?_
  rotate_left
  ·refine RA.many [7,9] (by kernel_rfl) ⟨⟨_,rfl,?_⟩,⟨_,rfl,?_⟩,trivial⟩
   ·skip
    refine RL.cat rfl rfl rfl rfl e110 (RL.fin (RA.next (RA.rl 5 q_9 ?_)))
    exact St.via [0,1,2,3,4] h122
   refine RL.ldPx (off:=(0+1)) (e':=x1.2.1) 4 Ex.ik zd rfl rfl ol rfl PtOf.obox (Part.snd (Part.fst Part.self)) (RL.fin (RA.next (RA.rl 5 q_11 ?_)))
   exact St.via [0,1,2,3] h124
  refine RA.meetU [(0,v0),(5,v12),(25,adr v0 (0+2)),(28,(sv x1.2.2.1)),(33,(sv y111))] [obox 87 TrH v0 (x0.1,(x0.2.1,u0a)),obox 98 TrL u0a x0.2.2,keep X,own 94 TrA v12 y10.1] 6 q_22 (fun h136=>?_) ?_
  rotate_left
  ·refine RA.many [3,6] (by kernel_rfl) ⟨⟨_,rfl,?_⟩,⟨_,rfl,?_⟩,trivial⟩
   ·skip
    refine RL.ldPx (off:=(0+2)) (e':=u0a) 0 Ex.raw z1p rfl rfl ol rfl PtOf.obox (Part.snd (Part.snd Part.self)) (RL.fin (RA.next (RA.rl 5 q_15 ?_)))
    exact St.via [0,1,2,3] h128
   refine RL.cat rfl rfl rfl rfl e108 (RL.fin (RA.next (RA.rl 5 q_12 ?_)))
   exact St.via [0,1,2,3] h125
  refine RA.meetU [(0,v0),(5,v12),(26,u0a),(28,(sv x1.2.2.1)),(32,.int .i64 x1.2.1)] [obox 87 TrH v0 (x0.1,(x0.2.1,u0a)),obox 98 TrL u0a x0.2.2,keep X,own 94 TrA v12 y10.1] 6 q_23 (fun h137=>?_) ?_
  rotate_left
  ·refine RA.many [6,10] (by kernel_rfl) ⟨⟨_,rfl,?_⟩,⟨_,rfl,?_⟩,trivial⟩
   ·skip
    refine RL.cat rfl rfl rfl rfl e108 (RL.fin (RA.next (RA.rl 5 q_11 ?_)))
    exact St.via [0,1,2,3] h124
   refine RL.callV (v:=(sv y111)) (vs:=[.int .i64 x1.2.1]) z1v rfl ol rfl rfl rfl rfl (fun U w hU hW hL=>z11 U w hU (hT.mono hW) x1.2.1 _ e112) (RL.fin (RA.next (RA.rl 5 q_15 ?_)))
   exact St.via [0,1,2,3] h128
  refine RA.meetU [(0,v0),(5,v12),(26,u0a),(27,adr v4 (0+2)),(33,(sv y111))] [obox 87 TrH v0 (x0.1,(x0.2.1,u0a)),obox 98 TrL u0a x0.2.2,keep X,own 94 TrA v12 y10.1,obox 30 TrE v4 x1] 6 q_24 (fun h138=>?_) ?_
  rotate_left
  ·refine RA.seq 5 rfl (by kernel_rfl) (RL.ldPx (off:=(0+2)) (e':=x1.2.2.1) 4 Ex.str zh rfl rfl ol rfl PtOf.obox (Part.snd (Part.snd (Part.fst Part.self))) (RL.fin (RA.next (RA.rl 5 q_15 ?_))))
   exact St.via [0,1,2,3] h128
  refine RA.meetU [(0,v0),(5,v12),(25,adr v0 (0+2)),(28,(sv x1.2.2.1)),(32,.int .i64 x1.2.1)] [obox 87 TrH v0 (x0.1,(x0.2.1,u0a)),obox 98 TrL u0a x0.2.2,keep X,own 94 TrA v12 y10.1] 7 q_25 (fun h139=>?_) ?_
  rotate_left
  ·refine RA.many [3,6,10] (by kernel_rfl) ⟨⟨_,rfl,?_⟩,⟨_,rfl,?_⟩,⟨_,rfl,?_⟩,trivial⟩
   ·skip
    refine RL.ldPx (off:=(0+2)) (e':=u0a) 0 Ex.raw z1p rfl rfl ol rfl PtOf.obox (Part.snd (Part.snd Part.self)) (RL.fin (RA.next (RA.rl 6 q_23 ?_)))
    exact St.via [0,1,2,3] h137
   ·skip
    refine RL.cat rfl rfl rfl rfl e108 (RL.fin (RA.next (RA.rl 6 q_19 ?_)))
    exact St.via [0,1,2,3] h133
   refine RL.callV (v:=(sv y111)) (vs:=[.int .i64 x1.2.1]) z1v rfl ol rfl rfl rfl rfl (fun U w hU hW hL=>z11 U w hU (hT.mono hW) x1.2.1 _ e112) (RL.fin (RA.next (RA.rl 6 q_22 ?_)))
   exact St.via [0,1,2,3] h136
  refine RA.meetU [(0,v0),(5,v12),(26,u0a),(28,(sv x1.2.2.1)),(31,adr v4 (0+1))] [obox 87 TrH v0 (x0.1,(x0.2.1,u0a)),obox 98 TrL u0a x0.2.2,keep X,own 94 TrA v12 y10.1,obox 30 TrE v4 x1] 7 q_26 (fun h140=>?_) ?_
  rotate_left
  ·refine RA.many [6,9] (by kernel_rfl) ⟨⟨_,rfl,?_⟩,⟨_,rfl,?_⟩,trivial⟩
   ·skip
    refine RL.cat rfl rfl rfl rfl e108 (RL.fin (RA.next (RA.rl 6 q_21 ?_)))
    exact St.via [0,1,2,3,4] h135
   refine RL.ldPx (off:=(0+1)) (e':=x1.2.1) 4 Ex.ik zd rfl rfl ol rfl PtOf.obox (Part.snd (Part.fst Part.self)) (RL.fin (RA.next (RA.rl 6 q_23 ?_)))
   exact St.via [0,1,2,3] h137
  refine RA.meetU [(0,v0),(3,v4),(5,v12),(26,u0a),(33,(sv y111))] [obox 87 TrH v0 (x0.1,(x0.2.1,u0a)),obox 98 TrL u0a x0.2.2,keep X,obox 30 TrE v4 x1,own 94 TrA v12 y10.1] 7 q_27 (fun h141=>?_) ?_
  rotate_left
  ·refine RA.seq 4 rfl (by kernel_rfl) (RL.fadr (off:=0) (fo:=2) 3 z1d rfl rfl rfl PtOf.obox oi (RL.fin (RA.next (RA.rl 6 q_24 ?_))))
   exact St.via [0,1,2,4,3] h138
  refine RA.meetU [(0,v0),(3,v4),(5,v12),(26,u0a),(29,(sv (([111,32]:B8)++x1.2.2.1)))] [obox 87 TrH v0 (x0.1,(x0.2.1,u0a)),obox 98 TrL u0a x0.2.2,keep X,obox 30 TrE v4 x1,own 94 TrA v12 y10.1] 7 q_28 (fun h142=>?_) ?_
  rotate_left
  ·refine RA.many [7,8] (by kernel_rfl) ⟨⟨_,rfl,?_⟩,⟨_,rfl,?_⟩,trivial⟩
   ·skip
    refine RL.cat rfl rfl rfl rfl e110 (RL.fin (RA.next (RA.rl 6 q_1 ?_)))
    exact St.via [0,1,2,3,4] h132
   refine RL.fadr (off:=0) (fo:=1) 3 z1a rfl rfl rfl PtOf.obox oi (RL.fin (RA.next (RA.rl 6 q_21 ?_)))
   exact St.via [0,1,2,4,3] h135
  refine RA.meetU [(0,v0),(5,v12),(26,u0a),(27,adr v4 (0+2)),(32,.int .i64 x1.2.1)] [obox 87 TrH v0 (x0.1,(x0.2.1,u0a)),obox 98 TrL u0a x0.2.2,keep X,own 94 TrA v12 y10.1,obox 30 TrE v4 x1] 7 q_29 (fun h143=>?_) ?_
  rotate_left
  ·refine RA.many [5,10] (by kernel_rfl) ⟨⟨_,rfl,?_⟩,⟨_,rfl,?_⟩,trivial⟩
   ·skip
    refine RL.ldPx (off:=(0+2)) (e':=x1.2.2.1) 4 Ex.str zh rfl rfl ol rfl PtOf.obox (Part.snd (Part.snd (Part.fst Part.self))) (RL.fin (RA.next (RA.rl 6 q_23 ?_)))
    exact St.via [0,1,2,3] h137
   refine RL.callV (v:=(sv y111)) (vs:=[.int .i64 x1.2.1]) z1v rfl ol rfl rfl rfl rfl (fun U w hU hW hL=>z11 U w hU (hT.mono hW) x1.2.1 _ e112) (RL.fin (RA.next (RA.rl 6 q_24 ?_)))
   exact St.via [0,1,2,3,4] h138
  refine RA.meetU [(0,v0),(5,v12),(25,adr v0 (0+2)),(27,adr v4 (0+2)),(33,(sv y111))] [obox 87 TrH v0 (x0.1,(x0.2.1,u0a)),obox 98 TrL u0a x0.2.2,keep X,own 94 TrA v12 y10.1,obox 30 TrE v4 x1] 7 q_30 (fun h144=>?_) ?_
  rotate_left
  ·refine RA.many [3,5] (by kernel_rfl) ⟨⟨_,rfl,?_⟩,⟨_,rfl,?_⟩,trivial⟩
   ·skip
    refine RL.ldPx (off:=(0+2)) (e':=u0a) 0 Ex.raw z1p rfl rfl ol rfl PtOf.obox (Part.snd (Part.snd Part.self)) (RL.fin (RA.next (RA.rl 6 q_24 ?_)))
    exact St.via [0,1,2,3,4] h138
   refine RL.ldPx (off:=(0+2)) (e':=x1.2.2.1) 4 Ex.str zh rfl rfl ol rfl PtOf.obox (Part.snd (Part.snd (Part.fst Part.self))) (RL.fin (RA.next (RA.rl 6 q_22 ?_)))
   exact St.via [0,1,2,3] h136
  refine RA.meetU [(0,v0),(5,v12),(23,v0),(29,(sv (([111,32]:B8)++x1.2.2.1))),(33,(sv y111))] [obox 87 TrH v0 (x0.1,(x0.2.1,u0a)),obox 98 TrL u0a x0.2.2,keep X,own 94 TrA v12 y10.1] 7 q_31 (fun h145=>?_) ?_
  rotate_left
  ·refine RA.many [1,7] (by kernel_rfl) ⟨⟨_,rfl,?_⟩,⟨_,rfl,?_⟩,trivial⟩
   ·skip
    refine RL.nilk 0 rfl rfl rfl rfl PtOf.obox (RL.fin (RA.next (RA.rl 6 q_20 ?_)))
    exact St.via [0,1,2,3] h134
   refine RL.cat rfl rfl rfl rfl e110 (RL.fin (RA.next (RA.rl 6 q_18 ?_)))
   exact St.via [0,1,2,3] h131
  refine RA.meetU [(0,v0),(3,v4),(5,v12),(25,adr v0 (0+2)),(30,(sv ((([111,32]:B8)++x1.2.2.1)++([32]:B8))))] [obox 87 TrH v0 (x0.1,(x0.2.1,u0a)),obox 98 TrL u0a x0.2.2,keep X,obox 30 TrE v4 x1,own 94 TrA v12 y10.1] 7 q_32 (fun h146=>?_) ?_
  rotate_left
  ·refine RA.many [3,8] (by kernel_rfl) ⟨⟨_,rfl,?_⟩,⟨_,rfl,?_⟩,trivial⟩
   ·skip
    refine RL.ldPx (off:=(0+2)) (e':=u0a) 0 Ex.raw z1p rfl rfl ol rfl PtOf.obox (Part.snd (Part.snd Part.self)) (RL.fin (RA.next (RA.rl 6 q_1 ?_)))
    exact St.via [0,1,2,3,4] h132
   refine RL.fadr (off:=0) (fo:=1) 3 z1a rfl rfl rfl PtOf.obox oi (RL.fin (RA.next (RA.rl 6 q_17 ?_)))
   exact St.via [0,1,2,4,3] h130
  refine RA.meetU [(0,v0),(5,v12),(24,v0),(29,(sv (([111,32]:B8)++x1.2.2.1))),(32,.int .i64 x1.2.1)] [obox 87 TrH v0 (x0.1,(x0.2.1,u0a)),obox 98 TrL u0a x0.2.2,keep X,own 94 TrA v12 y10.1] 7 q_33 (fun h147=>?_) ?_
  rotate_left
  ·refine RA.many [2,7,10] (by kernel_rfl) ⟨⟨_,rfl,?_⟩,⟨_,rfl,?_⟩,⟨_,rfl,?_⟩,trivial⟩
   ·skip
    refine RL.fadr (off:=0) (fo:=2) 0 z10 rfl rfl rfl PtOf.obox oi (RL.fin (RA.next (RA.rl 6 q_19 ?_)))
    exact St.via [0,1,2,3] h133
   ·skip
    refine RL.cat rfl rfl rfl rfl e110 (RL.fin (RA.next (RA.rl 6 q_16 ?_)))
    exact St.via [0,1,2,3] h129
   refine RL.callV (v:=(sv y111)) (vs:=[.int .i64 x1.2.1]) z1v rfl ol rfl rfl rfl rfl (fun U w hU hW hL=>z11 U w hU (hT.mono hW) x1.2.1 _ e112) (RL.fin (RA.next (RA.rl 6 q_20 ?_)))
   exact St.via [0,1,2,3] h134
  refine RA.meetU [(0,v0),(5,v12),(25,adr v0 (0+2)),(29,(sv (([111,32]:B8)++x1.2.2.1))),(31,adr v4 (0+1))] [obox 87 TrH v0 (x0.1,(x0.2.1,u0a)),obox 98 TrL u0a x0.2.2,keep X,own 94 TrA v12 y10.1,obox 30 TrE v4 x1] 7 q_34 (fun h148=>?_) ?_
  rotate_left
  ·refine RA.many [3,7,9] (by kernel_rfl) ⟨⟨_,rfl,?_⟩,⟨_,rfl,?_⟩,⟨_,rfl,?_⟩,trivial⟩
   ·skip
    refine RL.ldPx (off:=(0+2)) (e':=u0a) 0 Ex.raw z1p rfl rfl ol rfl PtOf.obox (Part.snd (Part.snd Part.self)) (RL.fin (RA.next (RA.rl 6 q_21 ?_)))
    exact St.via [0,1,2,3,4] h135
   ·skip
    refine RL.cat rfl rfl rfl rfl e110 (RL.fin (RA.next (RA.rl 6 q_17 ?_)))
    exact St.via [0,1,2,3,4] h130
   refine RL.ldPx (off:=(0+1)) (e':=x1.2.1) 4 Ex.ik zd rfl rfl ol rfl PtOf.obox (Part.snd (Part.fst Part.self)) (RL.fin (RA.next (RA.rl 6 q_19 ?_)))
   exact St.via [0,1,2,3] h133
  refine RA.meetU [(0,v0),(5,v12),(23,v0),(30,(sv ((([111,32]:B8)++x1.2.2.1)++([32]:B8)))),(32,.int .i64 x1.2.1)] [obox 87 TrH v0 (x0.1,(x0.2.1,u0a)),obox 98 TrL u0a x0.2.2,keep X,own 94 TrA v12 y10.1] 7 q_35 (fun h149=>?_) ?_
  rotate_left
  ·refine RA.many [1,10] (by kernel_rfl) ⟨⟨_,rfl,?_⟩,⟨_,rfl,?_⟩,trivial⟩
   ·skip
    refine RL.nilk 0 rfl rfl rfl rfl PtOf.obox (RL.fin (RA.next (RA.rl 6 q_16 ?_)))
    exact St.via [0,1,2,3] h129
   refine RL.callV (v:=(sv y111)) (vs:=[.int .i64 x1.2.1]) z1v rfl ol rfl rfl rfl rfl (fun U w hU hW hL=>z11 U w hU (hT.mono hW) x1.2.1 _ e112) (RL.fin (RA.next (RA.rl 6 q_18 ?_)))
   exact St.via [0,1,2,3] h131
  refine RA.meetU [(0,v0),(5,v12),(24,v0),(28,(sv x1.2.2.1)),(33,(sv y111))] [obox 87 TrH v0 (x0.1,(x0.2.1,u0a)),obox 98 TrL u0a x0.2.2,keep X,own 94 TrA v12 y10.1] 7 q_36 (fun h150=>?_) ?_
  rotate_left
  ·refine RA.many [2,6] (by kernel_rfl) ⟨⟨_,rfl,?_⟩,⟨_,rfl,?_⟩,trivial⟩
   ·skip
    refine RL.fadr (off:=0) (fo:=2) 0 z10 rfl rfl rfl PtOf.obox oi (RL.fin (RA.next (RA.rl 6 q_22 ?_)))
    exact St.via [0,1,2,3] h136
   refine RL.cat rfl rfl rfl rfl e108 (RL.fin (RA.next (RA.rl 6 q_20 ?_)))
   exact St.via [0,1,2,3] h134
  refine RA.meetU [(0,v0),(5,v12),(24,v0),(30,(sv ((([111,32]:B8)++x1.2.2.1)++([32]:B8)))),(31,adr v4 (0+1))] [obox 87 TrH v0 (x0.1,(x0.2.1,u0a)),obox 98 TrL u0a x0.2.2,keep X,own 94 TrA v12 y10.1,obox 30 TrE v4 x1] 7 q_37 (fun h151=>?_) ?_
  rotate_left
  ·refine RA.many [2,9] (by kernel_rfl) ⟨⟨_,rfl,?_⟩,⟨_,rfl,?_⟩,trivial⟩
   ·skip
    refine RL.fadr (off:=0) (fo:=2) 0 z10 rfl rfl rfl PtOf.obox oi (RL.fin (RA.next (RA.rl 6 q_17 ?_)))
    exact St.via [0,1,2,3,4] h130
   refine RL.ldPx (off:=(0+1)) (e':=x1.2.1) 4 Ex.ik zd rfl rfl ol rfl PtOf.obox (Part.snd (Part.fst Part.self)) (RL.fin (RA.next (RA.rl 6 q_16 ?_)))
   exact St.via [0,1,2,3] h129
  refine RA.meetU [(0,v0),(5,v12),(24,v0),(29,(sv (([111,32]:B8)++x1.2.2.1))),(31,adr v4 (0+1))] [obox 87 TrH v0 (x0.1,(x0.2.1,u0a)),obox 98 TrL u0a x0.2.2,keep X,own 94 TrA v12 y10.1,obox 30 TrE v4 x1] 8 q_38 (fun h152=>?_) ?_
  rotate_left
  ·refine RA.many [2,7,9] (by kernel_rfl) ⟨⟨_,rfl,?_⟩,⟨_,rfl,?_⟩,⟨_,rfl,?_⟩,trivial⟩
   ·skip
    refine RL.fadr (off:=0) (fo:=2) 0 z10 rfl rfl rfl PtOf.obox oi (RL.fin (RA.next (RA.rl 7 q_34 ?_)))
    exact St.via [0,1,2,3,4] h148
   ·skip
    refine RL.cat rfl rfl rfl rfl e110 (RL.fin (RA.next (RA.rl 7 q_37 ?_)))
    exact St.via [0,1,2,3,4] h151
   refine RL.ldPx (off:=(0+1)) (e':=x1.2.1) 4 Ex.ik zd rfl rfl ol rfl PtOf.obox (Part.snd (Part.fst Part.self)) (RL.fin (RA.next (RA.rl 7 q_33 ?_)))
   exact St.via [0,1,2,3] h147
  refine RA.meetU [(0,v0),(3,v4),(5,v12),(25,adr v0 (0+2)),(33,(sv y111))] [obox 87 TrH v0 (x0.1,(x0.2.1,u0a)),obox 98 TrL u0a x0.2.2,keep X,obox 30 TrE v4 x1,own 94 TrA v12 y10.1] 8 q_39 (fun h153=>?_) ?_
  rotate_left
  ·refine RA.many [3,4] (by kernel_rfl) ⟨⟨_,rfl,?_⟩,⟨_,rfl,?_⟩,trivial⟩
   ·skip
    refine RL.ldPx (off:=(0+2)) (e':=u0a) 0 Ex.raw z1p rfl rfl ol rfl PtOf.obox (Part.snd (Part.snd Part.self)) (RL.fin (RA.next (RA.rl 7 q_27 ?_)))
    exact St.via [0,1,2,3,4] h141
   refine RL.fadr (off:=0) (fo:=2) 3 z1d rfl rfl rfl PtOf.obox oi (RL.fin (RA.next (RA.rl 7 q_30 ?_)))
   exact St.via [0,1,2,4,3] h144
  refine RA.meetU [(0,v0),(5,v12),(23,v0),(29,(sv (([111,32]:B8)++x1.2.2.1))),(32,.int .i64 x1.2.1)] [obox 87 TrH v0 (x0.1,(x0.2.1,u0a)),obox 98 TrL u0a x0.2.2,keep X,own 94 TrA v12 y10.1] 8 q_40 (fun h154=>?_) ?_
  rotate_left
  ·refine RA.many [1,7,10] (by kernel_rfl) ⟨⟨_,rfl,?_⟩,⟨_,rfl,?_⟩,⟨_,rfl,?_⟩,trivial⟩
   ·skip
    refine RL.nilk 0 rfl rfl rfl rfl PtOf.obox (RL.fin (RA.next (RA.rl 7 q_33 ?_)))
    exact St.via [0,1,2,3] h147
   ·skip
    refine RL.cat rfl rfl rfl rfl e110 (RL.fin (RA.next (RA.rl 7 q_35 ?_)))
    exact St.via [0,1,2,3] h149
   refine RL.callV (v:=(sv y111)) (vs:=[.int .i64 x1.2.1]) z1v rfl ol rfl rfl rfl rfl (fun U w hU hW hL=>z11 U w hU (hT.mono hW) x1.2.1 _ e112) (RL.fin (RA.next (RA.rl 7 q_31 ?_)))
   exact St.via [0,1,2,3] h145
  refine RA.meetU [(0,v0),(3,v4),(5,v12),(25,adr v0 (0+2)),(29,(sv (([111,32]:B8)++x1.2.2.1)))] [obox 87 TrH v0 (x0.1,(x0.2.1,u0a)),obox 98 TrL u0a x0.2.2,keep X,obox 30 TrE v4 x1,own 94 TrA v12 y10.1] 8 q_41 (fun h155=>?_) ?_
  rotate_left
  ·refine RA.many [3,7,8] (by kernel_rfl) ⟨⟨_,rfl,?_⟩,⟨_,rfl,?_⟩,⟨_,rfl,?_⟩,trivial⟩
   ·skip
    refine RL.ldPx (off:=(0+2)) (e':=u0a) 0 Ex.raw z1p rfl rfl ol rfl PtOf.obox (Part.snd (Part.snd Part.self)) (RL.fin (RA.next (RA.rl 7 q_28 ?_)))
    exact St.via [0,1,2,3,4] h142
   ·skip
    refine RL.cat rfl rfl rfl rfl e110 (RL.fin (RA.next (RA.rl 7 q_32 ?_)))
    exact St.via [0,1,2,3,4] h146
   refine RL.fadr (off:=0) (fo:=1) 3 z1a rfl rfl rfl PtOf.obox oi (RL.fin (RA.next (RA.rl 7 q_34 ?_)))
   exact St.via [0,1,2,4,3] h148
  refine RA.meetU [(0,v0),(5,v12),(23,v0),(30,(sv ((([111,32]:B8)++x1.2.2.1)++([32]:B8)))),(31,adr v4 (0+1))] [obox 87 TrH v0 (x0.1,(x0.2.1,u0a)),obox 98 TrL u0a x0.2.2,keep X,own 94 TrA v12 y10.1,obox 30 TrE v4 x1] 8 q_42 (fun h156=>?_) ?_
  rotate_left
  ·refine RA.many [1,9] (by kernel_rfl) ⟨⟨_,rfl,?_⟩,⟨_,rfl,?_⟩,trivial⟩
   ·skip
    refine RL.nilk 0 rfl rfl rfl rfl PtOf.obox (RL.fin (RA.next (RA.rl 7 q_37 ?_)))
    exact St.via [0,1,2,3,4] h151
   refine RL.ldPx (off:=(0+1)) (e':=x1.2.1) 4 Ex.ik zd rfl rfl ol rfl PtOf.obox (Part.snd (Part.fst Part.self)) (RL.fin (RA.next (RA.rl 7 q_35 ?_)))
   exact St.via [0,1,2,3] h149
  refine RA.meetU [(0,v0),(3,v4),(5,v12),(26,u0a),(32,.int .i64 x1.2.1)] [obox 87 TrH v0 (x0.1,(x0.2.1,u0a)),obox 98 TrL u0a x0.2.2,keep X,obox 30 TrE v4 x1,own 94 TrA v12 y10.1] 8 q_43 (fun h157=>?_) ?_
  rotate_left
  ·refine RA.many [4,10] (by kernel_rfl) ⟨⟨_,rfl,?_⟩,⟨_,rfl,?_⟩,trivial⟩
   ·skip
    refine RL.fadr (off:=0) (fo:=2) 3 z1d rfl rfl rfl PtOf.obox oi (RL.fin (RA.next (RA.rl 7 q_29 ?_)))
    exact St.via [0,1,2,4,3] h143
   refine RL.callV (v:=(sv y111)) (vs:=[.int .i64 x1.2.1]) z1v rfl ol rfl rfl rfl rfl (fun U w hU hW hL=>z11 U w hU (hT.mono hW) x1.2.1 _ e112) (RL.fin (RA.next (RA.rl 7 q_27 ?_)))
   exact St.via [0,1,2,3,4] h141
  refine RA.meetU [(0,v0),(5,v12),(24,v0),(28,(sv x1.2.2.1)),(32,.int .i64 x1.2.1)] [obox 87 TrH v0 (x0.1,(x0.2.1,u0a)),obox 98 TrL u0a x0.2.2,keep X,own 94 TrA v12 y10.1] 8 q_44 (fun h158=>?_) ?_
  rotate_left
  ·refine RA.many [2,6,10] (by kernel_rfl) ⟨⟨_,rfl,?_⟩,⟨_,rfl,?_⟩,⟨_,rfl,?_⟩,trivial⟩
   ·skip
    refine RL.fadr (off:=0) (fo:=2) 0 z10 rfl rfl rfl PtOf.obox oi (RL.fin (RA.next (RA.rl 7 q_25 ?_)))
    exact St.via [0,1,2,3] h139
   ·skip
    refine RL.cat rfl rfl rfl rfl e108 (RL.fin (RA.next (RA.rl 7 q_33 ?_)))
    exact St.via [0,1,2,3] h147
   refine RL.callV (v:=(sv y111)) (vs:=[.int .i64 x1.2.1]) z1v rfl ol rfl rfl rfl rfl (fun U w hU hW hL=>z11 U w hU (hT.mono hW) x1.2.1 _ e112) (RL.fin (RA.next (RA.rl 7 q_36 ?_)))
   exact St.via [0,1,2,3] h150
  refine RA.meetU [(0,v0),(5,v12),(24,v0),(27,adr v4 (0+2)),(33,(sv y111))] [obox 87 TrH v0 (x0.1,(x0.2.1,u0a)),obox 98 TrL u0a x0.2.2,keep X,own 94 TrA v12 y10.1,obox 30 TrE v4 x1] 8 q_45 (fun h159=>?_) ?_
  rotate_left
  ·refine RA.many [2,5] (by kernel_rfl) ⟨⟨_,rfl,?_⟩,⟨_,rfl,?_⟩,trivial⟩
   ·skip
    refine RL.fadr (off:=0) (fo:=2) 0 z10 rfl rfl rfl PtOf.obox oi (RL.fin (RA.next (RA.rl 7 q_30 ?_)))
    exact St.via [0,1,2,3,4] h144
   refine RL.ldPx (off:=(0+2)) (e':=x1.2.2.1) 4 Ex.str zh rfl rfl ol rfl PtOf.obox (Part.snd (Part.snd (Part.fst Part.self))) (RL.fin (RA.next (RA.rl 7 q_36 ?_)))
   exact St.via [0,1,2,3] h150
  refine RA.meetU [(0,v0),(3,v4),(5,v12),(24,v0),(30,(sv ((([111,32]:B8)++x1.2.2.1)++([32]:B8))))] [obox 87 TrH v0 (x0.1,(x0.2.1,u0a)),obox 98 TrL u0a x0.2.2,keep X,obox 30 TrE v4 x1,own 94 TrA v12 y10.1] 8 q_46 (fun h160=>?_) ?_
  rotate_left
  ·refine RA.many [2,8] (by kernel_rfl) ⟨⟨_,rfl,?_⟩,⟨_,rfl,?_⟩,trivial⟩
   ·skip
    refine RL.fadr (off:=0) (fo:=2) 0 z10 rfl rfl rfl PtOf.obox oi (RL.fin (RA.next (RA.rl 7 q_32 ?_)))
    exact St.via [0,1,2,3,4] h146
   refine RL.fadr (off:=0) (fo:=1) 3 z1a rfl rfl rfl PtOf.obox oi (RL.fin (RA.next (RA.rl 7 q_37 ?_)))
   exact St.via [0,1,2,4,3] h151
  refine RA.meetU [(0,v0),(5,v12),(26,u0a),(27,adr v4 (0+2)),(31,adr v4 (0+1))] [obox 87 TrH v0 (x0.1,(x0.2.1,u0a)),obox 98 TrL u0a x0.2.2,keep X,own 94 TrA v12 y10.1,obox 30 TrE v4 x1] 8 q_47 (fun h161=>?_) ?_
  rotate_left
  ·refine RA.many [5,9] (by kernel_rfl) ⟨⟨_,rfl,?_⟩,⟨_,rfl,?_⟩,trivial⟩
   ·skip
    refine RL.ldPx (off:=(0+2)) (e':=x1.2.2.1) 4 Ex.str zh rfl rfl ol rfl PtOf.obox (Part.snd (Part.snd (Part.fst Part.self))) (RL.fin (RA.next (RA.rl 7 q_26 ?_)))
    exact St.via [0,1,2,3,4] h140
   refine RL.ldPx (off:=(0+1)) (e':=x1.2.1) 4 Ex.ik zd rfl rfl ol rfl PtOf.obox (Part.snd (Part.fst Part.self)) (RL.fin (RA.next (RA.rl 7 q_29 ?_)))
   exact St.via [0,1,2,3,4] h143
  refine RA.meetU [(0,v0),(5,v12),(25,adr v0 (0+2)),(28,(sv x1.2.2.1)),(31,adr v4 (0+1))] [obox 87 TrH v0 (x0.1,(x0.2.1,u0a)),obox 98 TrL u0a x0.2.2,keep X,own 94 TrA v12 y10.1,obox 30 TrE v4 x1] 8 q_48 (fun h162=>?_) ?_
  rotate_left
  ·refine RA.many [3,6,9] (by kernel_rfl) ⟨⟨_,rfl,?_⟩,⟨_,rfl,?_⟩,⟨_,rfl,?_⟩,trivial⟩
   ·skip
    refine RL.ldPx (off:=(0+2)) (e':=u0a) 0 Ex.raw z1p rfl rfl ol rfl PtOf.obox (Part.snd (Part.snd Part.self)) (RL.fin (RA.next (RA.rl 7 q_26 ?_)))
    exact St.via [0,1,2,3,4] h140
   ·skip
    refine RL.cat rfl rfl rfl rfl e108 (RL.fin (RA.next (RA.rl 7 q_34 ?_)))
    exact St.via [0,1,2,3,4] h148
   refine RL.ldPx (off:=(0+1)) (e':=x1.2.1) 4 Ex.ik zd rfl rfl ol rfl PtOf.obox (Part.snd (Part.fst Part.self)) (RL.fin (RA.next (RA.rl 7 q_25 ?_)))
   exact St.via [0,1,2,3] h139
  refine RA.meetU [(0,v0),(5,v12),(25,adr v0 (0+2)),(27,adr v4 (0+2)),(32,.int .i64 x1.2.1)] [obox 87 TrH v0 (x0.1,(x0.2.1,u0a)),obox 98 TrL u0a x0.2.2,keep X,own 94 TrA v12 y10.1,obox 30 TrE v4 x1] 8 q_49 (fun h163=>?_) ?_
  rotate_left
  ·refine RA.many [3,5,10] (by kernel_rfl) ⟨⟨_,rfl,?_⟩,⟨_,rfl,?_⟩,⟨_,rfl,?_⟩,trivial⟩
   ·skip
    refine RL.ldPx (off:=(0+2)) (e':=u0a) 0 Ex.raw z1p rfl rfl ol rfl PtOf.obox (Part.snd (Part.snd Part.self)) (RL.fin (RA.next (RA.rl 7 q_29 ?_)))
    exact St.via [0,1,2,3,4] h143
   ·skip
    refine RL.ldPx (off:=(0+2)) (e':=x1.2.2.1) 4 Ex.str zh rfl rfl ol rfl PtOf.obox (Part.snd (Part.snd (Part.fst Part.self))) (RL.fin (RA.next (RA.rl 7 q_25 ?_)))
    exact St.via [0,1,2,3] h139
   refine RL.callV (v:=(sv y111)) (vs:=[.int .i64 x1.2.1]) z1v rfl ol rfl rfl rfl rfl (fun U w hU hW hL=>z11 U w hU (hT.mono hW) x1.2.1 _ e112) (RL.fin (RA.next (RA.rl 7 q_30 ?_)))
   exact St.via [0,1,2,3,4] h144
  refine RA.meetU [(0,v0),(5,v12),(23,v0),(28,(sv x1.2.2.1)),(33,(sv y111))] [obox 87 TrH v0 (x0.1,(x0.2.1,u0a)),obox 98 TrL u0a x0.2.2,keep X,own 94 TrA v12 y10.1] 8 q_50 (fun h164=>?_) ?_
  rotate_left
  ·refine RA.many [1,6] (by kernel_rfl) ⟨⟨_,rfl,?_⟩,⟨_,rfl,?_⟩,trivial⟩
   ·skip
    refine RL.nilk 0 rfl rfl rfl rfl PtOf.obox (RL.fin (RA.next (RA.rl 7 q_36 ?_)))
    exact St.via [0,1,2,3] h150
   refine RL.cat rfl rfl rfl rfl e108 (RL.fin (RA.next (RA.rl 7 q_31 ?_)))
   exact St.via [0,1,2,3] h145
  refine RA.meetU [(0,v0),(3,v4),(5,v12),(26,u0a),(28,(sv x1.2.2.1))] [obox 87 TrH v0 (x0.1,(x0.2.1,u0a)),obox 98 TrL u0a x0.2.2,keep X,obox 30 TrE v4 x1,own 94 TrA v12 y10.1] 8 q_51 (fun h165=>?_) ?_
  rotate_left
  ·refine RA.many [6,8] (by kernel_rfl) ⟨⟨_,rfl,?_⟩,⟨_,rfl,?_⟩,trivial⟩
   ·skip
    refine RL.cat rfl rfl rfl rfl e108 (RL.fin (RA.next (RA.rl 7 q_28 ?_)))
    exact St.via [0,1,2,3,4] h142
   refine RL.fadr (off:=0) (fo:=1) 3 z1a rfl rfl rfl PtOf.obox oi (RL.fin (RA.next (RA.rl 7 q_26 ?_)))
   exact St.via [0,1,2,4,3] h140
  refine RA.meetU [(0,v0),(3,v4),(5,v12),(24,v0),(29,(sv (([111,32]:B8)++x1.2.2.1)))] [obox 87 TrH v0 (x0.1,(x0.2.1,u0a)),obox 98 TrL u0a x0.2.2,keep X,obox 30 TrE v4 x1,own 94 TrA v12 y10.1] 9 q_52 (fun h166=>?_) ?_
  rotate_left
  ·refine RA.many [2,7,8] (by kernel_rfl) ⟨⟨_,rfl,?_⟩,⟨_,rfl,?_⟩,⟨_,rfl,?_⟩,trivial⟩
   ·skip
    refine RL.fadr (off:=0) (fo:=2) 0 z10 rfl rfl rfl PtOf.obox oi (RL.fin (RA.next (RA.rl 8 q_41 ?_)))
    exact St.via [0,1,2,3,4] h155
   ·skip
    refine RL.cat rfl rfl rfl rfl e110 (RL.fin (RA.next (RA.rl 8 q_46 ?_)))
    exact St.via [0,1,2,3,4] h160
   refine RL.fadr (off:=0) (fo:=1) 3 z1a rfl rfl rfl PtOf.obox oi (RL.fin (RA.next (RA.rl 8 q_38 ?_)))
   exact St.via [0,1,2,4,3] h152
  refine RA.meetU [(0,v0),(3,v4),(5,v12),(23,v0),(30,(sv ((([111,32]:B8)++x1.2.2.1)++([32]:B8))))] [obox 87 TrH v0 (x0.1,(x0.2.1,u0a)),obox 98 TrL u0a x0.2.2,keep X,obox 30 TrE v4 x1,own 94 TrA v12 y10.1] 9 q_53 (fun h167=>?_) ?_
  rotate_left
  ·refine RA.many [1,8] (by kernel_rfl) ⟨⟨_,rfl,?_⟩,⟨_,rfl,?_⟩,trivial⟩
   ·skip
    refine RL.nilk 0 rfl rfl rfl rfl PtOf.obox (RL.fin (RA.next (RA.rl 8 q_46 ?_)))
    exact St.via [0,1,2,3,4] h160
   refine RL.fadr (off:=0) (fo:=1) 3 z1a rfl rfl rfl PtOf.obox oi (RL.fin (RA.next (RA.rl 8 q_42 ?_)))
   exact St.via [0,1,2,4,3] h156
  refine RA.meetU [(0,v0),(3,v4),(5,v12),(26,u0a),(27,adr v4 (0+2))] [obox 87 TrH v0 (x0.1,(x0.2.1,u0a)),obox 98 TrL u0a x0.2.2,keep X,obox 30 TrE v4 x1,own 94 TrA v12 y10.1] 9 q_54 (fun h168=>?_) ?_
  rotate_left
  ·refine RA.many [5,8] (by kernel_rfl) ⟨⟨_,rfl,?_⟩,⟨_,rfl,?_⟩,trivial⟩
   ·skip
    refine RL.ldPx (off:=(0+2)) (e':=x1.2.2.1) 3 Ex.str zh rfl rfl ol rfl PtOf.obox (Part.snd (Part.snd (Part.fst Part.self))) (RL.fin (RA.next (RA.rl 8 q_51 ?_)))
    exact St.via [0,1,2,3,4] h165
   refine RL.fadr (off:=0) (fo:=1) 3 z1a rfl rfl rfl PtOf.obox oi (RL.fin (RA.next (RA.rl 8 q_47 ?_)))
   exact St.via [0,1,2,4,3] h161
  refine RA.meetU [(0,v0),(5,v12),(25,adr v0 (0+2)),(27,adr v4 (0+2)),(31,adr v4 (0+1))] [obox 87 TrH v0 (x0.1,(x0.2.1,u0a)),obox 98 TrL u0a x0.2.2,keep X,own 94 TrA v12 y10.1,obox 30 TrE v4 x1] 9 q_55 (fun h169=>?_) ?_
  rotate_left
  ·refine RA.many [3,5,9] (by kernel_rfl) ⟨⟨_,rfl,?_⟩,⟨_,rfl,?_⟩,⟨_,rfl,?_⟩,trivial⟩
   ·skip
    refine RL.ldPx (off:=(0+2)) (e':=u0a) 0 Ex.raw z1p rfl rfl ol rfl PtOf.obox (Part.snd (Part.snd Part.self)) (RL.fin (RA.next (RA.rl 8 q_47 ?_)))
    exact St.via [0,1,2,3,4] h161
   ·skip
    refine RL.ldPx (off:=(0+2)) (e':=x1.2.2.1) 4 Ex.str zh rfl rfl ol rfl PtOf.obox (Part.snd (Part.snd (Part.fst Part.self))) (RL.fin (RA.next (RA.rl 8 q_48 ?_)))
    exact St.via [0,1,2,3,4] h162
   refine RL.ldPx (off:=(0+1)) (e':=x1.2.1) 4 Ex.ik zd rfl rfl ol rfl PtOf.obox (Part.snd (Part.fst Part.self)) (RL.fin (RA.next (RA.rl 8 q_49 ?_)))
   exact St.via [0,1,2,3,4] h163
  refine RA.meetU [(0,v0),(3,v4),(5,v12),(24,v0),(33,(sv y111))] [obox 87 TrH v0 (x0.1,(x0.2.1,u0a)),obox 98 TrL u0a x0.2.2,keep X,obox 30 TrE v4 x1,own 94 TrA v12 y10.1] 9 q_56 (fun h170=>?_) ?_
  rotate_left
  ·refine RA.many [2,4] (by kernel_rfl) ⟨⟨_,rfl,?_⟩,⟨_,rfl,?_⟩,trivial⟩
   ·skip
    refine RL.fadr (off:=0) (fo:=2) 0 z10 rfl rfl rfl PtOf.obox oi (RL.fin (RA.next (RA.rl 8 q_39 ?_)))
    exact St.via [0,1,2,3,4] h153
   refine RL.fadr (off:=0) (fo:=2) 3 z1d rfl rfl rfl PtOf.obox oi (RL.fin (RA.next (RA.rl 8 q_45 ?_)))
   exact St.via [0,1,2,4,3] h159
  refine RA.meetU [(0,v0),(5,v12),(24,v0),(28,(sv x1.2.2.1)),(31,adr v4 (0+1))] [obox 87 TrH v0 (x0.1,(x0.2.1,u0a)),obox 98 TrL u0a x0.2.2,keep X,own 94 TrA v12 y10.1,obox 30 TrE v4 x1] 9 q_57 (fun h171=>?_) ?_
  rotate_left
  ·refine RA.many [2,6,9] (by kernel_rfl) ⟨⟨_,rfl,?_⟩,⟨_,rfl,?_⟩,⟨_,rfl,?_⟩,trivial⟩
   ·skip
    refine RL.fadr (off:=0) (fo:=2) 0 z10 rfl rfl rfl PtOf.obox oi (RL.fin (RA.next (RA.rl 8 q_48 ?_)))
    exact St.via [0,1,2,3,4] h162
   ·skip
    refine RL.cat rfl rfl rfl rfl e108 (RL.fin (RA.next (RA.rl 8 q_38 ?_)))
    exact St.via [0,1,2,3,4] h152
   refine RL.ldPx (off:=(0+1)) (e':=x1.2.1) 4 Ex.ik zd rfl rfl ol rfl PtOf.obox (Part.snd (Part.fst Part.self)) (RL.fin (RA.next (RA.rl 8 q_44 ?_)))
   exact St.via [0,1,2,3] h158
  refine RA.meetU [(0,v0),(5,v12),(23,v0),(29,(sv (([111,32]:B8)++x1.2.2.1))),(31,adr v4 (0+1))] [obox 87 TrH v0 (x0.1,(x0.2.1,u0a)),obox 98 TrL u0a x0.2.2,keep X,own 94 TrA v12 y10.1,obox 30 TrE v4 x1] 9 q_58 (fun h172=>?_) ?_
  rotate_left
  ·refine RA.many [1,7,9] (by kernel_rfl) ⟨⟨_,rfl,?_⟩,⟨_,rfl,?_⟩,⟨_,rfl,?_⟩,trivial⟩
   ·skip
    refine RL.nilk 0 rfl rfl rfl rfl PtOf.obox (RL.fin (RA.next (RA.rl 8 q_38 ?_)))
    exact St.via [0,1,2,3,4] h152
   ·skip
    refine RL.cat rfl rfl rfl rfl e110 (RL.fin (RA.next (RA.rl 8 q_42 ?_)))
    exact St.via [0,1,2,3,4] h156
   refine RL.ldPx (off:=(0+1)) (e':=x1.2.1) 4 Ex.ik zd rfl rfl ol rfl PtOf.obox (Part.snd (Part.fst Part.self)) (RL.fin (RA.next (RA.rl 8 q_40 ?_)))
   exact St.via [0,1,2,3] h154
  refine RA.meetU [(0,v0),(3,v4),(5,v12),(25,adr v0 (0+2)),(28,(sv x1.2.2.1))] [obox 87 TrH v0 (x0.1,(x0.2.1,u0a)),obox 98 TrL u0a x0.2.2,keep X,obox 30 TrE v4 x1,own 94 TrA v12 y10.1] 9 q_59 (fun h173=>?_) ?_
  rotate_left
  ·refine RA.many [3,6,8] (by kernel_rfl) ⟨⟨_,rfl,?_⟩,⟨_,rfl,?_⟩,⟨_,rfl,?_⟩,trivial⟩
   ·skip
    refine RL.ldPx (off:=(0+2)) (e':=u0a) 0 Ex.raw z1p rfl rfl ol rfl PtOf.obox (Part.snd (Part.snd Part.self)) (RL.fin (RA.next (RA.rl 8 q_51 ?_)))
    exact St.via [0,1,2,3,4] h165
   ·skip
    refine RL.cat rfl rfl rfl rfl e108 (RL.fin (RA.next (RA.rl 8 q_41 ?_)))
    exact St.via [0,1,2,3,4] h155
   refine RL.fadr (off:=0) (fo:=1) 3 z1a rfl rfl rfl PtOf.obox oi (RL.fin (RA.next (RA.rl 8 q_48 ?_)))
   exact St.via [0,1,2,4,3] h162
  refine RA.meetU [(0,v0),(5,v12),(23,v0),(28,(sv x1.2.2.1)),(32,.int .i64 x1.2.1)] [obox 87 TrH v0 (x0.1,(x0.2.1,u0a)),obox 98 TrL u0a x0.2.2,keep X,own 94 TrA v12 y10.1] 9 q_60 (fun h174=>?_) ?_
  rotate_left
  ·refine RA.many [1,6,10] (by kernel_rfl) ⟨⟨_,rfl,?_⟩,⟨_,rfl,?_⟩,⟨_,rfl,?_⟩,trivial⟩
   ·skip
    refine RL.nilk 0 rfl rfl rfl rfl PtOf.obox (RL.fin (RA.next (RA.rl 8 q_44 ?_)))
    exact St.via [0,1,2,3] h158
   ·skip
    refine RL.cat rfl rfl rfl rfl e108 (RL.fin (RA.next (RA.rl 8 q_40 ?_)))
    exact St.via [0,1,2,3] h154
   refine RL.callV (v:=(sv y111)) (vs:=[.int .i64 x1.2.1]) z1v rfl ol rfl rfl rfl rfl (fun U w hU hW hL=>z11 U w hU (hT.mono hW) x1.2.1 _ e112) (RL.fin (RA.next (RA.rl 8 q_50 ?_)))
   exact St.via [0,1,2,3] h164
  refine RA.meetU [(0,v0),(5,v12),(23,v0),(27,adr v4 (0+2)),(33,(sv y111))] [obox 87 TrH v0 (x0.1,(x0.2.1,u0a)),obox 98 TrL u0a x0.2.2,keep X,own 94 TrA v12 y10.1,obox 30 TrE v4 x1] 9 q_61 (fun h175=>?_) ?_
  rotate_left
  ·refine RA.many [1,5] (by kernel_rfl) ⟨⟨_,rfl,?_⟩,⟨_,rfl,?_⟩,trivial⟩
   ·skip
    refine RL.nilk 0 rfl rfl rfl rfl PtOf.obox (RL.fin (RA.next (RA.rl 8 q_45 ?_)))
    exact St.via [0,1,2,3,4] h159
   refine RL.ldPx (off:=(0+2)) (e':=x1.2.2.1) 4 Ex.str zh rfl rfl ol rfl PtOf.obox (Part.snd (Part.snd (Part.fst Part.self))) (RL.fin (RA.next (RA.rl 8 q_50 ?_)))
   exact St.via [0,1,2,3] h164
  refine RA.meetU [(0,v0),(3,v4),(5,v12),(25,adr v0 (0+2)),(32,.int .i64 x1.2.1)] [obox 87 TrH v0 (x0.1,(x0.2.1,u0a)),obox 98 TrL u0a x0.2.2,keep X,obox 30 TrE v4 x1,own 94 TrA v12 y10.1] 9 q_62 (fun h176=>?_) ?_
  rotate_left
  ·refine RA.many [3,4,10] (by kernel_rfl) ⟨⟨_,rfl,?_⟩,⟨_,rfl,?_⟩,⟨_,rfl,?_⟩,trivial⟩
   ·skip
    refine RL.ldPx (off:=(0+2)) (e':=u0a) 0 Ex.raw z1p rfl rfl ol rfl PtOf.obox (Part.snd (Part.snd Part.self)) (RL.fin (RA.next (RA.rl 8 q_43 ?_)))
    exact St.via [0,1,2,3,4] h157
   ·skip
    refine RL.fadr (off:=0) (fo:=2) 3 z1d rfl rfl rfl PtOf.obox oi (RL.fin (RA.next (RA.rl 8 q_49 ?_)))
    exact St.via [0,1,2,4,3] h163
   refine RL.callV (v:=(sv y111)) (vs:=[.int .i64 x1.2.1]) z1v rfl ol rfl rfl rfl rfl (fun U w hU hW hL=>z11 U w hU (hT.mono hW) x1.2.1 _ e112) (RL.fin (RA.next (RA.rl 8 q_39 ?_)))
   exact St.via [0,1,2,3,4] h153
  refine RA.meetU [(0,v0),(3,v4),(5,v12),(26,u0a),(31,adr v4 (0+1))] [obox 87 TrH v0 (x0.1,(x0.2.1,u0a)),obox 98 TrL u0a x0.2.2,keep X,obox 30 TrE v4 x1,own 94 TrA v12 y10.1] 9 q_63 (fun h177=>?_) ?_
  rotate_left
  ·refine RA.many [4,9] (by kernel_rfl) ⟨⟨_,rfl,?_⟩,⟨_,rfl,?_⟩,trivial⟩
   ·skip
    refine RL.fadr (off:=0) (fo:=2) 3 z1d rfl rfl rfl PtOf.obox oi (RL.fin (RA.next (RA.rl 8 q_47 ?_)))
    exact St.via [0,1,2,4,3] h161
   refine RL.ldPx (off:=(0+1)) (e':=x1.2.1) 3 Ex.ik zd rfl rfl ol rfl PtOf.obox (Part.snd (Part.fst Part.self)) (RL.fin (RA.next (RA.rl 8 q_43 ?_)))
   exact St.via [0,1,2,3,4] h157
  refine RA.meetU [(0,v0),(5,v12),(24,v0),(27,adr v4 (0+2)),(32,.int .i64 x1.2.1)] [obox 87 TrH v0 (x0.1,(x0.2.1,u0a)),obox 98 TrL u0a x0.2.2,keep X,own 94 TrA v12 y10.1,obox 30 TrE v4 x1] 9 q_64 (fun h178=>?_) ?_
  rotate_left
  ·refine RA.many [2,5,10] (by kernel_rfl) ⟨⟨_,rfl,?_⟩,⟨_,rfl,?_⟩,⟨_,rfl,?_⟩,trivial⟩
   ·skip
    refine RL.fadr (off:=0) (fo:=2) 0 z10 rfl rfl rfl PtOf.obox oi (RL.fin (RA.next (RA.rl 8 q_49 ?_)))
    exact St.via [0,1,2,3,4] h163
   ·skip
    refine RL.ldPx (off:=(0+2)) (e':=x1.2.2.1) 4 Ex.str zh rfl rfl ol rfl PtOf.obox (Part.snd (Part.snd (Part.fst Part.self))) (RL.fin (RA.next (RA.rl 8 q_44 ?_)))
    exact St.via [0,1,2,3] h158
   refine RL.callV (v:=(sv y111)) (vs:=[.int .i64 x1.2.1]) z1v rfl ol rfl rfl rfl rfl (fun U w hU hW hL=>z11 U w hU (hT.mono hW) x1.2.1 _ e112) (RL.fin (RA.next (RA.rl 8 q_45 ?_)))
   exact St.via [0,1,2,3,4] h159
  refine RA.meetU [(0,v0),(3,v4),(5,v12),(25,adr v0 (0+2)),(31,adr v4 (0+1))] [obox 87 TrH v0 (x0.1,(x0.2.1,u0a)),obox 98 TrL u0a x0.2.2,keep X,obox 30 TrE v4 x1,own 94 TrA v12 y10.1] 10 q_65 (fun h179=>?_) ?_
  rotate_left
  ·refine RA.many [3,4,9] (by kernel_rfl) ⟨⟨_,rfl,?_⟩,⟨_,rfl,?_⟩,⟨_,rfl,?_⟩,trivial⟩
   ·skip
    refine RL.ldPx (off:=(0+2)) (e':=u0a) 0 Ex.raw z1p rfl rfl ol rfl PtOf.obox (Part.snd (Part.snd Part.self)) (RL.fin (RA.next (RA.rl 9 q_63 ?_)))
    exact St.via [0,1,2,3,4] h177
   ·skip
    refine RL.fadr (off:=0) (fo:=2) 3 z1d rfl rfl rfl PtOf.obox oi (RL.fin (RA.next (RA.rl 9 q_55 ?_)))
    exact St.via [0,1,2,4,3] h169
   refine RL.ldPx (off:=(0+1)) (e':=x1.2.1) 3 Ex.ik zd rfl rfl ol rfl PtOf.obox (Part.snd (Part.fst Part.self)) (RL.fin (RA.next (RA.rl 9 q_62 ?_)))
   exact St.via [0,1,2,3,4] h176
  refine RA.meetU [(0,v0),(3,v4),(5,v12),(25,adr v0 (0+2)),(27,adr v4 (0+2))] [obox 87 TrH v0 (x0.1,(x0.2.1,u0a)),obox 98 TrL u0a x0.2.2,keep X,obox 30 TrE v4 x1,own 94 TrA v12 y10.1] 10 q_66 (fun h180=>?_) ?_
  rotate_left
  ·refine RA.many [3,5,8] (by kernel_rfl) ⟨⟨_,rfl,?_⟩,⟨_,rfl,?_⟩,⟨_,rfl,?_⟩,trivial⟩
   ·skip
    refine RL.ldPx (off:=(0+2)) (e':=u0a) 0 Ex.raw z1p rfl rfl ol rfl PtOf.obox (Part.snd (Part.snd Part.self)) (RL.fin (RA.next (RA.rl 9 q_54 ?_)))
    exact St.via [0,1,2,3,4] h168
   ·skip
    refine RL.ldPx (off:=(0+2)) (e':=x1.2.2.1) 3 Ex.str zh rfl rfl ol rfl PtOf.obox (Part.snd (Part.snd (Part.fst Part.self))) (RL.fin (RA.next (RA.rl 9 q_59 ?_)))
    exact St.via [0,1,2,3,4] h173
   refine RL.fadr (off:=0) (fo:=1) 3 z1a rfl rfl rfl PtOf.obox oi (RL.fin (RA.next (RA.rl 9 q_55 ?_)))
   exact St.via [0,1,2,4,3] h169
  refine RA.meetU [(0,v0),(3,v4),(5,v12),(24,v0),(32,.int .i64 x1.2.1)] [obox 87 TrH v0 (x0.1,(x0.2.1,u0a)),obox 98 TrL u0a x0.2.2,keep X,obox 30 TrE v4 x1,own 94 TrA v12 y10.1] 10 q_67 (fun h181=>?_) ?_
  rotate_left
  ·refine RA.many [2,4,10] (by kernel_rfl) ⟨⟨_,rfl,?_⟩,⟨_,rfl,?_⟩,⟨_,rfl,?_⟩,trivial⟩
   ·skip
    refine RL.fadr (off:=0) (fo:=2) 0 z10 rfl rfl rfl PtOf.obox oi (RL.fin (RA.next (RA.rl 9 q_62 ?_)))
    exact St.via [0,1,2,3,4] h176
   ·skip
    refine RL.fadr (off:=0) (fo:=2) 3 z1d rfl rfl rfl PtOf.obox oi (RL.fin (RA.next (RA.rl 9 q_64 ?_)))
    exact St.via [0,1,2,4,3] h178
   refine RL.callV (v:=(sv y111)) (vs:=[.int .i64 x1.2.1]) z1v rfl ol rfl rfl rfl rfl (fun U w hU hW hL=>z11 U w hU (hT.mono hW) x1.2.1 _ e112) (RL.fin (RA.next (RA.rl 9 q_56 ?_)))
   exact St.via [0,1,2,3,4] h170
  refine RA.meetU [(0,v0),(3,v4),(5,v12),(23,v0),(33,(sv y111))] [obox 87 TrH v0 (x0.1,(x0.2.1,u0a)),obox 98 TrL u0a x0.2.2,keep X,obox 30 TrE v4 x1,own 94 TrA v12 y10.1] 10 q_68 (fun h182=>?_) ?_
  rotate_left
  ·refine RA.many [1,4] (by kernel_rfl) ⟨⟨_,rfl,?_⟩,⟨_,rfl,?_⟩,trivial⟩
   ·skip
    refine RL.nilk 0 rfl rfl rfl rfl PtOf.obox (RL.fin (RA.next (RA.rl 9 q_56 ?_)))
    exact St.via [0,1,2,3,4] h170
   refine RL.fadr (off:=0) (fo:=2) 3 z1d rfl rfl rfl PtOf.obox oi (RL.fin (RA.next (RA.rl 9 q_61 ?_)))
   exact St.via [0,1,2,4,3] h175
  refine RA.meetU [(0,v0),(5,v12),(23,v0),(27,adr v4 (0+2)),(32,.int .i64 x1.2.1)] [obox 87 TrH v0 (x0.1,(x0.2.1,u0a)),obox 98 TrL u0a x0.2.2,keep X,own 94 TrA v12 y10.1,obox 30 TrE v4 x1] 10 q_69 (fun h183=>?_) ?_
  rotate_left
  ·refine RA.many [1,5,10] (by kernel_rfl) ⟨⟨_,rfl,?_⟩,⟨_,rfl,?_⟩,⟨_,rfl,?_⟩,trivial⟩
   ·skip
    refine RL.nilk 0 rfl rfl rfl rfl PtOf.obox (RL.fin (RA.next (RA.rl 9 q_64 ?_)))
    exact St.via [0,1,2,3,4] h178
   ·skip
    refine RL.ldPx (off:=(0+2)) (e':=x1.2.2.1) 4 Ex.str zh rfl rfl ol rfl PtOf.obox (Part.snd (Part.snd (Part.fst Part.self))) (RL.fin (RA.next (RA.rl 9 q_60 ?_)))
    exact St.via [0,1,2,3] h174
   refine RL.callV (v:=(sv y111)) (vs:=[.int .i64 x1.2.1]) z1v rfl ol rfl rfl rfl rfl (fun U w hU hW hL=>z11 U w hU (hT.mono hW) x1.2.1 _ e112) (RL.fin (RA.next (RA.rl 9 q_61 ?_)))
   exact St.via [0,1,2,3,4] h175
  refine RA.meetU [(0,v0),(3,v4),(5,v12),(26,u0a)] [obox 87 TrH v0 (x0.1,(x0.2.1,u0a)),obox 98 TrL u0a x0.2.2,keep X,obox 30 TrE v4 x1,own 94 TrA v12 y10.1] 10 q_70 (fun h184=>?_) ?_
  rotate_left
  ·refine RA.many [4,8] (by kernel_rfl) ⟨⟨_,rfl,?_⟩,⟨_,rfl,?_⟩,trivial⟩
   ·skip
    refine RL.fadr (off:=0) (fo:=2) 3 z1d rfl rfl rfl PtOf.obox oi (RL.fin (RA.next (RA.rl 9 q_54 ?_)))
    exact St.via [0,1,2,3,4] h168
   refine RL.fadr (off:=0) (fo:=1) 3 z1a rfl rfl rfl PtOf.obox oi (RL.fin (RA.next (RA.rl 9 q_63 ?_)))
   exact St.via [0,1,2,3,4] h177
  refine RA.meetU [(0,v0),(3,v4),(5,v12),(24,v0),(28,(sv x1.2.2.1))] [obox 87 TrH v0 (x0.1,(x0.2.1,u0a)),obox 98 TrL u0a x0.2.2,keep X,obox 30 TrE v4 x1,own 94 TrA v12 y10.1] 10 q_71 (fun h185=>?_) ?_
  rotate_left
  ·refine RA.many [2,6,8] (by kernel_rfl) ⟨⟨_,rfl,?_⟩,⟨_,rfl,?_⟩,⟨_,rfl,?_⟩,trivial⟩
   ·skip
    refine RL.fadr (off:=0) (fo:=2) 0 z10 rfl rfl rfl PtOf.obox oi (RL.fin (RA.next (RA.rl 9 q_59 ?_)))
    exact St.via [0,1,2,3,4] h173
   ·skip
    refine RL.cat rfl rfl rfl rfl e108 (RL.fin (RA.next (RA.rl 9 q_52 ?_)))
    exact St.via [0,1,2,3,4] h166
   refine RL.fadr (off:=0) (fo:=1) 3 z1a rfl rfl rfl PtOf.obox oi (RL.fin (RA.next (RA.rl 9 q_57 ?_)))
   exact St.via [0,1,2,4,3] h171
  refine RA.meetU [(0,v0),(5,v12),(23,v0),(28,(sv x1.2.2.1)),(31,adr v4 (0+1))] [obox 87 TrH v0 (x0.1,(x0.2.1,u0a)),obox 98 TrL u0a x0.2.2,keep X,own 94 TrA v12 y10.1,obox 30 TrE v4 x1] 10 q_72 (fun h186=>?_) ?_
  rotate_left
  ·refine RA.many [1,6,9] (by kernel_rfl) ⟨⟨_,rfl,?_⟩,⟨_,rfl,?_⟩,⟨_,rfl,?_⟩,trivial⟩
   ·skip
    refine RL.nilk 0 rfl rfl rfl rfl PtOf.obox (RL.fin (RA.next (RA.rl 9 q_57 ?_)))
    exact St.via [0,1,2,3,4] h171
   ·skip
    refine RL.cat rfl rfl rfl rfl e108 (RL.fin (RA.next (RA.rl 9 q_58 ?_)))
    exact St.via [0,1,2,3,4] h172
   refine RL.ldPx (off:=(0+1)) (e':=x1.2.1) 4 Ex.ik zd rfl rfl ol rfl PtOf.obox (Part.snd (Part.fst Part.self)) (RL.fin (RA.next (RA.rl 9 q_60 ?_)))
   exact St.via [0,1,2,3] h174
  refine RA.meetU [(0,v0),(5,v12),(24,v0),(27,adr v4 (0+2)),(31,adr v4 (0+1))] [obox 87 TrH v0 (x0.1,(x0.2.1,u0a)),obox 98 TrL u0a x0.2.2,keep X,own 94 TrA v12 y10.1,obox 30 TrE v4 x1] 10 q_73 (fun h187=>?_) ?_
  rotate_left
  ·refine RA.many [2,5,9] (by kernel_rfl) ⟨⟨_,rfl,?_⟩,⟨_,rfl,?_⟩,⟨_,rfl,?_⟩,trivial⟩
   ·skip
    refine RL.fadr (off:=0) (fo:=2) 0 z10 rfl rfl rfl PtOf.obox oi (RL.fin (RA.next (RA.rl 9 q_55 ?_)))
    exact St.via [0,1,2,3,4] h169
   ·skip
    refine RL.ldPx (off:=(0+2)) (e':=x1.2.2.1) 4 Ex.str zh rfl rfl ol rfl PtOf.obox (Part.snd (Part.snd (Part.fst Part.self))) (RL.fin (RA.next (RA.rl 9 q_57 ?_)))
    exact St.via [0,1,2,3,4] h171
   refine RL.ldPx (off:=(0+1)) (e':=x1.2.1) 4 Ex.ik zd rfl rfl ol rfl PtOf.obox (Part.snd (Part.fst Part.self)) (RL.fin (RA.next (RA.rl 9 q_64 ?_)))
   exact St.via [0,1,2,3,4] h178
  refine RA.meetU [(0,v0),(3,v4),(5,v12),(23,v0),(29,(sv (([111,32]:B8)++x1.2.2.1)))] [obox 87 TrH v0 (x0.1,(x0.2.1,u0a)),obox 98 TrL u0a x0.2.2,keep X,obox 30 TrE v4 x1,own 94 TrA v12 y10.1] 10 q_74 (fun h188=>?_) ?_
  rotate_left
  ·refine RA.many [1,7,8] (by kernel_rfl) ⟨⟨_,rfl,?_⟩,⟨_,rfl,?_⟩,⟨_,rfl,?_⟩,trivial⟩
   ·skip
    refine RL.nilk 0 rfl rfl rfl rfl PtOf.obox (RL.fin (RA.next (RA.rl 9 q_52 ?_)))
    exact St.via [0,1,2,3,4] h166
   ·skip
    refine RL.cat rfl rfl rfl rfl e110 (RL.fin (RA.next (RA.rl 9 q_53 ?_)))
    exact St.via [0,1,2,3,4] h167
   refine RL.fadr (off:=0) (fo:=1) 3 z1a rfl rfl rfl PtOf.obox oi (RL.fin (RA.next (RA.rl 9 q_58 ?_)))
   exact St.via [0,1,2,4,3] h172
  refine RA.meetU [(0,v0),(5,v12),(23,v0),(27,adr v4 (0+2)),(31,adr v4 (0+1))] [obox 87 TrH v0 (x0.1,(x0.2.1,u0a)),obox 98 TrL u0a x0.2.2,keep X,own 94 TrA v12 y10.1,obox 30 TrE v4 x1] 11 q_75 (fun h189=>?_) ?_
  rotate_left
  ·refine RA.many [1,5,9] (by kernel_rfl) ⟨⟨_,rfl,?_⟩,⟨_,rfl,?_⟩,⟨_,rfl,?_⟩,trivial⟩
   ·skip
    refine RL.nilk 0 rfl rfl rfl rfl PtOf.obox (RL.fin (RA.next (RA.rl 10 q_73 ?_)))
    exact St.via [0,1,2,3,4] h187
   ·skip
    refine RL.ldPx (off:=(0+2)) (e':=x1.2.2.1) 4 Ex.str zh rfl rfl ol rfl PtOf.obox (Part.snd (Part.snd (Part.fst Part.self))) (RL.fin (RA.next (RA.rl 10 q_72 ?_)))
    exact St.via [0,1,2,3,4] h186
   refine RL.ldPx (off:=(0+1)) (e':=x1.2.1) 4 Ex.ik zd rfl rfl ol rfl PtOf.obox (Part.snd (Part.fst Part.self)) (RL.fin (RA.next (RA.rl 10 q_69 ?_)))
   exact St.via [0,1,2,3,4] h183
  refine RA.meetU [(0,v0),(3,v4),(5,v12),(23,v0),(28,(sv x1.2.2.1))] [obox 87 TrH v0 (x0.1,(x0.2.1,u0a)),obox 98 TrL u0a x0.2.2,keep X,obox 30 TrE v4 x1,own 94 TrA v12 y10.1] 11 q_76 (fun h190=>?_) ?_
  rotate_left
  ·refine RA.many [1,6,8] (by kernel_rfl) ⟨⟨_,rfl,?_⟩,⟨_,rfl,?_⟩,⟨_,rfl,?_⟩,trivial⟩
   ·skip
    refine RL.nilk 0 rfl rfl rfl rfl PtOf.obox (RL.fin (RA.next (RA.rl 10 q_71 ?_)))
    exact St.via [0,1,2,3,4] h185
   ·skip
    refine RL.cat rfl rfl rfl rfl e108 (RL.fin (RA.next (RA.rl 10 q_74 ?_)))
    exact St.via [0,1,2,3,4] h188
   refine RL.fadr (off:=0) (fo:=1) 3 z1a rfl rfl rfl PtOf.obox oi (RL.fin (RA.next (RA.rl 10 q_72 ?_)))
   exact St.via [0,1,2,4,3] h186
  refine RA.meetU [(0,v0),(3,v4),(5,v12),(25,adr v0 (0+2))] [obox 87 TrH v0 (x0.1,(x0.2.1,u0a)),obox 98 TrL u0a x0.2.2,keep X,obox 30 TrE v4 x1,own 94 TrA v12 y10.1] 11 q_77 (fun h191=>?_) ?_
  rotate_left
  ·refine RA.many [3,4,8] (by kernel_rfl) ⟨⟨_,rfl,?_⟩,⟨_,rfl,?_⟩,⟨_,rfl,?_⟩,trivial⟩
   ·skip
    refine RL.ldPx (off:=(0+2)) (e':=u0a) 0 Ex.raw z1p rfl rfl ol rfl PtOf.obox (Part.snd (Part.snd Part.self)) (RL.fin (RA.next (RA.rl 10 q_70 ?_)))
    exact St.via [0,1,2,3,4] h184
   ·skip
    refine RL.fadr (off:=0) (fo:=2) 3 z1d rfl rfl rfl PtOf.obox oi (RL.fin (RA.next (RA.rl 10 q_66 ?_)))
    exact St.via [0,1,2,3,4] h180
   refine RL.fadr (off:=0) (fo:=1) 3 z1a rfl rfl rfl PtOf.obox oi (RL.fin (RA.next (RA.rl 10 q_65 ?_)))
   exact St.via [0,1,2,3,4] h179
  refine RA.meetU [(0,v0),(3,v4),(5,v12),(23,v0),(32,.int .i64 x1.2.1)] [obox 87 TrH v0 (x0.1,(x0.2.1,u0a)),obox 98 TrL u0a x0.2.2,keep X,obox 30 TrE v4 x1,own 94 TrA v12 y10.1] 11 q_78 (fun h192=>?_) ?_
  rotate_left
  ·refine RA.many [1,4,10] (by kernel_rfl) ⟨⟨_,rfl,?_⟩,⟨_,rfl,?_⟩,⟨_,rfl,?_⟩,trivial⟩
   ·skip
    refine RL.nilk 0 rfl rfl rfl rfl PtOf.obox (RL.fin (RA.next (RA.rl 10 q_67 ?_)))
    exact St.via [0,1,2,3,4] h181
   ·skip
    refine RL.fadr (off:=0) (fo:=2) 3 z1d rfl rfl rfl PtOf.obox oi (RL.fin (RA.next (RA.rl 10 q_69 ?_)))
    exact St.via [0,1,2,4,3] h183
   refine RL.callV (v:=(sv y111)) (vs:=[.int .i64 x1.2.1]) z1v rfl ol rfl rfl rfl rfl (fun U w hU hW hL=>z11 U w hU (hT.mono hW) x1.2.1 _ e112) (RL.fin (RA.next (RA.rl 10 q_68 ?_)))
   exact St.via [0,1,2,3,4] h182
  refine RA.meetU [(0,v0),(3,v4),(5,v12),(24,v0),(27,adr v4 (0+2))] [obox 87 TrH v0 (x0.1,(x0.2.1,u0a)),obox 98 TrL u0a x0.2.2,keep X,obox 30 TrE v4 x1,own 94 TrA v12 y10.1] 11 q_79 (fun h193=>?_) ?_
  rotate_left
  ·refine RA.many [2,5,8] (by kernel_rfl) ⟨⟨_,rfl,?_⟩,⟨_,rfl,?_⟩,⟨_,rfl,?_⟩,trivial⟩
   ·skip
    refine RL.fadr (off:=0) (fo:=2) 0 z10 rfl rfl rfl PtOf.obox oi (RL.fin (RA.next (RA.rl 10 q_66 ?_)))
    exact St.via [0,1,2,3,4] h180
   ·skip
    refine RL.ldPx (off:=(0+2)) (e':=x1.2.2.1) 3 Ex.str zh rfl rfl ol rfl PtOf.obox (Part.snd (Part.snd (Part.fst Part.self))) (RL.fin (RA.next (RA.rl 10 q_71 ?_)))
    exact St.via [0,1,2,3,4] h185
   refine RL.fadr (off:=0) (fo:=1) 3 z1a rfl rfl rfl PtOf.obox oi (RL.fin (RA.next (RA.rl 10 q_73 ?_)))
   exact St.via [0,1,2,4,3] h187
  refine RA.meetU [(0,v0),(3,v4),(5,v12),(24,v0),(31,adr v4 (0+1))] [obox 87 TrH v0 (x0.1,(x0.2.1,u0a)),obox 98 TrL u0a x0.2.2,keep X,obox 30 TrE v4 x1,own 94 TrA v12 y10.1] 11 q_80 (fun h194=>?_) ?_
  rotate_left
  ·refine RA.many [2,4,9] (by kernel_rfl) ⟨⟨_,rfl,?_⟩,⟨_,rfl,?_⟩,⟨_,rfl,?_⟩,trivial⟩
   ·skip
    refine RL.fadr (off:=0) (fo:=2) 0 z10 rfl rfl rfl PtOf.obox oi (RL.fin (RA.next (RA.rl 10 q_65 ?_)))
    exact St.via [0,1,2,3,4] h179
   ·skip
    refine RL.fadr (off:=0) (fo:=2) 3 z1d rfl rfl rfl PtOf.obox oi (RL.fin (RA.next (RA.rl 10 q_73 ?_)))
    exact St.via [0,1,2,4,3] h187
   refine RL.ldPx (off:=(0+1)) (e':=x1.2.1) 3 Ex.ik zd rfl rfl ol rfl PtOf.obox (Part.snd (Part.fst Part.self)) (RL.fin (RA.next (RA.rl 10 q_67 ?_)))
   exact St.via [0,1,2,3,4] h181
  refine RA.meetU [(0,v0),(3,v4),(5,v12),(24,v0)] [obox 87 TrH v0 (x0.1,(x0.2.1,u0a)),obox 98 TrL u0a x0.2.2,keep X,obox 30 TrE v4 x1,own 94 TrA v12 y10.1] 12 q_81 (fun h195=>?_) ?_
  rotate_left
  ·refine RA.many [2,4,8] (by kernel_rfl) ⟨⟨_,rfl,?_⟩,⟨_,rfl,?_⟩,⟨_,rfl,?_⟩,trivial⟩
   ·skip
    refine RL.fadr (off:=0) (fo:=2) 0 z10 rfl rfl rfl PtOf.obox oi (RL.fin (RA.next (RA.rl 11 q_77 ?_)))
    exact St.via [0,1,2,3,4] h191
   ·skip
    refine RL.fadr (off:=0) (fo:=2) 3 z1d rfl rfl rfl PtOf.obox oi (RL.fin (RA.next (RA.rl 11 q_79 ?_)))
    exact St.via [0,1,2,3,4] h193
   refine RL.fadr (off:=0) (fo:=1) 3 z1a rfl rfl rfl PtOf.obox oi (RL.fin (RA.next (RA.rl 11 q_80 ?_)))
   exact St.via [0,1,2,3,4] h194
  refine RA.meetU [(0,v0),(3,v4),(5,v12),(23,v0),(27,adr v4 (0+2))] [obox 87 TrH v0 (x0.1,(x0.2.1,u0a)),obox 98 TrL u0a x0.2.2,keep X,obox 30 TrE v4 x1,own 94 TrA v12 y10.1] 12 q_82 (fun h196=>?_) ?_
  rotate_left
  ·refine RA.many [1,5,8] (by kernel_rfl) ⟨⟨_,rfl,?_⟩,⟨_,rfl,?_⟩,⟨_,rfl,?_⟩,trivial⟩
   ·skip
    refine RL.nilk 0 rfl rfl rfl rfl PtOf.obox (RL.fin (RA.next (RA.rl 11 q_79 ?_)))
    exact St.via [0,1,2,3,4] h193
   ·skip
    refine RL.ldPx (off:=(0+2)) (e':=x1.2.2.1) 3 Ex.str zh rfl rfl ol rfl PtOf.obox (Part.snd (Part.snd (Part.fst Part.self))) (RL.fin (RA.next (RA.rl 11 q_76 ?_)))
    exact St.via [0,1,2,3,4] h190
   refine RL.fadr (off:=0) (fo:=1) 3 z1a rfl rfl rfl PtOf.obox oi (RL.fin (RA.next (RA.rl 11 q_75 ?_)))
   exact St.via [0,1,2,4,3] h189
  refine RA.meetU [(0,v0),(3,v4),(5,v12),(23,v0),(31,adr v4 (0+1))] [obox 87 TrH v0 (x0.1,(x0.2.1,u0a)),obox 98 TrL u0a x0.2.2,keep X,obox 30 TrE v4 x1,own 94 TrA v12 y10.1] 12 q_83 (fun h197=>?_) ?_
  rotate_left
  ·refine RA.many [1,4,9] (by kernel_rfl) ⟨⟨_,rfl,?_⟩,⟨_,rfl,?_⟩,⟨_,rfl,?_⟩,trivial⟩
   ·skip
    refine RL.nilk 0 rfl rfl rfl rfl PtOf.obox (RL.fin (RA.next (RA.rl 11 q_80 ?_)))
    exact St.via [0,1,2,3,4] h194
   ·skip
    refine RL.fadr (off:=0) (fo:=2) 3 z1d rfl rfl rfl PtOf.obox oi (RL.fin (RA.next (RA.rl 11 q_75 ?_)))
    exact St.via [0,1,2,4,3] h189
   refine RL.ldPx (off:=(0+1)) (e':=x1.2.1) 3 Ex.ik zd rfl rfl ol rfl PtOf.obox (Part.snd (Part.fst Part.self)) (RL.fin (RA.next (RA.rl 11 q_78 ?_)))
   exact St.via [0,1,2,3,4] h192
  refine RA.many [1,4,8] (by kernel_rfl) ⟨⟨_,rfl,?_⟩,⟨_,rfl,?_⟩,⟨_,rfl,?_⟩,trivial⟩
  ·skip
   refine RL.nilk 0 rfl rfl rfl rfl PtOf.obox (RL.fin (RA.next (RA.rl 12 q_81 ?_)))
   exact St.via [0,1,2,3,4] h195
  ·skip
   refine RL.fadr (off:=0) (fo:=2) 3 z1d rfl rfl rfl PtOf.obox oi (RL.fin (RA.next (RA.rl 12 q_82 ?_)))
   exact St.via [0,1,2,3,4] h196
  refine RL.fadr (off:=0) (fo:=1) 3 z1a rfl rfl rfl PtOf.obox oi (RL.fin (RA.next (RA.rl 12 q_83 ?_)))
  exact St.via [0,1,2,3,4] h197
 rintro⟨⟩
 refine RA.weak (env':=[(0,v0),(5,v12),(26,u0a),(34,(sv (((([111,32]:B8)++x1.2.2.1)++([32]:B8))++y111)))]) (L':=[obox 87 TrH v0 (x0.1,(x0.2.1,u0a)),obox 98 TrL u0a x0.2.2,keep X,own 94 TrA v12 y10.1]) ss (RA.seq 12 rfl (by kernel_rfl) ?_)
 obtain⟨y198,e199,hm⟩:=z7 hm
 refine RL.callK (vs:=[u0a,(sv (((([111,32]:B8)++x1.2.2.1)++([32]:B8))++y111))]) (V:=fun(o:Unit)=>.int .i64 y198.1) (LR:=fun(o:Unit)=>[obox 98 TrL u0a y198.2]) (Ls:=[obox 98 TrL u0a x0.2.2]) [1] (by decide) zf1 rfl rfl rfl rfl rfl rfl (fun S f X w hO hB hW hI hL=>z93 _ S X f w _ _  hO hB hI (((([111,32]:B8)++x1.2.2.1)++([32]:B8))++y111) _ e199) ?_
 intro _
 refine RL.fin (RA.next (RA.quiet 13 rfl rfl (by kernel_rfl) ?_))
 simp only[List.drop_succ_cons,List.drop_zero]
 refine RL.asg rfl rfl rfl (RL.reL (L':=[obox 87 TrH v0 (x0.1,(x0.2.1,u0a)),gone,keep X,own 94 TrA v12 y10.1,obox 98 TrL u0a y198.2]) rfl (RL.finQ (RA.outQ (GL.weak (env':=[(0,v0),(5,v12),(7,.int .i64 y198.1)]) (L':=[obox 87 TrH v0 (x0.1,(x0.2.1,u0a)),keep X,obox 98 TrL u0a y198.2,own 94 TrA v12 y10.1]) (fun a w st=>St.cut [0,2,4,3] ⟨rfl,rfl,rfl,trivial⟩ (by decide) rfl st) (GL.seq (GL.region (RL.mv rfl rfl rfl ?_)))))))
 refine RL.binI (v:=.bool (y198.1 != (0:Int))) rfl rfl rfl rfl rfl (RL.finG (GL.cond rfl (fun b200=>?_) (fun b200=>?_)))
 ·replace hm:=z13 b200 hm
  refine GL.seq (GL.region (RL.mv rfl rfl rfl (RL.asg rfl rfl rfl (RL.finG ?_))))
  have hm:=Option.some.inj hm
  subst hm
  exact GL.ret (Gx.ret (v:=.int .i64 y198.1) (res1 rfl rfl) (fun a w st=>(st.pick [0,2,1] (by decide) rfl).toPostM (V:=fun(o:Unit)=>.int .i64 ((y198.1,(x0.1,(x0.2.1,y198.2))).1)) (LR:=fun(o:Unit)=>[obox 87 TrH v0 (((y198.1,(x0.1,(x0.2.1,y198.2))).2).1,(((y198.1,(x0.1,(x0.2.1,y198.2))).2).2.1,u0a)),obox 98 TrL u0a (((y198.1,(x0.1,(x0.2.1,y198.2))).2).2.2),keep X]) ()))
 replace hm:=z14 b200 hm
 refine GL.skip (GL.seq (GL.region (RL.mv rfl rfl rfl (RL.mv rfl rfl rfl (RL.nilk 0 rfl rfl rfl rfl PtOf.obox (RL.fadr (off:=0) (fo:=0) 0 z3s rfl rfl rfl PtOf.obox oi (RL.weak (fun a w st=>st.freeze 3 rfl) ?_)))))))
 refine RL.stP (off:=(0+0)) (e':=y10.1) (d1:=((y10.1,x0.2).1,((y10.1,x0.2).2.1,u0a))) (r:=(TR.sl TrA)) 0 z4b rfl rfl ol rfl (VR.item 3 rfl) rfl (Upd.fst Upd.self) (RL.reL (L':=[obox 87 TrH v0 ((y10.1,x0.2).1,((y10.1,x0.2).2.1,u0a)),keep X,obox 98 TrL u0a y198.2,imm (TR.sl TrA) v12 y10.1]) rfl (RL.finG (GL.seq (GL.region (RL.asg rfl rfl rfl (RL.finG ?_))))))
 have hm:=Option.some.inj hm
 subst hm
 exact GL.ret (Gx.ret (v:=.int .i64 (0:Int)) (res1 rfl rfl) (fun a w st=>(st.pick [0,2,1] (by decide) rfl).toPostM (V:=fun(o:Unit)=>.int .i64 (((0:Int),(y10.1,(x0.2.1,y198.2))).1)) (LR:=fun(o:Unit)=>[obox 87 TrH v0 ((((0:Int),(y10.1,(x0.2.1,y198.2))).2).1,((((0:Int),(y10.1,(x0.2.1,y198.2))).2).2.1,u0a)),obox 98 TrL u0a ((((0:Int),(y10.1,(x0.2.1,y198.2))).2).2.2),keep X]) ()))
theorem z80(S:Hp)(w:World)(hS:S.sub w)(v0:Value)(x0:TyD)(k0:(TrD).vrep S v0 x0)(res:Int)(hm:z29 x0=some res):Calls Tryz.prog 52 #[v0] w (z45 w (.int .i64 res)):=by
 refine zi 58 Tryz.func52 Tryz.ntmps52 rfl S false [(0,v0)] [imm TrD v0 x0] rfl ⟨rfl,trivial⟩ hS ⟨k0,trivial⟩ ?_
 unfold z29 at hm
 refine GL.seq (GL.region (RL.box (t:=TrD) (e:=x0) rfl rfl rfl rfl (VR.item 0 rfl) ?_))
 intro v3
 refine RL.asg rfl rfl rfl (RL.finG (GL.seq (GL.seq ?_)))
 obtain⟨y17,K18,h19,h20,h21,h22,h23⟩:=z1z hm
 refine GL.join (ι:=Bool) (fun(p:Bool)=>[(1,v3),(19,.bool p)]) (fun(p:Bool)=>[obox 28 TrD v3 x0]) (fun(p:Bool)=>K18 (.nx p)) ?_ ?_
 ·skip
  refine GL.region (RL.fadr (off:=0) (fo:=0) 1 z3u rfl rfl rfl PtOf.obox oi (RL.ldPx (off:=(0+0)) (e':=x0.1) 1 Ex.str zh rfl rfl ol rfl PtOf.obox (Part.fst Part.self) ?_))
  obtain⟨y24,e25,h19⟩:=z7 h19
  refine RL.callV (v:=.bool y24) (vs:=[(sv x0.1)]) z9y rfl ol rfl rfl rfl rfl (fun U w hU hW hL=>z65 U w hU x0.1 _ e25) (RL.notB rfl rfl rfl (RL.mv rfl rfl rfl (RL.split (t:=7) rfl (fun b26=>?_) (fun b26=>?_))))
  ·replace h19:=z13 b26 h19
   refine RL.skip rfl rfl (RL.skip rfl rfl (RL.skip rfl rfl (RL.skip rfl rfl (RL.pickT rfl rfl rfl rfl (RL.mv rfl rfl rfl (RL.skip rfl rfl (RL.skip rfl rfl ?_)))))))
   refine RL.skip rfl rfl (RL.skip rfl rfl (RL.skip rfl rfl (RL.pickT rfl rfl rfl rfl (RL.fin ?_))))
   cases h19
   exact fun a w st=>ze true h20 (st.cu [1])
  replace h19:=z14 b26 h19
  refine RL.fadr (off:=0) (fo:=1) 1 z7r rfl rfl rfl PtOf.obox oi (RL.ldPx (off:=(0+1)) (e':=x0.2.1) 1 Ex.str zh rfl rfl ol rfl PtOf.obox (Part.snd (Part.fst Part.self)) ?_)
  obtain⟨y27,e28,h19⟩:=z7 h19
  refine RL.callV (v:=.bool y27) (vs:=[(sv x0.2.1)]) z9y rfl ol rfl rfl rfl rfl (fun U w hU hW hL=>z65 U w hU x0.2.1 _ e28) (RL.notB rfl rfl rfl (RL.pickF rfl rfl rfl rfl (RL.mv rfl rfl rfl (RL.split (t:=13) rfl (fun b29=>?_) (fun b29=>?_)))))
  ·replace h19:=z13 b29 h19
   refine RL.skip rfl rfl (RL.skip rfl rfl (RL.skip rfl rfl (RL.skip rfl rfl (RL.skip rfl rfl (RL.pickT rfl rfl rfl rfl (RL.fin ?_))))))
   cases h19
   exact fun a w st=>ze true h20 (st.cu [1])
  replace h19:=z14 b29 h19
  refine RL.fadr (off:=0) (fo:=0) 1 z3u rfl rfl rfl PtOf.obox oi (RL.ldPx (off:=(0+0)) (e':=x0.1) 1 Ex.str zh rfl rfl ol rfl PtOf.obox (Part.fst Part.self) (RL.fadr (off:=0) (fo:=1) 1 z7r rfl rfl rfl PtOf.obox oi (RL.ldPx (off:=(0+1)) (e':=x0.2.1) 1 Ex.str zh rfl rfl ol rfl PtOf.obox (Part.snd (Part.fst Part.self)) (RL.binS (v:=.bool (x0.1==x0.2.1)) rfl rfl rfl rfl rfl (RL.pickF rfl rfl rfl rfl (RL.fin ?_))))))
  cases h19
  exact fun a w st=>ze (x0.1==x0.2.1) h20 (st.cu [1])
 rintro x16 h30
 have h31:=h21 _ h30
 try dsimp only at h31
 refine GL.weak (env':=[(1,v3),(19,.bool x16)]) (L':=[obox 28 TrD v3 x0]) ss (GL.cond rfl (fun b32=>?_) (fun b32=>?_))
 ·replace h31:=z13 b32 h31
  refine GL.seq (GL.region (RL.asg rfl rfl rfl (RL.finG ?_)))
  have h31:=Option.some.inj h31
  subst h31
  exact GL.ret (Gx.ret (v:=.int .i64 (3:Int)) (res1 rfl rfl) (fun a w st=>st.toPostV))
 replace h31:=z14 b32 h31
 refine GL.skip (GL.seq (GL.seq ?_))
 obtain⟨y48,K49,h50,h51,h52,h53,h54⟩:=z1z h31
 refine GL.join (ι:=Bool) (fun(p:Bool)=>[(57,.bool p)]) (fun(p:Bool)=>[]) (fun(p:Bool)=>K49 (.nx p)) ?_ ?_
 ·skip
  refine GL.region (RL.fadr (off:=0) (fo:=2) 0 z3t rfl rfl rfl PtOf.obox oi (RL.ldPx (off:=(0+2)) (e':=x0.2.2.1) 0 Ex.ik zd rfl rfl ol rfl PtOf.obox (Part.snd (Part.snd (Part.fst Part.self))) (RL.binI (v:=.bool (decide (x0.2.2.1<(0:Int)))) rfl rfl rfl rfl rfl (RL.mv rfl rfl rfl (RL.split (t:=23) rfl (fun b55=>?_) (fun b55=>?_))))))
  ·replace h50:=z13 b55 h50
   refine RL.skip rfl rfl (RL.skip rfl rfl (RL.skip rfl rfl (RL.pickT rfl rfl rfl rfl (RL.mv rfl rfl rfl (RL.skip rfl rfl (RL.skip rfl rfl (RL.skip rfl rfl ?_)))))))
   refine RL.pickT rfl rfl rfl rfl (RL.mv rfl rfl rfl (RL.skip rfl rfl (RL.skip rfl rfl (RL.skip rfl rfl (RL.pickT rfl rfl rfl rfl (RL.mv rfl rfl rfl (RL.skip rfl rfl ?_)))))))
   refine RL.skip rfl rfl (RL.skip rfl rfl (RL.pickT rfl rfl rfl rfl (RL.mv rfl rfl rfl (RL.skip rfl rfl (RL.skip rfl rfl (RL.skip rfl rfl (RL.pickT rfl rfl rfl rfl ?_)))))))
   refine RL.mv rfl rfl rfl (RL.skip rfl rfl (RL.skip rfl rfl (RL.skip rfl rfl (RL.pickT rfl rfl rfl rfl (RL.mv rfl rfl rfl (RL.skip rfl rfl (RL.skip rfl rfl ?_)))))))
   refine RL.skip rfl rfl (RL.pickT rfl rfl rfl rfl (RL.fin ?_))
   cases h50
   exact fun a w st=>ze true h51 (st.cu [])
  replace h50:=z14 b55 h50
  refine RL.fadr (off:=0) (fo:=2) 0 z3t rfl rfl rfl PtOf.obox oi (RL.ldPx (off:=(0+2)) (e':=x0.2.2.1) 0 Ex.ik zd rfl rfl ol rfl PtOf.obox (Part.snd (Part.snd (Part.fst Part.self))) (RL.binI (v:=.bool (decide (x0.2.2.1>(1000000:Int)))) rfl rfl rfl rfl rfl (RL.pickF rfl rfl rfl rfl (RL.mv rfl rfl rfl (RL.split (t:=28) rfl (fun b56=>?_) (fun b56=>?_))))))
  ·replace h50:=z13 b56 h50
   refine RL.skip rfl rfl (RL.skip rfl rfl (RL.skip rfl rfl (RL.pickT rfl rfl rfl rfl (RL.mv rfl rfl rfl (RL.skip rfl rfl (RL.skip rfl rfl (RL.skip rfl rfl ?_)))))))
   refine RL.pickT rfl rfl rfl rfl (RL.mv rfl rfl rfl (RL.skip rfl rfl (RL.skip rfl rfl (RL.skip rfl rfl (RL.pickT rfl rfl rfl rfl (RL.mv rfl rfl rfl (RL.skip rfl rfl ?_)))))))
   refine RL.skip rfl rfl (RL.skip rfl rfl (RL.pickT rfl rfl rfl rfl (RL.mv rfl rfl rfl (RL.skip rfl rfl (RL.skip rfl rfl (RL.skip rfl rfl (RL.pickT rfl rfl rfl rfl ?_)))))))
   refine RL.mv rfl rfl rfl (RL.skip rfl rfl (RL.skip rfl rfl (RL.skip rfl rfl (RL.pickT rfl rfl rfl rfl (RL.fin ?_)))))
   cases h50
   exact fun a w st=>ze true h51 (st.cu [])
  replace h50:=z14 b56 h50
  refine RL.fadr (off:=0) (fo:=3) 0 z5c rfl rfl rfl PtOf.obox oi (RL.ldPx (off:=(0+3)) (e':=x0.2.2.2.1) 0 Ex.ik zd rfl rfl ol rfl PtOf.obox (Part.snd (Part.snd (Part.snd (Part.fst Part.self)))) (RL.binI (v:=.bool (decide (x0.2.2.2.1<(0:Int)))) rfl rfl rfl rfl rfl (RL.pickF rfl rfl rfl rfl (RL.mv rfl rfl rfl (RL.split (t:=33) rfl (fun b57=>?_) (fun b57=>?_))))))
  ·replace h50:=z13 b57 h50
   refine RL.skip rfl rfl (RL.skip rfl rfl (RL.skip rfl rfl (RL.pickT rfl rfl rfl rfl (RL.mv rfl rfl rfl (RL.skip rfl rfl (RL.skip rfl rfl (RL.skip rfl rfl ?_)))))))
   refine RL.pickT rfl rfl rfl rfl (RL.mv rfl rfl rfl (RL.skip rfl rfl (RL.skip rfl rfl (RL.skip rfl rfl (RL.pickT rfl rfl rfl rfl (RL.mv rfl rfl rfl (RL.skip rfl rfl ?_)))))))
   refine RL.skip rfl rfl (RL.skip rfl rfl (RL.pickT rfl rfl rfl rfl (RL.mv rfl rfl rfl (RL.skip rfl rfl (RL.skip rfl rfl (RL.skip rfl rfl (RL.pickT rfl rfl rfl rfl ?_)))))))
   refine RL.fin ?_
   cases h50
   exact fun a w st=>ze true h51 (st.cu [])
  replace h50:=z14 b57 h50
  refine RL.fadr (off:=0) (fo:=3) 0 z5c rfl rfl rfl PtOf.obox oi (RL.ldPx (off:=(0+3)) (e':=x0.2.2.2.1) 0 Ex.ik zd rfl rfl ol rfl PtOf.obox (Part.snd (Part.snd (Part.snd (Part.fst Part.self)))) (RL.binI (v:=.bool (decide (x0.2.2.2.1>(1000000:Int)))) rfl rfl rfl rfl rfl (RL.pickF rfl rfl rfl rfl (RL.mv rfl rfl rfl (RL.split (t:=38) rfl (fun b58=>?_) (fun b58=>?_))))))
  ·replace h50:=z13 b58 h50
   refine RL.skip rfl rfl (RL.skip rfl rfl (RL.skip rfl rfl (RL.pickT rfl rfl rfl rfl (RL.mv rfl rfl rfl (RL.skip rfl rfl (RL.skip rfl rfl (RL.skip rfl rfl ?_)))))))
   refine RL.pickT rfl rfl rfl rfl (RL.mv rfl rfl rfl (RL.skip rfl rfl (RL.skip rfl rfl (RL.skip rfl rfl (RL.pickT rfl rfl rfl rfl (RL.mv rfl rfl rfl (RL.skip rfl rfl ?_)))))))
   refine RL.skip rfl rfl (RL.skip rfl rfl (RL.pickT rfl rfl rfl rfl (RL.fin ?_)))
   cases h50
   exact fun a w st=>ze true h51 (st.cu [])
  replace h50:=z14 b58 h50
  refine RL.fadr (off:=0) (fo:=4) 0 z2i rfl rfl rfl PtOf.obox oi (RL.ldPx (off:=(0+4)) (e':=x0.2.2.2.2.1) 0 Ex.ik zd rfl rfl ol rfl PtOf.obox (Part.snd (Part.snd (Part.snd (Part.snd (Part.fst Part.self))))) (RL.binI (v:=.bool (decide (x0.2.2.2.2.1<(0:Int)))) rfl rfl rfl rfl rfl (RL.pickF rfl rfl rfl rfl (RL.mv rfl rfl rfl (RL.split (t:=43) rfl (fun b59=>?_) (fun b59=>?_))))))
  ·replace h50:=z13 b59 h50
   refine RL.skip rfl rfl (RL.skip rfl rfl (RL.skip rfl rfl (RL.pickT rfl rfl rfl rfl (RL.mv rfl rfl rfl (RL.skip rfl rfl (RL.skip rfl rfl (RL.skip rfl rfl ?_)))))))
   refine RL.pickT rfl rfl rfl rfl (RL.mv rfl rfl rfl (RL.skip rfl rfl (RL.skip rfl rfl (RL.skip rfl rfl (RL.pickT rfl rfl rfl rfl (RL.fin ?_))))))
   cases h50
   exact fun a w st=>ze true h51 (st.cu [])
  replace h50:=z14 b59 h50
  refine RL.fadr (off:=0) (fo:=4) 0 z2i rfl rfl rfl PtOf.obox oi (RL.ldPx (off:=(0+4)) (e':=x0.2.2.2.2.1) 0 Ex.ik zd rfl rfl ol rfl PtOf.obox (Part.snd (Part.snd (Part.snd (Part.snd (Part.fst Part.self))))) (RL.binI (v:=.bool (decide (x0.2.2.2.2.1>(1000000:Int)))) rfl rfl rfl rfl rfl (RL.pickF rfl rfl rfl rfl (RL.mv rfl rfl rfl (RL.split (t:=48) rfl (fun b60=>?_) (fun b60=>?_))))))
  ·replace h50:=z13 b60 h50
   refine RL.skip rfl rfl (RL.skip rfl rfl (RL.skip rfl rfl (RL.pickT rfl rfl rfl rfl (RL.mv rfl rfl rfl (RL.skip rfl rfl (RL.skip rfl rfl (RL.skip rfl rfl ?_)))))))
   refine RL.pickT rfl rfl rfl rfl (RL.fin ?_)
   cases h50
   exact fun a w st=>ze true h51 (st.cu [])
  replace h50:=z14 b60 h50
  refine RL.fadr (off:=0) (fo:=5) 0 z4h rfl rfl rfl PtOf.obox oi (RL.ldPx (off:=(0+5)) (e':=x0.2.2.2.2.2) 0 Ex.ik zd rfl rfl ol rfl PtOf.obox (Part.snd (Part.snd (Part.snd (Part.snd (Part.snd Part.self))))) (RL.binI (v:=.bool (decide (x0.2.2.2.2.2<(1:Int)))) rfl rfl rfl rfl rfl (RL.pickF rfl rfl rfl rfl (RL.mv rfl rfl rfl (RL.split (t:=53) rfl (fun b61=>?_) (fun b61=>?_))))))
  ·replace h50:=z13 b61 h50
   refine RL.skip rfl rfl (RL.skip rfl rfl (RL.skip rfl rfl (RL.pickT rfl rfl rfl rfl (RL.fin ?_))))
   cases h50
   exact fun a w st=>ze true h51 (st.cu [])
  replace h50:=z14 b61 h50
  refine RL.fadr (off:=0) (fo:=5) 0 z4h rfl rfl rfl PtOf.obox oi (RL.ldPx (off:=(0+5)) (e':=x0.2.2.2.2.2) 0 Ex.ik zd rfl rfl ol rfl PtOf.obox (Part.snd (Part.snd (Part.snd (Part.snd (Part.snd Part.self))))) (RL.binI (v:=.bool (decide (x0.2.2.2.2.2>(100:Int)))) rfl rfl rfl rfl rfl (RL.pickF rfl rfl rfl rfl (RL.fin ?_))))
  cases h50
  exact fun a w st=>ze (decide (x0.2.2.2.2.2>(100:Int))) h51 (st.cu [])
 rintro x47 h62
 have h63:=h52 _ h62
 try dsimp only at h63
 refine GL.weak (env':=[(57,.bool x47)]) (L':=[]) ss (GL.cond rfl (fun b64=>?_) (fun b64=>?_))
 ·replace h63:=z13 b64 h63
  refine GL.seq (GL.region (RL.asg rfl rfl rfl (RL.finG ?_)))
  have h63:=Option.some.inj h63
  subst h63
  exact GL.ret (Gx.ret (v:=.int .i64 (1:Int)) (res1 rfl rfl) (fun a w st=>st.toPostV))
 replace h63:=z14 b64 h63
 refine GL.skip (GL.seq (GL.region (RL.asg rfl rfl rfl (RL.finG ?_))))
 have h63:=Option.some.inj h63
 subst h63
 exact GL.ret (Gx.ret (v:=.int .i64 (0:Int)) (res1 rfl rfl) (fun a w st=>st.toPostV))
theorem z2v(S:Hp)(w:World)(hS:S.sub w)(v0:Value)(x0:(List TyD))(k0:((TR.sl TrD)).vrep S v0 x0)(f1:FuncId)(c1:Array Value)(t1:Fit Tryz.prog f1)(g1:TyD→Option Bool)(k1:∀ (U:Hp) (w':World),Hp.le S U→U.sub w'→∀ (u0:Value) (a0:TyD) (_:(TrD).vrep U u0 a0) (rr:Bool),g1 a0=some rr→Calls Tryz.prog f1 (#[u0]++c1) w' (z45 w' (.bool rr)))(res:Int)(hm:zp x0 g1=some res):Calls Tryz.prog 75 #[v0,.func (.func f1) #[] c1] w (z45 w (.int .i64 res)):=by
 refine zi 19 Tryz.func75 Tryz.ntmps75 rfl S false [(0,v0),(1,.func (.func f1) #[] c1)] [imm (TR.sl TrD) v0 x0] rfl ⟨rfl,⟨rfl,trivial⟩⟩ hS ⟨k0,trivial⟩ ?_
 unfold zp at hm
 refine GL.seq (GL.region (RL.asg rfl rfl rfl (RL.finG (GL.seq (GL.seq (GL.region (RL.mv rfl rfl rfl ?_)))))))
 refine RL.lenS 0 Tryz.underlying85 rfl rfl rfl rfl SlOf.imm (RL.mv rfl rfl rfl (RL.finG (GL.open_ 0 rfl (fun S h=>z77 S h) (fun n14=>?_))))
 obtain⟨y15,K16,h17,h18,h19,h20,h21⟩:=z1z hm
 refine GL.join (ι:=Unit) (fun(p:Unit)=>[]) (fun(p:Unit)=>[]) (fun(p:Unit)=>K16 (.nx ())) ?_ ?_
 ·refine GL.block (GL.loop (ι:=Nat×(List TyD)) (fun(p:Nat×(List TyD))=>[(0,v0),(1,.func (.func f1) #[] c1),(7,.int .i64 ((x0).length:Int)),(8,.int .i64 (p.1:Int))]) (fun(p:Nat×(List TyD))=>[imm (TR.sl TrD) v0 x0]) (fun(p:Nat×(List TyD))=>p.1+p.2.length=(x0).length∧List.drop p.1 x0=p.2∧z2w (z1e g1) p.2 p.1 ()=some y15) (fun(p:Nat×(List TyD))=>p.2.length) (0,x0) ⟨by simp,by simp,h17⟩ (fun a w st=>St.cut [0] ⟨rfl,rfl,rfl,rfl,trivial⟩ (by decide) rfl st) ?_)
  rintro⟨i22,r23⟩ ⟨h28,h29,h27⟩
  try dsimp only at h28 h29 h27
  refine GL.weak (env':=[(0,v0),(1,.func (.func f1) #[] c1),(7,.int .i64 ((x0).length:Int)),(8,.int .i64 (i22:Int))]) (L':=[imm (TR.sl TrD) v0 x0]) ss (GL.seq (GL.region (RL.binI (v:=.bool (decide ((i22:Int)<((x0).length:Int)))) rfl rfl rfl rfl rfl (RL.finG (GL.seq (GL.cond rfl (fun b30=>?_) (fun b30=>?_)))))))
  ·have h31:i22<(x0).length:=by have:=of_decide_eq_true b30;omega
   obtain⟨y32,r34,hr,e33,h35⟩:=z48 h29 rfl h31
   subst hr
   obtain⟨z24,h25,h26⟩:=z2x h27
   unfold z1e at h25
   try dsimp only at h25
   refine GL.skip (GL.seq (GL.block (GL.seq (GL.region (RL.mv rfl rfl rfl (RL.asg rfl rfl rfl (RL.finG ?_)))))))
   refine GL.seq (GL.region (RL.mv rfl rfl rfl (RL.mv rfl rfl rfl (RL.mv rfl rfl rfl (RL.idxS (sz:=6) 0 Tryz.underlying85 zu rfl rfl rfl rfl rfl SlOf.imm (by omega) (by omega) (RL.ldS (i:=i22) (r:=TrD) (e':=y32) 0 zu rfl rfl rfl rfl SlOf.imm e33 Part.self ?_))))))
   intro v39
   obtain⟨y40,e41,h25⟩:=z7 h25
   refine RL.callV (v:=.bool y40) (vs:=[v39]) t1 rfl ol rfl rfl rfl rfl (fun U w hU hW hL=>k1 U w hW hU _ _ (hL 1 _ _ rfl Seen.imm) _ e41) (RL.finG (GL.cond rfl (fun b42=>?_) (fun b42=>?_)))
   ·replace h25:=z13 b42 h25
    refine GL.seq (GL.region (RL.mv rfl rfl rfl (RL.asg rfl rfl rfl (RL.finG ?_))))
    cases h25
    replace h26:some (Fl.rt _)=some y15:=h26
    cases h26
    have hh:=h20 _ h18
    subst hh
    exact GL.ret (Gx.ret (v:=.int .i64 (i22:Int)) (res1 rfl rfl) (fun a w st=>st.toPostV))
   replace h25:=z14 b42 h25
   refine GL.skip (GL.nilB (GL.region (RL.binI (v:=.int .i64 ((i22+1:Nat):Int)) rfl rfl rfl rfl (binI_succ i22 (by omega)) (RL.mv rfl rfl rfl (RL.fin ?_)))))
   cases h25
   exact fun a w st=>z1l (i22+1,r34) ⟨by show i22+1+r34.length=(x0).length;simp only[List.length_cons] at h28;omega,h35,h26⟩ (by simp) (st.cu [0])
  have h31:¬ i22<(x0).length:=by have:=of_decide_eq_false b30;omega
  obtain rfl:r23=[]:=by rw[← h29];exact List.drop_of_length_le (by omega)
  replace h27:some (Fl.nx _)=some y15:=h27
  cases h27
  exact GL.exit (fun a w st=>ze () h18 (st.cu []))
 rintro⟨⟩ h43
 have h44:=h19 _ h43
 try dsimp only at h44
 refine GL.weak (env':=[]) (L':=[]) ss (GL.seq (GL.region (RL.asg rfl rfl rfl (RL.finG ?_))))
 have h44:=Option.some.inj h44
 subst h44
 exact GL.ret (Gx.ret (v:=.int .i64 (-1:Int)) (res1 rfl rfl) (fun a w st=>st.toPostV))
theorem ze7(S:Hp)(w:World)(hS:S.sub w)(v0:Value)(x0:TyD)(k0:(TrD).vrep S v0 x0)(v1:Value)(x1:B8)(k1:((TR.ptr TR.str)).vrep S v1 x1)(v2:Value)(x2:Int)(k2:((TR.ptr TR.int)).vrep S v2 x2)(res:Bool)(hm:z4v x0 x1 x2=some res):Calls Tryz.prog 76 #[v0,v1,v2] w (z45 w (.bool res)):=by
 refine zi 15 Tryz.func76 Tryz.ntmps76 rfl S false [(0,v0),(1,v1),(2,v2)] [imm TrD v0 x0,imm (TR.ptr TR.str) v1 x1,imm (TR.ptr TR.int) v2 x2] rfl ⟨rfl,⟨rfl,⟨rfl,trivial⟩⟩⟩ hS ⟨k0,⟨k1,⟨k2,trivial⟩⟩⟩ ?_
 unfold z4v at hm
 refine GL.seq (GL.region (RL.box (t:=TrD) (e:=x0) rfl rfl rfl rfl (VR.item 0 rfl) ?_))
 intro v5
 refine RL.asg rfl rfl rfl (RL.finG (GL.seq ?_))
 obtain⟨y9,K10,h11,h12,h13,h14,h15⟩:=z1z hm
 refine GL.join (ι:=Bool) (fun(p:Bool)=>[(4,.bool p)]) (fun(p:Bool)=>[]) (fun(p:Bool)=>K10 (.nx p)) ?_ ?_
 ·skip
  refine GL.region (RL.fadr (off:=0) (fo:=0) 3 z3u rfl rfl rfl PtOf.obox oi (RL.ldPx (off:=(0+0)) (e':=x0.1) 3 Ex.str zh rfl rfl ol rfl PtOf.obox (Part.fst Part.self) (RL.ldPx (off:=0) (e':=x1) 1 Ex.str zh rfl rfl oi rfl PtOf.imm Part.self (RL.binS (v:=.bool (x0.1==x1)) rfl rfl rfl rfl rfl (RL.mv rfl rfl rfl (RL.split (t:=9) rfl (fun b16=>?_) (fun b16=>?_)))))))
  ·replace h11:=z13 b16 h11
   refine RL.fadr (off:=0) (fo:=2) 3 z3t rfl rfl rfl PtOf.obox oi (RL.ldPx (off:=(0+2)) (e':=x0.2.2.1) 3 Ex.ik zd rfl rfl ol rfl PtOf.obox (Part.snd (Part.snd (Part.fst Part.self))) (RL.ldPx (off:=0) (e':=x2) 2 Ex.ik zd rfl rfl oi rfl PtOf.imm Part.self (RL.binI (v:=.bool (x0.2.2.1==x2)) rfl rfl rfl rfl rfl (RL.pickT rfl rfl rfl rfl (RL.asg rfl rfl rfl (RL.fin ?_))))))
   cases h11
   exact fun a w st=>ze (x0.2.2.1==x2) h12 (st.cu [])
  replace h11:=z14 b16 h11
  refine RL.skip rfl rfl (RL.skip rfl rfl (RL.skip rfl rfl (RL.skip rfl rfl (RL.pickF rfl rfl rfl rfl (RL.asg rfl rfl rfl (RL.fin ?_))))))
  cases h11
  exact fun a w st=>ze false h12 (st.cu [])
 rintro x8 h17
 have h18:=h13 _ h17
 try dsimp only at h18
 refine GL.weak (env':=[(4,.bool x8)]) (L':=[]) ss ?_
 have h18:=Option.some.inj h18
 subst h18
 exact GL.ret (Gx.ret (v:=.bool x8) (res1 rfl rfl) (fun a w st=>st.toPostV))
theorem z9f(S:Hp)(w:World)(hS:S.sub w)(v0:Value)(x0:(List TyD))(k0:((TR.sl TrD)).vrep S v0 x0)(x1:B8)(x2:Int)(res:Int)(hm:z4f x0 x1 x2=some res):Calls Tryz.prog 53 #[v0,(sv x1),.int .i64 x2] w (z45 w (.int .i64 res)):=by
 refine zi 10 Tryz.func53 Tryz.ntmps53 rfl S false [(0,v0),(1,(sv x1)),(2,.int .i64 x2)] [imm (TR.sl TrD) v0 x0] rfl ⟨rfl,⟨rfl,⟨rfl,trivial⟩⟩⟩ hS ⟨k0,trivial⟩ ?_
 unfold z4f at hm
 refine GL.seq (GL.region (RL.box (t:=TR.str) (e:=x1) rfl rfl rfl rfl VR.str ?_))
 intro v6
 refine RL.box (t:=TR.int) (e:=x2) rfl rfl rfl rfl VR.int ?_
 intro v7
 refine RL.reL (L':=[imm (TR.sl TrD) v0 x0,obox 9 TR.str v6 x1,obox 3 TR.int v7 x2]) rfl (RL.asg rfl rfl rfl (RL.finG (GL.seq (GL.region (RL.mv rfl rfl rfl (RL.mkF (vs:=[v6,v7]) rfl rfl rfl ?_))))))
 obtain⟨y10,e11,hm⟩:=z7 hm
 refine RL.callV (v:=.int .i64 y10) (vs:=[v0,.func (.func 76) #[] #[v6,v7]]) zex rfl ol rfl rfl rfl rfl (fun U w hU hW hL=>z2v U w hU _ _ (hL 0 _ _ rfl Seen.imm) 76 #[v6,v7] Tryz_fit76 (fun a0=>z4v a0 x1 x2) (fun U' w' hle hU' u0 a0 q0 rr hr=>(ze7 U' w' hU' u0 a0 q0 _ _ (TR.vrep_mono hle (hL 1 _ _ rfl Seen.obox)) _ _ (TR.vrep_mono hle (hL 2 _ _ rfl Seen.obox)) rr hr).mono (fun _ _ z=>z)) _ e11) (RL.asg rfl rfl rfl (RL.finG ?_))
 have hm:=Option.some.inj hm
 subst hm
 exact GL.ret (Gx.ret (v:=.int .i64 y10) (res1 rfl rfl) (fun a w st=>st.toPostV))
end Go.Wk
