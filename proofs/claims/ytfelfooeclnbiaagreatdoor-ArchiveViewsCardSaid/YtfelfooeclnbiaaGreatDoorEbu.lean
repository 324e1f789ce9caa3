/- The texts X3Shelf XBld K3 X3 S3 StPure St1 St1H StV2 StV2H StV3H StV4 StV4H St5 St5H StTextP St7 St7H PathP StL2H P1 P1H P2H P3 P3H A1 A1H A2 A2H A3 A3H A4 A4H A5 A5H B1 B2H T1 T1H T2 T2H T3 TrA TrB WiP WiU Wi0 Wi0H LdP Wi1 Wi1H Wi2 Wi2H. -/
import Derived.Test.YtfelfooeclnbiaaGreatDoorPiYr
import Derived.Shelf.LaysM
import Derived.Shelf.LaysC
import Derived.Shelf.Strings.OnBuilder
import Derived.Shelf.Strings.SlTrimAscii
import Derived.Shelf.Small.Wraps
import Derived.Shelf.Strconv.AtoiAll
import Derived.Shelf.Strconv.Itoa3
import Derived.Shelf.Strings.Cut
import Derived.Shelf.Strings.Split
import Derived.Shelf.Strings.LastIndexAll
import Derived.Shelf.Unicode.ValidAny
import Derived.Shelf.Utf8.RuneCount
import Derived.Test.YtfelfooeclnbiaaGreatDoorProg
import Derived.KernelRfl
import Derived.Lib.SplitLaws
import Derived.Lib.SlTrimSet
import Derived.Lib.ValidLaws
import Derived.Lib.RuneCountTail
import Derived.Lib.MapLaws
namespace Go.Proofs
open Go.Shelf
def Tryz.bg:Go.Shelf.Ren:=⟨λ|169=>21 |n=>n,λ|70=>64 |9=>9 |0=>0 |72=>67 |37=>65 |127=>124 |3=>3 |5=>5 |n=>n,λ|n=>n⟩
theorem Tryz.CU:Go.Proofs.Lays.n169 Tryz.prog Tryz.bg:={
 mixed:=by kernel_rfl
 f169:=Tryz.func21.trans (congrArg some (by kernel_rfl))
 t0:=Tryz.underlying0
 a0:=Tryz.isAgg0
 z0:=Tryz.sizeOf0
 v0:=Tryz.zeroValue0
 t3:=Tryz.underlying3
 a3:=Tryz.isAgg3
 z3:=Tryz.sizeOf3
 v3:=Tryz.zeroValue3
 t9:=Tryz.underlying9
 a9:=Tryz.isAgg9
 z9:=Tryz.sizeOf9
 v9:=Tryz.zeroValue9
 t37:=Tryz.underlying65
 a37:=Tryz.isAgg65
 z37:=Tryz.sizeOf65
 v37:=Tryz.zeroValue65
 t70:=Tryz.underlying64
 a70:=Tryz.isAgg64
 z70:=Tryz.sizeOf64
 v70:=Tryz.zeroValue64
 t72:=Tryz.underlying67
 a72:=Tryz.isAgg67
 z72:=Tryz.sizeOf67
 v72:=Tryz.zeroValue67
 t127:=Tryz.underlying124
 a127:=Tryz.isAgg124
 z127:=Tryz.sizeOf124
 v127:=Tryz.zeroValue124}
theorem Tryz.hJ:Builder.Extra Tryz.prog Tryz.bg:={
 sizeBuilder:=by kernel_rfl
 liesBuilder:=by kernel_rfl
 t5:=Tryz.underlying5
 a5:=Tryz.isAgg5
 z5:=Tryz.sizeOf5
 v5:=Tryz.zeroValue5
 infoByte:=by kernel_rfl
 cellsByte:=by kernel_rfl
 sizeByte:=by kernel_rfl
 neB5:=by decide}
open Go.RowKit in
theorem Tryz.Builder_String(B b:Nat)(l:List UInt8)(w:World)(h:Lib.IsBuilder 67 5 B b (Lib.byteCells l) w)(h0:l≠[]):
 Calls Tryz.prog 21 #[.pointer (some ⟨b,0,none⟩)] w λe w'=>e= .returned (.string ⟨l.toArray⟩)/\Below B w w':=Any.Builder_String Tryz.CU Tryz.hJ B b l w h h0
def Tryz.Fs:Go.Shelf.Ren:=⟨λ|160=>111 |232=>123 |231=>122 |227=>124 |234=>126 |233=>125 |236=>128 |235=>127 |228=>141 |271=>143 |151=>142 |197=>115 |120=>151 |152=>150 |260=>130 |137=>158 |119=>159 |224=>133 |225=>132 |217=>131 |266=>144 |n=>n,λ|9=>9 |4=>4 |3=>3 |5=>5 |117=>202 |116=>201 |0=>0 |124=>205 |21=>21 |105=>195 |46=>160 |119=>175 |139=>178 |138=>177 |n=>n,λ|3=>0 |4=>1 |n=>n⟩
theorem Tryz.KG:Go.Proofs.Lays.n160 Tryz.prog Tryz.Fs:={
 mixed:=by kernel_rfl
 f119:=Tryz.func159.trans (congrArg some (by kernel_rfl))
 f120:=Tryz.func151.trans (congrArg some (by kernel_rfl))
 f137:=Tryz.func158.trans (congrArg some (by kernel_rfl))
 f151:=Tryz.func142.trans (congrArg some (by kernel_rfl))
 f152:=Tryz.func150.trans (congrArg some (by kernel_rfl))
 f160:=Tryz.func111.trans (congrArg some (by kernel_rfl))
 f197:=Tryz.func115.trans (congrArg some (by kernel_rfl))
 f217:=Tryz.func131.trans (congrArg some (by kernel_rfl))
 f224:=Tryz.func133.trans (congrArg some (by kernel_rfl))
 f225:=Tryz.func132.trans (congrArg some (by kernel_rfl))
 f227:=Tryz.func124.trans (congrArg some (by kernel_rfl))
 f228:=Tryz.func141.trans (congrArg some (by kernel_rfl))
 f231:=Tryz.func122.trans (congrArg some (by kernel_rfl))
 f232:=Tryz.func123.trans (congrArg some (by kernel_rfl))
 f233:=Tryz.func125.trans (congrArg some (by kernel_rfl))
 f234:=Tryz.func126.trans (congrArg some (by kernel_rfl))
 f235:=Tryz.func127.trans (congrArg some (by kernel_rfl))
 f236:=Tryz.func128.trans (congrArg some (by kernel_rfl))
 f260:=Tryz.func130.trans (congrArg some (by kernel_rfl))
 f266:=Tryz.func144.trans (congrArg some (by kernel_rfl))
 f271:=Tryz.func143.trans (congrArg some (by kernel_rfl))
 t0:=Tryz.underlying0
 a0:=Tryz.isAgg0
 z0:=Tryz.sizeOf0
 v0:=Tryz.zeroValue0
 t3:=Tryz.underlying3
 a3:=Tryz.isAgg3
 z3:=Tryz.sizeOf3
 v3:=Tryz.zeroValue3
 t4:=Tryz.underlying4
 a4:=Tryz.isAgg4
 z4:=Tryz.sizeOf4
 v4:=Tryz.zeroValue4
 t5:=Tryz.underlying5
 a5:=Tryz.isAgg5
 z5:=Tryz.sizeOf5
 v5:=Tryz.zeroValue5
 t9:=Tryz.underlying9
 a9:=Tryz.isAgg9
 z9:=Tryz.sizeOf9
 v9:=Tryz.zeroValue9
 t21:=Tryz.underlying21
 a21:=Tryz.isAgg21
 z21:=Tryz.sizeOf21
 v21:=Tryz.zeroValue21
 t46:=Tryz.underlying160
 a46:=Tryz.isAgg160
 z46:=Tryz.sizeOf160
 v46:=Tryz.zeroValue160
 t105:=Tryz.underlying195
 a105:=Tryz.isAgg195
 z105:=Tryz.sizeOf195
 v105:=Tryz.zeroValue195
 t116:=Tryz.underlying201
 a116:=Tryz.isAgg201
 z116:=Tryz.sizeOf201
 t117:=Tryz.underlying202
 a117:=Tryz.isAgg202
 z117:=Tryz.sizeOf202
 v117:=Tryz.zeroValue202
 t119:=Tryz.underlying175
 a119:=Tryz.isAgg175
 z119:=Tryz.sizeOf175
 t124:=Tryz.underlying205
 a124:=Tryz.isAgg205
 z124:=Tryz.sizeOf205
 v124:=Tryz.zeroValue205
 t138:=Tryz.underlying177
 a138:=Tryz.isAgg177
 z138:=Tryz.sizeOf177
 v138:=Tryz.zeroValue177
 t139:=Tryz.underlying178
 a139:=Tryz.isAgg178
 z139:=Tryz.sizeOf178
 v139:=Tryz.zeroValue178
 g3:=by kernel_rfl
 g4:=by kernel_rfl}
open Go.RowKit in
theorem Tryz.strings_Trim_one(s:ByteArray)(c:UInt8)(hc:c.toNat<128)(w:World)(hs:s.size<=9223372036854775807):
 Calls Tryz.prog 111 #[.string s,.string ⟨#[c]⟩] w λe w'=>e= .returned (.string ⟨(Lib.trimB s.data.toList c).toArray⟩)/\(w'=w\/w'=w.drew):=Any.strings_Trim_one Tryz.KG s c hc w hs
def Tryz.Ft:Go.Shelf.Ren:=⟨λ|103=>69 |210=>87 |206=>103 |n=>n,λ|9=>9 |4=>4 |24=>155 |3=>3 |n=>n,λ|n=>n⟩
theorem Tryz.WR:Go.Proofs.Lays.n103 Tryz.prog Tryz.Ft:={
 mixed:=by kernel_rfl
 f103:=Tryz.func69.trans (congrArg some (by kernel_rfl))
 f206:=Tryz.func103.trans (congrArg some (by kernel_rfl))
 f210:=Tryz.func87.trans (congrArg some (by kernel_rfl))
 t3:=Tryz.underlying3
 a3:=Tryz.isAgg3
 z3:=Tryz.sizeOf3
 v3:=Tryz.zeroValue3
 t4:=Tryz.underlying4
 a4:=Tryz.isAgg4
 z4:=Tryz.sizeOf4
 v4:=Tryz.zeroValue4
 t9:=Tryz.underlying9
 a9:=Tryz.isAgg9
 z9:=Tryz.sizeOf9
 v9:=Tryz.zeroValue9
 t24:=Tryz.underlying155
 a24:=Tryz.isAgg155
 z24:=Tryz.sizeOf155
 v24:=Tryz.zeroValue155}
open Go.RowKit in
theorem Tryz.strings_CutPrefix(s p:ByteArray)(w:World):
 Calls Tryz.prog 69 #[.string s,.string p] w λe w'=>e= .returned (.tuple #[.string ⟨(Lib.trimPrefix s.data.toList p.data.toList).toArray⟩,.bool (Lib.hasPrefix s.data.toList p.data.toList)])/\w'=w:=Any.strings_CutPrefix Tryz.WR s p w
def Tryz.Fu:Go.Shelf.Ren:=⟨λ|195=>73 |n=>n,λ|9=>9 |3=>3 |0=>0 |4=>4 |n=>n,λ|n=>n⟩
theorem Tryz.WS:Go.Proofs.Lays.n195 Tryz.prog Tryz.Fu:={
 mixed:=by kernel_rfl
 f195:=Tryz.func73.trans (congrArg some (by kernel_rfl))
 t0:=Tryz.underlying0
 a0:=Tryz.isAgg0
 z0:=Tryz.sizeOf0
 v0:=Tryz.zeroValue0
 t3:=Tryz.underlying3
 a3:=Tryz.isAgg3
 z3:=Tryz.sizeOf3
 v3:=Tryz.zeroValue3
 t4:=Tryz.underlying4
 a4:=Tryz.isAgg4
 z4:=Tryz.sizeOf4
 v4:=Tryz.zeroValue4
 t9:=Tryz.underlying9
 a9:=Tryz.isAgg9
 z9:=Tryz.sizeOf9
 v9:=Tryz.zeroValue9}
open Go.RowKit in
theorem Tryz.utf8_RuneCountInString(s:ByteArray)(w:World)(hs:s.size<9223372036854775807):
 Calls Tryz.prog 73 #[.string s] w λe w'=>e= .returned (.int .i64 (Lib.runeCount s))/\ ∃pos,w'=w.iter s pos:=Any.utf8_RuneCountInString Tryz.WS s w hs
def Tryz.CV:Go.Shelf.Ren:=⟨λ|171=>121 |243=>140 |246=>149 |283=>154 |284=>155 |285=>156 |286=>157 |129=>161 |317=>160 |318=>162 |319=>163 |320=>164 |337=>165 |338=>166 |n=>n,λ|3=>3 |9=>9 |2=>2 |4=>4 |171=>226 |0=>0 |53=>123 |37=>65 |5=>5 |173=>229 |212=>233 |51=>179 |20=>20 |213=>234 |46=>160 |232=>238 |233=>239 |n=>n,λ|17=>5 |18=>6 |19=>7 |n=>n⟩
theorem Tryz.QD:Go.Proofs.LaysM.n171 Tryz.prog Tryz.CV:={
 mixed:=by kernel_rfl
 f129:=Tryz.func161.trans (congrArg some (by kernel_rfl))
 f171:=Tryz.func121.trans (congrArg some (by kernel_rfl))
 f243:=Tryz.func140.trans (congrArg some (by kernel_rfl))
 f246:=Tryz.func149.trans (congrArg some (by kernel_rfl))
 f283:=Tryz.func154.trans (congrArg some (by kernel_rfl))
 f284:=Tryz.func155.trans (congrArg some (by kernel_rfl))
 f285:=Tryz.func156.trans (congrArg some (by kernel_rfl))
 f286:=Tryz.func157.trans (congrArg some (by kernel_rfl))
 f317:=Tryz.func160.trans (congrArg some (by kernel_rfl))
 f318:=Tryz.func162.trans (congrArg some (by kernel_rfl))
 f319:=Tryz.func163.trans (congrArg some (by kernel_rfl))
 f320:=Tryz.func164.trans (congrArg some (by kernel_rfl))
 f337:=Tryz.func165.trans (congrArg some (by kernel_rfl))
 f338:=Tryz.func166.trans (congrArg some (by kernel_rfl))
 t0:=Tryz.underlying0
 a0:=Tryz.isAgg0
 z0:=Tryz.sizeOf0
 v0:=Tryz.zeroValue0
 t2:=Tryz.underlying2
 a2:=Tryz.isAgg2
 z2:=Tryz.sizeOf2
 v2:=Tryz.zeroValue2
 t3:=Tryz.underlying3
 a3:=Tryz.isAgg3
 z3:=Tryz.sizeOf3
 v3:=Tryz.zeroValue3
 t4:=Tryz.underlying4
 a4:=Tryz.isAgg4
 z4:=Tryz.sizeOf4
 v4:=Tryz.zeroValue4
 t5:=Tryz.underlying5
 a5:=Tryz.isAgg5
 z5:=Tryz.sizeOf5
 v5:=Tryz.zeroValue5
 t9:=Tryz.underlying9
 a9:=Tryz.isAgg9
 z9:=Tryz.sizeOf9
 v9:=Tryz.zeroValue9
 t20:=Tryz.underlying20
 a20:=Tryz.isAgg20
 z20:=Tryz.sizeOf20
 v20:=Tryz.zeroValue20
 t37:=Tryz.underlying65
 a37:=Tryz.isAgg65
 z37:=Tryz.sizeOf65
 v37:=Tryz.zeroValue65
 t46:=Tryz.underlying160
 a46:=Tryz.isAgg160
 z46:=Tryz.sizeOf160
 v46:=Tryz.zeroValue160
 t51:=Tryz.underlying179
 a51:=Tryz.isAgg179
 z51:=Tryz.sizeOf179
 v51:=Tryz.zeroValue179
 t53:=Tryz.underlying123
 a53:=Tryz.isAgg123
 z53:=Tryz.sizeOf123
 v53:=Tryz.zeroValue123
 t171:=Tryz.underlying226
 a171:=Tryz.isAgg226
 z171:=Tryz.sizeOf226
 v171:=Tryz.zeroValue226
 t173:=Tryz.underlying229
 a173:=Tryz.isAgg229
 z173:=Tryz.sizeOf229
 v173:=Tryz.zeroValue229
 t212:=Tryz.underlying233
 a212:=Tryz.isAgg233
 z212:=Tryz.sizeOf233
 v212:=Tryz.zeroValue233
 t213:=Tryz.underlying234
 a213:=Tryz.isAgg234
 z213:=Tryz.sizeOf234
 t232:=Tryz.underlying238
 a232:=Tryz.isAgg238
 z232:=Tryz.sizeOf238
 v232:=Tryz.zeroValue238
 t233:=Tryz.underlying239
 a233:=Tryz.isAgg239
 z233:=Tryz.sizeOf239
 v233:=Tryz.zeroValue239
 g17:=by kernel_rfl
 g18:=by kernel_rfl
 g19:=by kernel_rfl
 i0:=by kernel_rfl
 i2:=by kernel_rfl
 i3:=by kernel_rfl
 i4:=by kernel_rfl
 i5:=by kernel_rfl
 i9:=by kernel_rfl
 i20:=by kernel_rfl
 i37:=by kernel_rfl
 i46:=by kernel_rfl
 i51:=by kernel_rfl
 i53:=by kernel_rfl
 i171:=by kernel_rfl
 i173:=by kernel_rfl
 i212:=by kernel_rfl
 i232:=by kernel_rfl
 i233:=by kernel_rfl
 m17:=by kernel_rfl
 m18:=by kernel_rfl
 m19:=by kernel_rfl}
open Go.RowKit Go.Sort Go.Lib in
theorem Tryz.strconv_Itoa(n:Int)(h0: -9223372036854775808<=n)(h1:n<=9223372036854775807)(w:World)(Fv:Lib.TabIs Tryz.prog w "internal/strconv.uint64pow10" .u64 Lib.pow10Tab):
 Calls Tryz.prog 121 #[.int .i64 n] w λe w'=>e= .returned (.string ⟨(Lib.itoa n).toArray⟩)/\ ∃k os,w'=grow (w.drewN k) os:=Any.strconv_Itoa Tryz.QD n h0 h1 w Fv
def Tryz.CW:Go.Shelf.Ren:=⟨λ|172=>108 |244=>118 |245=>119 |247=>135 |279=>136 |280=>137 |281=>138 |282=>139 |287=>146 |316=>147 |171=>121 |205=>148 |321=>152 |322=>153 |243=>140 |246=>149 |283=>154 |284=>155 |285=>156 |286=>157 |129=>161 |317=>160 |318=>162 |319=>163 |320=>164 |337=>165 |338=>166 |n=>n,λ|9=>9 |3=>3 |75=>70 |76=>71 |4=>4 |5=>5 |167=>207 |37=>65 |0=>0 |85=>208 |2=>2 |168=>210 |53=>123 |175=>215 |46=>160 |210=>218 |127=>124 |145=>225 |143=>223 |21=>21 |171=>226 |173=>229 |212=>233 |51=>179 |20=>20 |213=>234 |232=>238 |233=>239 |80=>75 |n=>n,λ|15=>3 |16=>4 |17=>5 |18=>6 |19=>7 |n=>n⟩
theorem Tryz.ye:Go.Proofs.LaysC.n172 Tryz.prog Tryz.CW:={
 mixed:=by kernel_rfl
 f129:=Tryz.func161.trans (congrArg some (by kernel_rfl))
 f171:=Tryz.func121.trans (congrArg some (by kernel_rfl))
 f172:=Tryz.func108.trans (congrArg some (by kernel_rfl))
 f205:=Tryz.func148.trans (congrArg some (by kernel_rfl))
 f243:=Tryz.func140.trans (congrArg some (by kernel_rfl))
 f244:=Tryz.func118.trans (congrArg some (by kernel_rfl))
 f245:=Tryz.func119.trans (congrArg some (by kernel_rfl))
 f246:=Tryz.func149.trans (congrArg some (by kernel_rfl))
 f247:=Tryz.func135.trans (congrArg some (by kernel_rfl))
 f279:=Tryz.func136.trans (congrArg some (by kernel_rfl))
 f280:=Tryz.func137.trans (congrArg some (by kernel_rfl))
 f281:=Tryz.func138.trans (congrArg some (by kernel_rfl))
 f282:=Tryz.func139.trans (congrArg some (by kernel_rfl))
 f283:=Tryz.func154.trans (congrArg some (by kernel_rfl))
 f284:=Tryz.func155.trans (congrArg some (by kernel_rfl))
 f285:=Tryz.func156.trans (congrArg some (by kernel_rfl))
 f286:=Tryz.func157.trans (congrArg some (by kernel_rfl))
 f287:=Tryz.func146.trans (congrArg some (by kernel_rfl))
 f316:=Tryz.func147.trans (congrArg some (by kernel_rfl))
 f317:=Tryz.func160.trans (congrArg some (by kernel_rfl))
 f318:=Tryz.func162.trans (congrArg some (by kernel_rfl))
 f319:=Tryz.func163.trans (congrArg some (by kernel_rfl))
 f320:=Tryz.func164.trans (congrArg some (by kernel_rfl))
 f321:=Tryz.func152.trans (congrArg some (by kernel_rfl))
 f322:=Tryz.func153.trans (congrArg some (by kernel_rfl))
 f337:=Tryz.func165.trans (congrArg some (by kernel_rfl))
 f338:=Tryz.func166.trans (congrArg some (by kernel_rfl))
 t0:=Tryz.underlying0
 a0:=Tryz.isAgg0
 z0:=Tryz.sizeOf0
 v0:=Tryz.zeroValue0
 t2:=Tryz.underlying2
 a2:=Tryz.isAgg2
 z2:=Tryz.sizeOf2
 v2:=Tryz.zeroValue2
 t3:=Tryz.underlying3
 a3:=Tryz.isAgg3
 z3:=Tryz.sizeOf3
 v3:=Tryz.zeroValue3
 t4:=Tryz.underlying4
 a4:=Tryz.isAgg4
 z4:=Tryz.sizeOf4
 v4:=Tryz.zeroValue4
 t5:=Tryz.underlying5
 a5:=Tryz.isAgg5
 z5:=Tryz.sizeOf5
 v5:=Tryz.zeroValue5
 t9:=Tryz.underlying9
 a9:=Tryz.isAgg9
 z9:=Tryz.sizeOf9
 v9:=Tryz.zeroValue9
 t20:=Tryz.underlying20
 a20:=Tryz.isAgg20
 z20:=Tryz.sizeOf20
 v20:=Tryz.zeroValue20
 t21:=Tryz.underlying21
 a21:=Tryz.isAgg21
 z21:=Tryz.sizeOf21
 v21:=Tryz.zeroValue21
 t37:=Tryz.underlying65
 a37:=Tryz.isAgg65
 z37:=Tryz.sizeOf65
 v37:=Tryz.zeroValue65
 t46:=Tryz.underlying160
 a46:=Tryz.isAgg160
 z46:=Tryz.sizeOf160
 v46:=Tryz.zeroValue160
 t51:=Tryz.underlying179
 a51:=Tryz.isAgg179
 z51:=Tryz.sizeOf179
 v51:=Tryz.zeroValue179
 t53:=Tryz.underlying123
 a53:=Tryz.isAgg123
 z53:=Tryz.sizeOf123
 v53:=Tryz.zeroValue123
 t75:=Tryz.underlying70
 a75:=Tryz.isAgg70
 z75:=Tryz.sizeOf70
 v75:=Tryz.zeroValue70
 t76:=Tryz.underlying71
 a76:=Tryz.isAgg71
 z76:=Tryz.sizeOf71
 v76:=Tryz.zeroValue71
 t85:=Tryz.underlying208
 a85:=Tryz.isAgg208
 z85:=Tryz.sizeOf208
 v85:=Tryz.zeroValue208
 t127:=Tryz.underlying124
 a127:=Tryz.isAgg124
 z127:=Tryz.sizeOf124
 v127:=Tryz.zeroValue124
 t143:=Tryz.underlying223
 a143:=Tryz.isAgg223
 z143:=Tryz.sizeOf223
 v143:=Tryz.zeroValue223
 t145:=Tryz.underlying225
 a145:=Tryz.isAgg225
 z145:=Tryz.sizeOf225
 v145:=Tryz.zeroValue225
 t167:=Tryz.underlying207
 a167:=Tryz.isAgg207
 z167:=Tryz.sizeOf207
 v167:=Tryz.zeroValue207
 t168:=Tryz.underlying210
 a168:=Tryz.isAgg210
 z168:=Tryz.sizeOf210
 v168:=Tryz.zeroValue210
 t171:=Tryz.underlying226
 a171:=Tryz.isAgg226
 z171:=Tryz.sizeOf226
 v171:=Tryz.zeroValue226
 t173:=Tryz.underlying229
 a173:=Tryz.isAgg229
 z173:=Tryz.sizeOf229
 v173:=Tryz.zeroValue229
 t175:=Tryz.underlying215
 a175:=Tryz.isAgg215
 z175:=Tryz.sizeOf215
 v175:=Tryz.zeroValue215
 t210:=Tryz.underlying218
 a210:=Tryz.isAgg218
 z210:=Tryz.sizeOf218
 v210:=Tryz.zeroValue218
 t212:=Tryz.underlying233
 a212:=Tryz.isAgg233
 z212:=Tryz.sizeOf233
 v212:=Tryz.zeroValue233
 t213:=Tryz.underlying234
 a213:=Tryz.isAgg234
 z213:=Tryz.sizeOf234
 t232:=Tryz.underlying238
 a232:=Tryz.isAgg238
 z232:=Tryz.sizeOf238
 v232:=Tryz.zeroValue238
 t233:=Tryz.underlying239
 a233:=Tryz.isAgg239
 z233:=Tryz.sizeOf239
 v233:=Tryz.zeroValue239
 g15:=by kernel_rfl
 g16:=by kernel_rfl
 g17:=by kernel_rfl
 g18:=by kernel_rfl
 g19:=by kernel_rfl
 t80:=Tryz.underlying75
 a80:=Tryz.isAgg75
 z80:=Tryz.sizeOf75
 v80:=Tryz.zeroValue75
 i0:=by kernel_rfl
 i2:=by kernel_rfl
 i3:=by kernel_rfl
 i4:=by kernel_rfl
 i5:=by kernel_rfl
 i9:=by kernel_rfl
 i20:=by kernel_rfl
 i21:=by kernel_rfl
 i37:=by kernel_rfl
 i46:=by kernel_rfl
 i51:=by kernel_rfl
 i53:=by kernel_rfl
 i75:=by kernel_rfl
 i76:=by kernel_rfl
 i80:=by kernel_rfl
 i85:=by kernel_rfl
 i127:=by kernel_rfl
 i143:=by kernel_rfl
 i145:=by kernel_rfl
 i167:=by kernel_rfl
 i168:=by kernel_rfl
 i171:=by kernel_rfl
 i173:=by kernel_rfl
 i175:=by kernel_rfl
 i210:=by kernel_rfl
 i212:=by kernel_rfl
 i232:=by kernel_rfl
 i233:=by kernel_rfl
 m15:=by kernel_rfl
 m16:=by kernel_rfl
 m17:=by kernel_rfl
 m18:=by kernel_rfl
 m19:=by kernel_rfl
 c0:=by kernel_rfl
 c2:=by kernel_rfl
 c3:=by kernel_rfl
 c4:=by kernel_rfl
 c5:=by kernel_rfl
 c9:=by kernel_rfl
 c20:=by kernel_rfl
 c21:=by kernel_rfl
 c37:=by kernel_rfl
 c46:=by kernel_rfl
 c51:=by kernel_rfl
 c53:=by kernel_rfl
 c75:=by kernel_rfl
 c76:=by kernel_rfl
 c80:=by kernel_rfl
 c85:=by kernel_rfl
 c127:=by kernel_rfl
 c143:=by kernel_rfl
 c145:=by kernel_rfl
 c167:=by kernel_rfl
 c168:=by kernel_rfl
 c171:=by kernel_rfl
 c173:=by kernel_rfl
 c175:=by kernel_rfl
 c210:=by kernel_rfl
 c212:=by kernel_rfl
 c213:=by kernel_rfl
 c232:=by kernel_rfl
 c233:=by kernel_rfl}
open Go.RowKit in
theorem Tryz.strconv_Atoi_ok(s:ByteArray)(qh0:s.size<=9223372036854775806)(v:Int)(h:Lib.atoiAll s.data.toList= .ok v)(w:World):
 Calls Tryz.prog 108 #[.string s] w λe w'=>e= .returned (.tuple #[.int .i64 v,.nilIface])/\(w'=w\/ ∃t,w'=Lib.bytesWorld w 5 t):=Any.strconv_Atoi_ok Tryz.ye s qh0 v h w
open Go.RowKit in
theorem Tryz.strconv_Atoi_syntax(s:ByteArray)(Ck:s.size<=281474976710656)(h:(∀v,Lib.atoiAll s.data.toList≠ .ok v)/\Lib.atoiAll s.data.toList≠ .range)(ev:Value)(w:World)(hv:w.cell? ⟨3,0,none⟩=some ev)(dw:ev= .nilIface\/ ∃te pe,ev= .iface te pe):
 Calls Tryz.prog 108 #[.string s] w λe w'=> ∃N,e= .returned (.tuple #[.int .i64 (0),.iface 210 (.pointer (some ⟨N,0,none⟩))])/\w.heap.size<=N/\w'.heap[N]?=some (.cells #[.string ⟨#[65,116,111,105]⟩,.string s,ev] 218 (0,0))/\Below w.heap.size w w':=Any.strconv_Atoi_syntax Tryz.ye s Ck (by cases e:Lib.atoiAll s.data.toList with |ok v=>exact absurd e (h.1 v)|range=>exact absurd e h.2 |_=>rfl) ev w hv dw
open Go.RowKit in
theorem Tryz.strconv_Atoi_range(s:ByteArray)(Ck:s.size<=281474976710656)(h:Lib.atoiAll s.data.toList= .range)(ev:Value)(w:World)(hv:w.cell? ⟨4,0,none⟩=some ev)(dw:ev= .nilIface\/ ∃te pe,ev= .iface te pe):
 Calls Tryz.prog 108 #[.string s] w λe w'=> ∃N,e= .returned (.tuple #[.int .i64 (Lib.atoiSat s.data.toList),.iface 210 (.pointer (some ⟨N,0,none⟩))])/\w.heap.size<=N/\w'.heap[N]?=some (.cells #[.string ⟨#[65,116,111,105]⟩,.string s,ev] 218 (0,0))/\Below w.heap.size w w':=Any.strconv_Atoi_range Tryz.ye s Ck h ev w hv dw
def Tryz.Fw:Go.Shelf.Ren:=⟨λ|145=>89 |220=>107 |219=>117 |217=>131 |225=>132 |224=>133 |267=>134 |266=>144 |314=>145 |n=>n,λ|9=>9 |4=>4 |59=>172 |3=>3 |5=>5 |46=>160 |146=>180 |51=>179 |n=>n,λ|1=>2 |n=>n⟩
theorem Tryz.WT:Go.Proofs.Lays.n145 Tryz.prog Tryz.Fw:={
 mixed:=by kernel_rfl
 f145:=Tryz.func89.trans (congrArg some (by kernel_rfl))
 f217:=Tryz.func131.trans (congrArg some (by kernel_rfl))
 f219:=Tryz.func117.trans (congrArg some (by kernel_rfl))
 f220:=Tryz.func107.trans (congrArg some (by kernel_rfl))
 f224:=Tryz.func133.trans (congrArg some (by kernel_rfl))
 f225:=Tryz.func132.trans (congrArg some (by kernel_rfl))
 f266:=Tryz.func144.trans (congrArg some (by kernel_rfl))
 f267:=Tryz.func134.trans (congrArg some (by kernel_rfl))
 f314:=Tryz.func145.trans (congrArg some (by kernel_rfl))
 t3:=Tryz.underlying3
 a3:=Tryz.isAgg3
 z3:=Tryz.sizeOf3
 v3:=Tryz.zeroValue3
 t4:=Tryz.underlying4
 a4:=Tryz.isAgg4
 z4:=Tryz.sizeOf4
 v4:=Tryz.zeroValue4
 t5:=Tryz.underlying5
 a5:=Tryz.isAgg5
 z5:=Tryz.sizeOf5
 v5:=Tryz.zeroValue5
 t9:=Tryz.underlying9
 a9:=Tryz.isAgg9
 z9:=Tryz.sizeOf9
 v9:=Tryz.zeroValue9
 t46:=Tryz.underlying160
 a46:=Tryz.isAgg160
 z46:=Tryz.sizeOf160
 v46:=Tryz.zeroValue160
 t51:=Tryz.underlying179
 a51:=Tryz.isAgg179
 z51:=Tryz.sizeOf179
 v51:=Tryz.zeroValue179
 t59:=Tryz.underlying172
 a59:=Tryz.isAgg172
 z59:=Tryz.sizeOf172
 v59:=Tryz.zeroValue172
 t146:=Tryz.underlying180
 a146:=Tryz.isAgg180
 z146:=Tryz.sizeOf180
 v146:=Tryz.zeroValue180
 g1:=by kernel_rfl}
open Go.RowKit Go.Lib in
theorem Tryz.strings_Cut(s sep:ByteArray)(m:Int)(w:World)(hs:s.size<4294967281)(hm:w.cell? ⟨2,0,none⟩=some (.int .i64 m)):
 Calls Tryz.prog 89 #[.string s,.string sep] w λe w'=>e= .returned (.tuple #[.string ⟨(Lib.cut s.data.toList sep.data.toList).1.toArray⟩,.string ⟨(Lib.cut s.data.toList sep.data.toList).2.1.toArray⟩,.bool (Lib.cut s.data.toList sep.data.toList).2.2])/\ ∃n,w'=w.drewN n:=Any.strings_Cut Tryz.WT s sep m w hs hm
def Tryz.Fx:Go.Shelf.Ren:=⟨λ|148=>45 |222=>74 |223=>75 |269=>93 |n=>n,λ|9=>9 |3=>3 |4=>4 |5=>5 |146=>180 |51=>179 |46=>160 |n=>n,λ|n=>n⟩
theorem Tryz.WU:Go.Proofs.Lays.n148 Tryz.prog Tryz.Fx:={
 mixed:=by kernel_rfl
 f148:=Tryz.func45.trans (congrArg some (by kernel_rfl))
 f222:=Tryz.func74.trans (congrArg some (by kernel_rfl))
 f223:=Tryz.func75.trans (congrArg some (by kernel_rfl))
 f269:=Tryz.func93.trans (congrArg some (by kernel_rfl))
 t3:=Tryz.underlying3
 a3:=Tryz.isAgg3
 z3:=Tryz.sizeOf3
 v3:=Tryz.zeroValue3
 t4:=Tryz.underlying4
 a4:=Tryz.isAgg4
 z4:=Tryz.sizeOf4
 v4:=Tryz.zeroValue4
 t5:=Tryz.underlying5
 a5:=Tryz.isAgg5
 z5:=Tryz.sizeOf5
 v5:=Tryz.zeroValue5
 t9:=Tryz.underlying9
 a9:=Tryz.isAgg9
 z9:=Tryz.sizeOf9
 v9:=Tryz.zeroValue9
 t46:=Tryz.underlying160
 a46:=Tryz.isAgg160
 z46:=Tryz.sizeOf160
 v46:=Tryz.zeroValue160
 t51:=Tryz.underlying179
 a51:=Tryz.isAgg179
 z51:=Tryz.sizeOf179
 v51:=Tryz.zeroValue179
 t146:=Tryz.underlying180
 a146:=Tryz.isAgg180
 z146:=Tryz.sizeOf180
 v146:=Tryz.zeroValue180}
open Go.RowKit Go.Lib in
theorem Tryz.strings_LastIndex(s sub:ByteArray)(hs:s.size<4611686018427387904)(w:World):
 Calls Tryz.prog 45 #[.string s,.string sub] w λe w'=>e= .returned (.int .i64 (Lib.lastIndex s.data.toList sub.data.toList))/\w'=w:=Any.strings_LastIndex Tryz.WU s sub hs w
def Tryz.Fy:Go.Shelf.Ren:=⟨λ|146=>70 |221=>88 |268=>104 |138=>105 |143=>106 |195=>73 |197=>115 |218=>116 |219=>117 |260=>130 |217=>131 |225=>132 |224=>133 |267=>134 |266=>144 |314=>145 |n=>n,λ|9=>9 |31=>28 |3=>3 |4=>4 |0=>0 |105=>195 |21=>21 |5=>5 |46=>160 |119=>175 |139=>178 |138=>177 |146=>180 |51=>179 |n=>n,λ|1=>2 |3=>0 |4=>1 |n=>n⟩
theorem Tryz.WV:Go.Proofs.Lays.n146 Tryz.prog Tryz.Fy:={
 mixed:=by kernel_rfl
 f138:=Tryz.func105.trans (congrArg some (by kernel_rfl))
 f143:=Tryz.func106.trans (congrArg some (by kernel_rfl))
 f146:=Tryz.func70.trans (congrArg some (by kernel_rfl))
 f195:=Tryz.func73.trans (congrArg some (by kernel_rfl))
 f197:=Tryz.func115.trans (congrArg some (by kernel_rfl))
 f217:=Tryz.func131.trans (congrArg some (by kernel_rfl))
 f218:=Tryz.func116.trans (congrArg some (by kernel_rfl))
 f219:=Tryz.func117.trans (congrArg some (by kernel_rfl))
 f221:=Tryz.func88.trans (congrArg some (by kernel_rfl))
 f224:=Tryz.func133.trans (congrArg some (by kernel_rfl))
 f225:=Tryz.func132.trans (congrArg some (by kernel_rfl))
 f260:=Tryz.func130.trans (congrArg some (by kernel_rfl))
 f266:=Tryz.func144.trans (congrArg some (by kernel_rfl))
 f267:=Tryz.func134.trans (congrArg some (by kernel_rfl))
 f268:=Tryz.func104.trans (congrArg some (by kernel_rfl))
 f314:=Tryz.func145.trans (congrArg some (by kernel_rfl))
 t0:=Tryz.underlying0
 a0:=Tryz.isAgg0
 z0:=Tryz.sizeOf0
 v0:=Tryz.zeroValue0
 t3:=Tryz.underlying3
 a3:=Tryz.isAgg3
 z3:=Tryz.sizeOf3
 v3:=Tryz.zeroValue3
 t4:=Tryz.underlying4
 a4:=Tryz.isAgg4
 z4:=Tryz.sizeOf4
 v4:=Tryz.zeroValue4
 t5:=Tryz.underlying5
 a5:=Tryz.isAgg5
 z5:=Tryz.sizeOf5
 v5:=Tryz.zeroValue5
 t9:=Tryz.underlying9
 a9:=Tryz.isAgg9
 z9:=Tryz.sizeOf9
 v9:=Tryz.zeroValue9
 t21:=Tryz.underlying21
 a21:=Tryz.isAgg21
 z21:=Tryz.sizeOf21
 v21:=Tryz.zeroValue21
 t31:=Tryz.underlying28
 a31:=Tryz.isAgg28
 z31:=Tryz.sizeOf28
 v31:=Tryz.zeroValue28
 t46:=Tryz.underlying160
 a46:=Tryz.isAgg160
 z46:=Tryz.sizeOf160
 v46:=Tryz.zeroValue160
 t51:=Tryz.underlying179
 a51:=Tryz.isAgg179
 z51:=Tryz.sizeOf179
 v51:=Tryz.zeroValue179
 t105:=Tryz.underlying195
 a105:=Tryz.isAgg195
 z105:=Tryz.sizeOf195
 v105:=Tryz.zeroValue195
 t119:=Tryz.underlying175
 a119:=Tryz.isAgg175
 z119:=Tryz.sizeOf175
 t138:=Tryz.underlying177
 a138:=Tryz.isAgg177
 z138:=Tryz.sizeOf177
 v138:=Tryz.zeroValue177
 t139:=Tryz.underlying178
 a139:=Tryz.isAgg178
 z139:=Tryz.sizeOf178
 v139:=Tryz.zeroValue178
 t146:=Tryz.underlying180
 a146:=Tryz.isAgg180
 z146:=Tryz.sizeOf180
 v146:=Tryz.zeroValue180
 g1:=by kernel_rfl
 g3:=by kernel_rfl
 g4:=by kernel_rfl}
open Go.RowKit Go.Lib in
theorem Tryz.strings_Split(s sep:ByteArray)(m:Int)(w:World)(hs:s.size<4294967281)(hm:w.cell? ⟨2,0,none⟩=some (.int .i64 m))(h1:1<=sep.size):
 Calls Tryz.prog 70 #[.string s,.string sep] w λe w'=>e= .returned (.slice (some ⟨w.heap.size,0,none⟩) (Lib.countB s sep+1) (Lib.countB s sep+1))/\w'=w.alloc (.cells ((Lib.splitB sep 0 (Lib.countB s sep) s).map Value.string).toArray 9):=Any.strings_Split Tryz.WV (by kernel_rfl) s sep m w hs hm h1
def Tryz.Fz:Go.Shelf.Ren:=⟨λ|196=>72 |259=>92 |n=>n,λ|9=>9 |4=>4 |3=>3 |5=>5 |12=>12 |119=>175 |0=>0 |46=>160 |139=>178 |138=>177 |53=>123 |n=>n,λ|3=>0 |4=>1 |n=>n⟩
theorem Tryz.WW:Go.Proofs.Lays.n196 Tryz.prog Tryz.Fz:={
 mixed:=by kernel_rfl
 f196:=Tryz.func72.trans (congrArg some (by kernel_rfl))
 f259:=Tryz.func92.trans (congrArg some (by kernel_rfl))
 t0:=Tryz.underlying0
 a0:=Tryz.isAgg0
 z0:=Tryz.sizeOf0
 v0:=Tryz.zeroValue0
 t3:=Tryz.underlying3
 a3:=Tryz.isAgg3
 z3:=Tryz.sizeOf3
 v3:=Tryz.zeroValue3
 t4:=Tryz.underlying4
 a4:=Tryz.isAgg4
 z4:=Tryz.sizeOf4
 v4:=Tryz.zeroValue4
 t5:=Tryz.underlying5
 a5:=Tryz.isAgg5
 z5:=Tryz.sizeOf5
 v5:=Tryz.zeroValue5
 t9:=Tryz.underlying9
 a9:=Tryz.isAgg9
 z9:=Tryz.sizeOf9
 v9:=Tryz.zeroValue9
 t12:=Tryz.underlying12
 a12:=Tryz.isAgg12
 z12:=Tryz.sizeOf12
 v12:=Tryz.zeroValue12
 t46:=Tryz.underlying160
 a46:=Tryz.isAgg160
 z46:=Tryz.sizeOf160
 v46:=Tryz.zeroValue160
 t53:=Tryz.underlying123
 a53:=Tryz.isAgg123
 z53:=Tryz.sizeOf123
 v53:=Tryz.zeroValue123
 t119:=Tryz.underlying175
 a119:=Tryz.isAgg175
 z119:=Tryz.sizeOf175
 t138:=Tryz.underlying177
 a138:=Tryz.isAgg177
 z138:=Tryz.sizeOf177
 v138:=Tryz.zeroValue177
 t139:=Tryz.underlying178
 a139:=Tryz.isAgg178
 z139:=Tryz.sizeOf178
 v139:=Tryz.zeroValue178
 g3:=by kernel_rfl
 g4:=by kernel_rfl}
open Go.RowKit in
theorem Tryz.utf8_ValidString(s:ByteArray)(w:World)(hs:s.size<=9223372036854775807)(hT:Lib.Utf8Tabs 0 1 w):
 Calls Tryz.prog 72 #[.string s] w λe w'=>e= .returned (.bool (Lib.validD s.data.toList))/\Below w.heap.size w w':=Any.utf8_ValidString Tryz.WW s w hs hT
end Go.Proofs
namespace Pi
open Go Go.Proofs Go.RowKit Go.Shelf
def WX:List D->Option (List UInt8)
 | []=>some []
 | .int .u8 n::r=>if 0<=n/\n<256 then(match WX r with |some l=>some (UInt8.ofNat n.toNat::l)|none=>none) else none
 |_=>none
theorem KH: ∀l:List UInt8,WX (l.map λb=>D.int .u8 (b.toNat:Int))=some l
 | []=>rfl
 |b::l=>by have hb:=b.toNat_lt;simp only[zaO,WX,KH l];rw[zaq ⟨by omega,by omega⟩];simp
theorem FA: ∀(es:List D) (l:List UInt8),WX es=some l->es=l.map λb=>D.int .u8 (b.toNat:Int)
 | [],l,h=>by simp[WX] at h;subst h;rfl
 |x::r,l,h=>by
  unfold WX at h;split at h
  next heq=>cases heq
  next n r' heq=>
   simp only[zbX] at heq;obtain⟨rfl,rfl⟩:=heq;split at h
   ·rename_i hn;split at h
    next l' hl=>simp at h;subst h;rw[FA r l' hl];simp only[zaO,zbX,zdd];congr 1;simp only[zbL];omega
    cases h
   cases h
  cases h
def IE:TF
 | [.ref 0 v 0],R=>match lk R 0 with
  |some e=>if Nat.beq e.aR v then(match e.obj with
   | .box 67 [.d .ni,x]=>some (.bI [],ins 0 ⟨e.aR,e.tag,.box 67 [.ref 0 v 0,x]⟩ R)
   | .box 67 [.ref 0 v' 0,_]=>if Nat.beq v' v then some (.bI [],R) else none
   |_=>none) else none
  |none=>none
 |_,_=>none
def QE:TF
 | [.ref 0 v 0],R=>match lk R 0 with
  |some e=>if Nat.beq e.aR v then(match e.obj with
   | .box 67 [_,.d .dS]=>some (.d (.str []),R)
   | .box 67 [_,.sl m vm len]=>(match lk R m with
    |some em=>if Nat.beq em.aR vm then(match em.obj with
     | .arr 5 false es=>(match WX (es.take len) with
      |some l=>if Nat.beq l.length len&&Nat.blt 0 len then some (.d (.str l),ins m ⟨em.aR,em.tag,.gone⟩ R) else none
      |none=>none)
     |_=>none) else none
    |none=>none)
   |_=>none) else none
  |none=>none
 |_,_=>none
section
variable{w0:World}
theorem KI{F:Nat->Prop}{w:World}{G:Nat->Value}{R:List (Nat×En)}:aF F w G R (.tuple #[]) (.bI []):= .bI [] [] rfl (λi v c hv=>by simp at hv)
theorem CX{w:World}{b:Nat}{cs:Array Value}{T:TypeId}{fr:Nat×Nat}(h:w.heap[b]?=some (.cells cs T fr))(i:Nat)(v:Value):(w.setCell ⟨b,i,none⟩ v).heap[b]?=some (.cells (cs.setIfInBounds i v) T fr):=by simp[World.setCell,zbE,h]
theorem qR{w:World}{b c i:Nat}(h:c≠b)(v:Value):(w.setCell ⟨b,i,none⟩ v).heap[c]?=w.heap[c]?:=by simp[World.setCell,zbE,zbs h]
set_option maxHeartbeats 1000000 in
set_option maxRecDepth 100000 in
theorem qcd(b:Nat)(w:World)(h0:w.cell? ⟨b,0,none⟩=some (.pointer (some ⟨b,0,none⟩))):
  Calls Tryz.prog 47 #[.pointer (some ⟨b,0,none⟩)] w λe w'=>e= .returned (.tuple #[])/\w'=w:=by
 obtain⟨j,hj,_⟩:=zav.1 (show(Tryz.prog.info? 67).map (·.size)=some 2 by kernel_rfl);have a72:=Tryz.isAgg67;have z72:=Tryz.sizeOf67;have v72:=Tryz.zeroValue67;have u72:=run_underlying Tryz.underlying67;have a70:=Tryz.isAgg64;have z70:=Tryz.sizeOf64;have v70:=Tryz.zeroValue64;have u70:=run_underlying Tryz.underlying64;have a4:=Tryz.isAgg4;have z4:=Tryz.sizeOf4;have v4:=Tryz.zeroValue4;have u4:=run_underlying Tryz.underlying4;have qh1:=run_underlying Tryz.underlying161;have mixed:Tryz.prog.follows .mixedOrders=true:=by kernel_rfl
 go_enter Tryz.func47,Tryz.ntmps47
 go_wp2
 rw[Lib.run_neq_ptr_same w _ Tryz.underlying64 hj]
 go_wp2
 go_end0
 exact⟨rfl,rfl⟩
set_option maxHeartbeats 1000000 in
set_option maxRecDepth 100000 in
theorem WY(b:Nat)(w:World)(h0:w.cell? ⟨b,0,none⟩=some (.pointer none))(Og:w.shape? b=some (67,2))(DP:w.frozen? ⟨b,0,none⟩=false):
  Calls Tryz.prog 47 #[.pointer (some ⟨b,0,none⟩)] w λe w'=>e= .returned (.tuple #[])/\w'=w.setCell ⟨b,0,none⟩ (.pointer (some ⟨b,0,none⟩)):=by
 obtain⟨j,hj,hjs⟩:=zav.1 (show(Tryz.prog.info? 67).map (·.size)=some 2 by kernel_rfl);have hlb:liesAt Tryz.prog Tryz.prog.depth 67 (2/Tryz.prog.cellsOf 67) 0 67 1=true:=by kernel_rfl
 have a72:=Tryz.isAgg67;have z72:=Tryz.sizeOf67;have v72:=Tryz.zeroValue67;have u72:=run_underlying Tryz.underlying67;have a70:=Tryz.isAgg64;have z70:=Tryz.sizeOf64;have v70:=Tryz.zeroValue64;have u70:=run_underlying Tryz.underlying64;have a4:=Tryz.isAgg4;have z4:=Tryz.sizeOf4;have v4:=Tryz.zeroValue4;have u4:=run_underlying Tryz.underlying4;have qh1:=run_underlying Tryz.underlying161;have mixed:Tryz.prog.follows .mixedOrders=true:=by kernel_rfl
 go_enter Tryz.func47,Tryz.ntmps47
 go_wp2
 rw[Lib.run_to_unsafe w ⟨b,0,none⟩ Tryz.underlying64 Tryz.underlying161 hj (by rw[hjs];decide) Og (Nat.zero_lt_succ 1)];simp only[Result.andThen];rw[Oper.upon_value]
 go_wp2
 rw[run_callFunc_extern Tryz.func76 (by kernel_rfl) (by kernel_rfl) (by kernel_rfl) (e:=Extern.AbiNoEscape.same) (by kernel_rfl)];rw[Lib.run_noEscape];simp only[Result.andThen];rw[Oper.upon_value]
 go_wp2
 rw[Lib.run_from_unsafe w ⟨b,0,none⟩ Tryz.underlying161 Tryz.underlying64 hj Og hlb];simp only[Result.andThen];rw[Oper.upon_value]
 go_wp2
 go_end0
 exact⟨rfl,rfl⟩
theorem MT:MP Tryz.prog w0 47 IE:=by
 intro h0 ps R p R1 h F G w vs hH hl hv;unfold IE at h;split at h
 next v=>
  match vs,hl,hv with
  | [u],_,hv=>
   have hp:=hv 0 u _ rfl rfl;split at h
   ·rename_i e he;split at h
    ·rename_i pr;have pr:=zah pr;have hO:=hH.rg 0 e he;cases hp with
     |ref _ _ _ _ hr h1=>
      split at h
      ·rename_i x bH;rw[bH] at hO;obtain⟨b,hG,rfl⟩:=hr.at he pr (by rw[bH];rfl);obtain⟨b',cs,jR,hh,cM,gb,mB⟩:=hO;rw[hG] at jR;simp at jR;subst jR;simp only[zak,zaL] at h;obtain⟨rfl,rfl⟩:=h;have c0:cs[0]?=some (.pointer none):=by
        have ML:0<cs.size:=by rw[cM];simp
        have:=mB 0 _ rfl;rw[sR ML];generalize cs.getD 0 undef=c at this;cases this with
        |d hd=>exact congrArg some (hd.fE rfl)
       have sB:b<w.heap.size:=(zau.1 hh).1;have iq:=WY b w (by rw[gi hh];exact c0) (by simp[World.shape?,hh,cM]) (by simp[World.frozen?,hh]);refine .inl ⟨enters Tryz.func47 (by kernel_rfl) (by kernel_rfl) _ w,iq.mono λe' w' ⟨cx,pJ⟩=>⟨_,cx,F,G,?_⟩⟩;subst pJ;have eS:oo G R 0 ⟨e.aR,e.tag,.box 67 [.ref 0 v 0,x]⟩ (G 0):=λe1 qK=>by rw[he] at qK;cases qK;exact .inr ⟨rfl,λ_=>⟨by rw[bH];rfl,rfl⟩⟩
       have ui:=fI eS;rw[bx] at ui;have PC: ¬F b:=hH.mg 0 e b he (by rw[bH];simp[bm,hG,aI]);have hF: ∀c,F c->(w.setCell ⟨b,0,none⟩ (.pointer (some ⟨b,0,none⟩))).heap[c]?=w.heap[c]?:=λc hc=>qR (λe=>PC (by rw[<-e];exact hc)) _;obtain⟨d1,d2⟩:=aB.mh hH (e1:=⟨e.aR,e.tag,.box 67 [.ref 0 v 0,x]⟩) (g1:=G 0) (w':=w.setCell ⟨b,0,none⟩ (.pointer (some ⟨b,0,none⟩))) eS
        (λc hc bk=>qR (λe'=>bk ⟨e,he,by rw[e',bH];simp[bm,hG,aI]⟩) _) (by simp[World.setCell]) rfl rfl rfl
        (λc hc=> .inr ⟨e,he,by rw[bH];exact hc⟩)
        (by
         rw[bx];refine⟨b,_,hG,CX hh 0 _,by simpa using cM,?_,?_⟩
         ·intro c hc;obtain⟨i,hi⟩:=List.mem_iff_getElem?.1 hc;rw[zbU,zdc] at hi;split at hi
          ·simp at hi;obtain⟨_,rfl⟩:=hi;rfl
          exact gb c (List.mem_iff_getElem?.2 ⟨i,by rw[zbU];exact hi⟩)
         intro i p hp
         match i with
         |0=>
          simp at hp;subst hp;have e0:(cs.setIfInBounds 0 (.pointer (some ⟨b,0,none⟩))).getD 0 undef= .pointer (some ⟨b,0,none⟩):=by
           have ML:0<cs.size:=by rw[cM];simp
           simp[zaA,ML]
          rw[e0];exact .ref 0 v 0 _ ⟨_,bp _ _ _,by rw[pr];exact zai _,λ_ _=>⟨b,hG,rfl⟩⟩ rfl
         |1=>
          simp at hp;subst hp;have e1:(cs.setIfInBounds 0 (.pointer (some ⟨b,0,none⟩))).getD 1 undef=cs.getD 1 undef:=by simp[zaA]
          rw[e1];exact(mB 1 x rfl).mono (λ_ h=>h) hF ui
         |i+2=>simp at hp)
        (λi hi hl=>hH.tag 0 e i he hi (by rw[bH];rfl))
       rw[bx] at d1 d2;exact⟨d1,KI,d2⟩
      ·rename_i v' x bH;split at h
       ·rename_i Em;have Em:=zah Em;subst Em;rw[bH] at hO;obtain⟨b,hG,rfl⟩:=hr.at he pr (by rw[bH];rfl);obtain⟨b',cs,jR,hh,cM,gb,mB⟩:=hO;rw[hG] at jR;simp at jR;subst jR;simp only[zak,zaL] at h;obtain⟨rfl,rfl⟩:=h;have c0:cs[0]?=some (.pointer (some ⟨b,0,none⟩)):=by
         have ML:0<cs.size:=by rw[cM];simp
         have:=mB 0 _ rfl;rw[sR ML];generalize cs.getD 0 undef=c at this;cases this with
         |ref _ _ _ _ hr2 _=>obtain⟨b2,hG2,rfl⟩:=hr2.at he pr (by rw[bH];rfl);rw[hG] at hG2;simp at hG2;subst hG2;rfl
        have iq:=qcd b w (by rw[gi hh];exact c0);refine .inl ⟨enters Tryz.func47 (by kernel_rfl) (by kernel_rfl) _ w,iq.mono λe' w' ⟨cx,pJ⟩=>⟨_,cx,F,G,?_⟩⟩;subst pJ;exact⟨hH,KI,Ext.refl _ _ _⟩
       cases h
      cases h
    cases h
   cases h
 cases h
theorem FB{w:World}{g c n:Nat}(h:c≠g):(w.freeze ⟨g,0,none⟩ n).heap[c]?=w.heap[c]?:=by
 unfold World.freeze;split
 ·rfl
 simp[zbE,zbs h]
theorem FE{w:World}{g n:Nat}:(w.freeze ⟨g,0,none⟩ n).heap.size=w.heap.size:=by
 unfold World.freeze;split
 ·rfl
 simp
set_option maxHeartbeats 2000000 in
set_option maxRecDepth 100000 in
theorem WZ(b g cap len:Nat)(p:Value)(cur:Array Value)(l:List UInt8)(w:World)(hbk:w.heap[b]?=some (.cells #[p,.slice (some ⟨g,0,none⟩) len cap] 67 (0,0)))(hg:w.heap[g]?=some (.cells cur 5 (0,0)))
  (h0:l≠[]) (hlen:l.length=len) (zC:len<=cap) (tL:cap<=maxLen) (hcs:cap<=cur.size) (hb: ∀(j:Nat) (x:UInt8),l[j]?=some x->cur[j]?=some (Value.int IntKind.u8 (x.toNat:Int))):
  Calls Tryz.prog 21 #[.pointer (some ⟨b,0,none⟩)] w λe w'=>e= .returned (.string ⟨l.toArray⟩)/\w'=w.drew.freeze ⟨g,0,none⟩ l.length:=by
 subst hlen;have L:=Tryz.CU;have X:=Tryz.hJ;have Kj:l.length≠0:=by simpa using h0
 have c1:w.drew.cell? ⟨b,1,none⟩=some (.slice (some ⟨g,0,none⟩) l.length cap):=by have:w.drew.heap[b]?=some (.cells #[p,.slice (some ⟨g,0,none⟩) l.length cap] 67 (0,0)):=hbk;rw[Lib.cell_of_heap this];rfl
 have hSD:(Builtin.unsafeSliceData_ #[(Tryz.bg.t 37)] (Tryz.bg.t 127) #[.slice (some ⟨g,0,none⟩) l.length cap]).run Tryz.prog w.drew= .ok (.pointer (some ⟨g,0,none⟩)) w.drew:=
  Lib.run_unsafeSliceData_row _ _ _ _ _ _ (by omega)
 have hUS:(Builtin.unsafeString_ #[(Tryz.bg.t 127),(Tryz.bg.t 3)] (Tryz.bg.t 9) #[.pointer (some ⟨g,0,none⟩),.int .i64 l.length]).run Tryz.prog w.drew= .ok (.string ⟨l.toArray⟩) (w.drew.freeze ⟨g,0,none⟩ l.length):=by refine Lib.run_unsafeString_row w.drew (Tryz.bg.t 127) (Tryz.bg.t 3) (Tryz.bg.t 9) (Tryz.bg.t 5) L.t127 X.cellsByte g cur.size (by have AJ:w.drew.heap[g]?=some (.cells cur (Tryz.bg.t 5) (0,0)):=hg;simp[World.shape?,AJ]) l h0 (by omega) (by unfold maxLen at tL;omega) ?_;intro j x hx;have AJ:w.drew.heap[g]?=some (.cells cur 5 (0,0)):=hg;rw[show(⟨g,0,none⟩:Addr).add j=⟨g,j,none⟩ by cases j<;>simp[Addr.add],gi AJ];exact hb j x hx
 have mixed:=L.mixed;have t72:=L.t72;have a72:=L.a72;have z72:=L.z72;have v72:=L.v72;have u72:=run_underlying L.t72;have t70:=L.t70;have a70:=L.a70;have z70:=L.z70;have v70:=L.v70;have u70:=run_underlying L.t70;have t37:=L.t37;have a37:=L.a37;have z37:=L.z37;have v37:=L.v37;have u37:=run_underlying L.t37;have t127:=L.t127;have a127:=L.a127;have z127:=L.z127;have v127:=L.v127;have qh2:=run_underlying L.t127;have t3:=L.t3;have a3:=L.a3;have z3:=L.z3;have v3:=L.v3;have u3:=run_underlying L.t3;have t9:=L.t9;have a9:=L.a9;have z9:=L.z9;have v9:=L.v9;have u9:=run_underlying L.t9;have t5:=X.t5;have a5:=X.a5;have z5:=X.z5;have v5:=X.v5;have u5:=run_underlying X.t5
 go_enter L.f169,Body.n169_ntmps Tryz.bg
 go_wp2
 go_region_o
 all_goals (go_wp2;go_ret;exact⟨rfl,rfl⟩)
set_option maxHeartbeats 2000000 in
set_option maxRecDepth 100000 in
theorem W2(b:Nat)(p:Value)(w:World)(hbk:w.heap[b]?=some (.cells #[p,.slice none 0 0] 67 (0,0))):
  Calls Tryz.prog 21 #[.pointer (some ⟨b,0,none⟩)] w λe w'=>e= .returned (.string ⟨#[]⟩)/\w'=w.drew:=by
 have L:=Tryz.CU;have X:=Tryz.hJ;have hUS:=λW q=>Lib.run_unsafeString_none (P:=Tryz.prog) W (Tryz.bg.t 127) (Tryz.bg.t 3) (Tryz.bg.t 9) q;have c1:w.drew.cell? ⟨b,1,none⟩=some (.slice none 0 0):=by have:w.drew.heap[b]?=some (.cells #[p,.slice none 0 0] 67 (0,0)):=hbk;rw[Lib.cell_of_heap this];rfl
 have hSD:(Builtin.unsafeSliceData_ #[(Tryz.bg.t 37)] (Tryz.bg.t 127) #[.slice none 0 0]).run Tryz.prog w.drew= .ok (.pointer none) w.drew:=rfl;have mixed:=L.mixed;have t72:=L.t72;have a72:=L.a72;have z72:=L.z72;have v72:=L.v72;have u72:=run_underlying L.t72;have t70:=L.t70;have a70:=L.a70;have z70:=L.z70;have v70:=L.v70;have u70:=run_underlying L.t70;have t37:=L.t37;have a37:=L.a37;have z37:=L.z37;have v37:=L.v37;have u37:=run_underlying L.t37;have t127:=L.t127;have a127:=L.a127;have z127:=L.z127;have v127:=L.v127;have qh2:=run_underlying L.t127;have t3:=L.t3;have a3:=L.a3;have z3:=L.z3;have v3:=L.v3;have u3:=run_underlying L.t3;have t9:=L.t9;have a9:=L.a9;have z9:=L.z9;have v9:=L.v9;have u9:=run_underlying L.t9;have t5:=X.t5;have a5:=X.a5;have z5:=X.z5;have v5:=X.v5;have u5:=run_underlying X.t5
 go_enter L.f169,Body.n169_ntmps Tryz.bg
 go_wp2
 go_region_o
 all_goals (go_wp2;go_ret;exact⟨rfl,rfl⟩)
theorem eZ.drew{T:Tg}{F:Nat->Prop}{G:Nat->Value}{w:World}{R:List (Nat×En)}(h:eZ Tryz.prog T F G w R):eZ Tryz.prog T F G w.drew R:=by have hn:Names G G R R:=Names.refl G R;exact⟨h.r0,h.size,λt p hp=>by simp[lk] at hp,λn e he=>(h.rg n e he).mono (λ_ h=>h) (λ_ _=>rfl) hn rfl (λ_ _=>rfl),h.own,h.mg,h.ja,h.tag,h.z,Nat.le_succ_of_le h.dr,h.sz⟩
theorem Bi{cs:Array Value}(h:cs.size=2):cs= #[cs.getD 0 undef,cs.getD 1 undef]:=by
 apply Array.ext
 ·simp[h]
 intro i h1 h2;have:i=0\/i=1:=by simp at h2;omega
 rcases this with rfl |rfl<;>simp[Array.getD,h]
theorem W3:MP Tryz.prog w0 21 QE:=by
 intro h0 ps R p R1 h F G w vs hH hl hv;unfold QE at h;split at h
 next v=>
  match vs,hl,hv with
  | [u],_,hv=>
   have hp:=hv 0 u _ rfl rfl;split at h
   ·rename_i e he;split at h
    ·rename_i pr;have pr:=zah pr;have hO:=hH.rg 0 e he;cases hp with
     |ref _ _ _ _ hr h1=>
      have hce:=enters Tryz.func21 (by kernel_rfl) (by kernel_rfl);split at h
      ·rename_i x bH;rw[bH] at hO;obtain⟨b,hG,rfl⟩:=hr.at he pr (by rw[bH];rfl);obtain⟨b',cs,jR,hh,cM,gb,mB⟩:=hO;rw[hG] at jR;simp at jR;subst jR;simp only[zak,zaL] at h;obtain⟨rfl,rfl⟩:=h;have e1:cs.getD 1 undef= .slice none 0 0:=by
        have:=mB 1 _ rfl;generalize cs.getD 1 undef=c at this;cases this with
        |d hd=>exact hd.fE rfl
       have h2:=Bi (by simpa using cM);rw[e1] at h2;rw[h2] at hh;refine .inl ⟨hce _ w,(W2 b _ w hh).mono λe' w' ⟨cx,pJ⟩=>⟨_,cx,F,G,?_,.d (.str []),?_⟩⟩
       ·subst pJ;exact hH.drew
       subst pJ;exact⟨λ_ h=>h,λ_ h=> .inl h,λ_ h=> .inl h,λ_ _ _=>rfl,zai _,rfl,rfl,rfl⟩
      ·rename_i x m vm len bH;rw[bH] at hO;obtain⟨b,hG,rfl⟩:=hr.at he pr (by rw[bH];rfl);obtain⟨b',cs,jR,hh,cM,gb,mB⟩:=hO;rw[hG] at jR;simp at jR;subst jR;split at h
       ·rename_i em hem;split at h
        ·rename_i hvm;have hvm:=zah hvm;split at h
         ·rename_i es hoe;split at h
          ·rename_i l hl8;split at h
           ·rename_i dZ;simp only[zad,Nat.blt_eq] at dZ;have sC:=zah dZ.1;simp only[zak,zaL] at h;obtain⟨rfl,rfl⟩:=h;have uu:=mB 1 _ rfl;have hOm:=hH.rg m em hem;rw[hoe] at hOm;have h2:=Bi (by simpa using cM);generalize cs.getD 1 undef=c1 at uu h2;cases uu with
            |sl _ _ _ _ _ hrm=>
             obtain⟨a,N,cap,hGm,rfl,hlN⟩:=hrm.at hem hvm (by rw[hoe];rfl);have WD:=FA _ _ hl8;have AA:len<=es.length:=by have:=congrArg List.length WD;simp at this;omega
             rcases hOm with⟨_,rfl⟩| ⟨g,ig,cur,k,qce,hg,hk,kq,hle,tL,hcs,_,hE⟩
             ·simp at AA;omega
             rw[hGm] at qce;simp only[Value.slice.injEq] at qce;obtain⟨rfl,rfl,rfl⟩:=qce;have gJ:k=1:=by
              have:sz Tryz.prog 5=some 1:=by kernel_rfl
              rw[this] at hk;exact(zb9 hk).symm
             subst gJ;rw[h2] at hh;have cU:l≠[]:=λe0=>by subst e0;simp at sC;omega
             have bU: ∀(j:Nat) (x:UInt8),l[j]?=some x->cur[j]?=some (.int .u8 x.toNat):=λj x hx=>by
              have hj:j<l.length:=(zae.1 hx).1;have hej:es[j]?=some (.int .u8 x.toNat):=by
               have:(es.take len)[j]?=some (D.int .u8 (x.toNat:Int)):=by rw[WD,zaD,hx];rfl
               rw[zbr] at this;split at this
               ·exact this
               cases this
              obtain⟨q1,q2,q3⟩:=hE j _ hej;have:=q3 0 _ rfl;rw[sR (by omega)];simp only[zcS,zbV] at this;rw[this.fE rfl]
             refine .inl ⟨hce _ w,(WZ b g cap len _ cur l w hh hg cU sC (by omega) tL (by omega) bU).mono λe' w' ⟨cx,pJ⟩=>⟨_,cx,F,G,?_⟩⟩;subst pJ;have eS:oo G R m ⟨em.aR,em.tag,.gone⟩ (G m):=λe1 qK=>by rw[hem] at qK;cases qK;exact .inr ⟨rfl,λWm=>by cases Wm⟩
             obtain⟨d1,d2⟩:=aB.mh hH (e1:=⟨em.aR,em.tag,.gone⟩) (g1:=G m) (w':=w.drew.freeze ⟨g,0,none⟩ l.length) (hdr:=by unfold World.freeze;split<;>exact zcR _) eS
              (λc hc bk=>FB (λe'=>bk ⟨em,hem,by rw[e',hoe];simp[bm,hGm,aI]⟩)) (by rw[FE];exact zai _) (by unfold World.freeze;split<;>rfl) (by unfold World.freeze;split<;>rfl) (by unfold World.freeze;split<;>rfl)
              (λc hc=>by simp[bm] at hc) trivial (λi _ Wm=>by cases Wm)
             rw[bx] at d1 d2;exact⟨d1,.d (.str l),d2⟩
           cases h
          cases h
         cases h
        cases h
       cases h
      cases h
    cases h
   cases h
 cases h
end
end Pi
namespace Pi
open Go Go.Proofs
set_option maxRecDepth 100000
set_option maxHeartbeats 0
def qfD:List (Nat×List (Nat×List Nat×List Nat)):=[(3,[(6,[3,4,5],[2,3,4])]),
 (5,[(4,[0,3,4,5],[4])]),
 (6,[(3,[0,3,4],[3])]),
 (7,[(8,[0,4,5,6],[2,3,4])]),
 (8,[(8,[5,23,24,25],[5])]),
 (9,[(3,[4,5,7,8],[5,7,8])]),
 (10,[(4,[0,1,5],[4])]),
 (11,[(7,[0,2,3,4,5,6],[0,2,3,4,5]),(11,[0,2,3,4,5,6,7,8],[0,2,3,4,5,6]),(20,[0,2,3,4,5,6,7,8,9,10],[0,2,3,4,5,6,7,8])]),
 (12,[(3,[0,3,4],[3])]),
 (14,[(5,[2,3,4,5,6,7],[2,3,4,5,6])]),
 (15,[(2,[0,3],[0,2])]),
 (16,[(3,[3,4,17,18,19],[2])]),
 (22,[(2,[0,2,5],[0,2,3,4,5])]),
 (24,[(3,[0,3,4],[3])]),
 (25,[(4,[3,4,5],[4]),(8,[3,4,5,6,7],[3,4,5,6]),(15,[4,8,9],[8])]),
 (26,[(3,[0,3,4],[3])]),
 (27,[(2,[0,3,5],[0,4])]),
 (28,[(3,[0,1,5,6],[5]),(6,[0,1,5,6,7],[0,1,5,6]),(9,[0,1,5,6,7,8],[0,1,5,6,7])]),
 (29,[(4,[5,6,7],[6]),(14,[5,6,7,10],[5,6,7])]),
 (30,[(4,[1,5,6,7],[6]),(9,[1,5,6,7,9],[1,5,6,7])]),
 (31,[(3,[0,1,5,6],[5]),(9,[0,1,5,6,8],[0,1,5,6])]),
 (32,[(4,[1,2,7,8,9],[8])]),
 (33,[(3,[0,3,5,6],[5]),(6,[0,3,5,6,7],[0,3,5,6])]),
 (34,[(3,[0,1,5,7,8],[7]),(6,[0,1,5,7,8,9],[0,1,5,7,8])]),
 (35,[(3,[0,1,5,6],[5])]),
 (36,[(3,[0,1,5,6],[5])]),
 (38,[(3,[0,3,4],[3])]),
 (40,[(5,[0,1,2,8,9],[8])]),
 (41,[(3,[0,2,4,5],[0,2,3,4])]),
 (42,[(4,[0,3],[2])]),
 (43,[(8,[6,22,23,24],[2,3,6])]),
 (46,[(1,[0,1],[0,1])]),
 (49,[(11,[1,3,4],[2])]),
 (50,[(2,[0,3,5],[0,4])]),
 (51,[(3,[0,3,4],[3]),(7,[0,3,4,5,6],[0,3,4,5]),(13,[0,3,4,7],[0,3,4])]),
 (52,[(3,[0,1,5,6],[5]),(7,[0,1,5,6,7,8],[0,1,5,6,7]),(13,[0,1,5,6,9],[0,1,5,6])]),
 (53,[(2,[0,4,5,7],[0,6])]),
 (54,[(2,[0,3,5],[0,4])]),
 (56,[(4,[0,1,5,6],[5]),(8,[0,1,5,6,7,8],[0,1,5,6,7])]),
 (57,[(2,[0,3,5],[5])]),
 (58,[(2,[0,3,5],[0,4])]),
 (59,[(2,[0,3,5],[4])]),
 (60,[(4,[3,4,5],[4])]),
 (61,[(2,[0,3],[0,3])]),
 (62,[(3,[0,1,5,6],[5]),(6,[0,1,5,6,7],[0,1,5,6])]),
 (65,[(3,[0,1,5,7,8],[7]),(8,[0,1,5,7,8,9],[0,1,5,7,8])]),
 (66,[(4,[5,6,7],[6]),(8,[5,6,7,8],[5,6,7])]),
 (67,[(3,[0,4,5],[0,4,5])]),
 (72,[(1,[0],[2]),(9,[0],[0])]),
 (73,[(2,[2,4],[2])]),
 (74,[(2,[0,1,5],[4])]),
 (75,[(6,[0,1,5,6,7,8,9,10],[0,1,5,6,7,8,9]),(12,[0,1,5,6,7,9,11],[4])]),
 (78,[(2,[0,3],[0,2])]),
 (82,[(3,[0,3,4],[3])]),
 (83,[(2,[0,3,5],[4])]),
 (84,[(2,[0,3,5],[3,4])]),
 (85,[(3,[0,3,4],[3]),(8,[0,3,4,5,7,8],[0,3,4]),(13,[0,3,4,5,7,8,9,10,11],[0,3,4,5,7,8,9,10])]),
 (86,[(3,[0,3,5,6],[5]),(8,[0,3,5,6,7],[0,3,5,6])]),
 (88,[(11,[0,1,2,3,9,10],[0,9,10])]),
 (90,[(6,[0,2,5,16,17,18],[0,2,5])]),
 (93,[(3,[0,4,5],[0,4]),(8,[4,6,7,8],[4,6])]),
 (94,[(4,[0,1,5],[4])]),
 (98,[(2,[1,2,5],[1,4])]),
 (100,[(2,[1,2,3,7],[1,6])]),
 (102,[(2,[0,4],[2,3,4])]),
 (104,[(6,[0,1,6,7],[0,1,6])]),
 (105,[(6,[0,1,5],[4])]),
 (114,[(16,[0,5,7,8],[2,3,4,5,7])]),
 (117,[(15,[0,1,5,6,7,8,9,10],[4])]),
 (118,[(10,[5,6,47,48,49],[2,3,5,6])]),
 (122,[(1,[0,1],[0])]),
 (123,[(1,[0,1],[0])]),
 (124,[(2,[0,2,4],[2,3])]),
 (125,[(1,[0,1],[0,1])]),
 (126,[(1,[0,1],[0,1])]),
 (127,[(1,[0,1],[0])]),
 (128,[(1,[0,1],[0])]),
 (129,[(4,[0,3],[0,3])]),
 (134,[(5,[0,1,5,6,7,8,9],[0,1,5,6,7,8]),(11,[0,1,5,6,7,8,10],[4])]),
 (143,[(10,[0,4,5,6],[0,4,5])]),
 (145,[(3,[0,4,5],[0,4]),(8,[4,6,7,8],[4,6])]),
 (146,[(36,[1,8,9,10,11,12,13,99,100,101],[6,7,9,12,13])]),
 (150,[(38,[175],[4]),(5,[0,7,8,9],[4]),(12,[0,7,8,9,12],[8,9]),(25,[0,7,8,9,14,15],[4]),(29,[0,7,8,9,14,15,16],[0,7,8,9,14,15])]),
 (153,[(10,[0,3,4,5],[2,3])]),
 (156,[(1,[0,1,4],[0,1,4])]),
 (157,[(11,[0,1,3,4,10,11,12,13,14,15,16],[0,1,3,4,10,11,12,13]),(18,[0,1,3,4,10,11,12,13,17],[0,1,3,4,10,11,12,13])])]
def qcf:List (Nat×List (Nat×Nat)):=[(11,[(18,1),(22,1),(24,1)]),
 (13,[(3,1)]),
 (16,[(7,1)]),
 (21,[(1,1)]),
 (23,[(4,1)]),
 (29,[(16,1)]),
 (30,[(7,1),(11,1)]),
 (31,[(11,1)]),
 (36,[(5,1)]),
 (39,[(7,1),(9,1),(11,6),(12,1),(14,6),(16,1),(20,1)]),
 (41,[(14,1)]),
 (49,[(1,1)]),
 (51,[(15,1)]),
 (52,[(15,1)]),
 (65,[(10,1)]),
 (66,[(10,1)]),
 (72,[(7,1),(9,1)]),
 (85,[(10,1)]),
 (86,[(10,1)]),
 (110,[(3,1)]),
 (113,[(3,1)]),
 (136,[(1,1)]),
 (137,[(1,1)]),
 (156,[(7,1),(8,1),(9,1),(10,1),(17,1),(18,1),(23,1)])]
def xsB:List Nat:=[70,108,121,111,89,69,47,21,45,72,73]
def xsT:List Nat:=xsB++[]
def qh3:List Nat:=[46]
def aL(f id:Nat):Option (List Nat×List Nat):=if Nat.beq id 999999 then(if jE f qh3 then some ([],[]) else none) else match lk qfD f with |some l=>lk l id |none=>none
abbrev MU:sr:=⟨aL,xsT,λ_ _ _=>none⟩
end Pi
namespace Pi
open Go Go.Proofs Go.RowKit
def cA(l:List UInt8):Int:=match Lib.atoiAll l with | .ok v=>v | .range=>Lib.atoiSat l |_=>0
def CY:TF
 | [.d (.str s),.d (.str sep)],[]=>if s.length<4294967281/\1<=sep.length/\(Lib.split s sep).length=Lib.count s sep+1/\Lib.count s sep<=4294967281 then some (.sl 0 0 (Lib.split s sep).length,[(0,⟨0,none,.arr 9 false ((Lib.split s sep).map D.str)⟩)]) else none
 |_,_=>none
def KJ:TF
 | [.d (.str s)],[]=>if s.length<=281474976710656 then some (.bI [.d (.int .i64 (cA s)),.bad],[]) else none
 |_,_=>none
def KK:TF
 | [.d (.int .i64 n)],[]=>if-9223372036854775808<=n/\n<=9223372036854775807 then some (.d (.str (Lib.itoa n)),[]) else none
 |_,_=>none
def KL:TF
 | [.d (.str s),.d (.str c)],[]=>if s.length<=9223372036854775807/\c.length<4294967281/\c.all (λb=>decide (b.toNat<128))=true then some (.d (.str (Lib.trimS s c)),[]) else none
 |_,_=>none
def W4:TF
 | [.d (.str s),.d (.str c)],[]=>if s.length<4294967281 then some (.bI [.d (.str (Lib.cut s c).1),.d (.str (Lib.cut s c).2.1),.d (.bool (Lib.cut s c).2.2)],[]) else none
 |_,_=>none
def rA:TF
 | [.d (.str s),.d (.str c)],[]=>some (.bI [.d (.str (Lib.trimPrefix s c)),.d (.bool (Lib.hasPrefix s c))],[])
 |_,_=>none
def rB:TF
 | [.d (.str s),.d (.str c)],[]=>if s.length<4611686018427387904 then some (.d (.int .i64 (Lib.lastIndex s c)),[]) else none
 |_,_=>none
def IF:TF
 | [.d (.str s)],[]=>if s.length<=9223372036854775807 then some (.d (.bool (Lib.validD s)),[]) else none
 |_,_=>none
def IG:TF
 | [.d (.str s)],[]=>if s.length<9223372036854775807 then some (.d (.int .i64 (Lib.runeCount ⟨⟨s⟩⟩)),[]) else none
 |_,_=>none
noncomputable def xL:List (Nat×TF):=[(70,CY),(108,KJ),(121,KK),(111,KL),(89,W4),(69,rA),(47,IE),(21,QE),(45,rB),(72,IF),(73,IG)]
noncomputable def xB:CF:=xOf xL
theorem rC{w0 w:World}{v:Value}{b o:Nat}(hz: ∀b,b<w0.heap.size->w.heap[b]?=w0.heap[b]?)(h:w0.cell? ⟨b,o,none⟩=some v):w.cell? ⟨b,o,none⟩=some v:=by
 by_cases hb:b<w0.heap.size
 ·unfold World.cell? at h⊢;rw[hz b hb];exact h
 unfold World.cell? at h;rw[show w0.heap[({block:=b,off:=o,spot:=none}:Addr).block]?=none from zci (by show w0.heap.size<=b;omega)] at h;simp at h
structure Vy(w0:World):Prop where
 m: ∃m,w0.cell? ⟨2,0,none⟩=some (.int .i64 m)
 e0: ∃ev,w0.cell? ⟨3,0,none⟩=some ev/\(ev= .nilIface\/ ∃te pe,ev= .iface te pe)
 e1: ∃ev,w0.cell? ⟨4,0,none⟩=some ev/\(ev= .nilIface\/ ∃te pe,ev= .iface te pe)
 tab: ∀w:World,(∀b,b<w0.heap.size->w.heap[b]?=w0.heap[b]?)->Lib.TabIs Tryz.prog w "internal/strconv.uint64pow10" .u64 Lib.pow10Tab
 u8:Lib.Utf8Tabs 0 1 w0
theorem Vy.zero{w0:World}(h:Vy w0):Vy {w0 with drawn:=0} where
 m:=h.m
 e0:=h.e0
 e1:=h.e1
 tab:=h.tab
 u8:=h.u8
theorem MV{w0 w:World}{a b:Nat}(hz: ∀b,b<w0.heap.size->w.heap[b]?=w0.heap[b]?)(h:Lib.Utf8Tabs a b w0):Lib.Utf8Tabs a b w:=
 ⟨λc hc=>rC hz (h.1 c hc),λi hi=>⟨rC hz (h.2 i hi).1,rC hz (h.2 i hi).2⟩⟩
theorem II(w:World)(k:Nat)(os:Array Go.Obj):Below w.heap.size w (Go.Sort.grow (w.drewN k) os):=
 ⟨rfl,rfl,rfl,by simp[Go.Sort.grow,World.drewN],λb hb=>by have cV:b<(w.drewN k).heap.size:=hb;simp only[Go.Sort.grow];rw[zb2 cV];rfl⟩
theorem below_drewN(w:World)(k:Nat):Below w.heap.size w (w.drewN k):=⟨rfl,rfl,rfl,by simp[World.drewN],λb hb=>by simp[World.drewN]⟩
theorem FF(w:World)(e:TypeId)(t:ByteArray):Below w.heap.size w (Lib.bytesWorld w e t):=by
 unfold Lib.bytesWorld;have h1:Below w.heap.size w (w.drew.alloc (.cells (Lib.bytesCells w e t) e)):=(Below.refl w.heap.size w).drew.alloc (by exact zai _) _;refine h1.trans ⟨rfl,rfl,rfl,?_,λb hb=> ?_⟩
 ·simp[World.freeze]
 simp only[World.freeze];rw[zap (by omega)];simp only[zbE];rw[zap (by omega)]
section
variable{w0:World}
theorem iK{F:Nat->Prop}{w:World}{G:Nat->Value}{R:List (Nat×En)}{v:Value}{s:List UInt8}(h:aF F w G R v (.d (.str s))):v= .string ⟨⟨s⟩⟩:=aF.cp (p:= .d (.str s)) h rfl
theorem MW(hw:Vy w0):MP Tryz.prog w0 70 CY:=by
 intro h0 ps R p R1 h F G w vs hH hl hv;have hz: ∀b,b<w0.heap.size->w.heap[b]?=w0.heap[b]?:=λb hb=>(hH.z b hb).2;unfold CY at h;split at h
 next s sep=>
  split at h
  next hc=>
   obtain⟨h1,h2,h3,h4⟩:=hc;simp only[zak,zaL] at h;obtain⟨rfl,rfl⟩:=h
   match vs,hl,hv with
   | [v,u],_,hv=>
    have e1:v= .string ⟨⟨s⟩⟩:=iK (hv 0 v _ rfl rfl);have e2:u= .string ⟨⟨sep⟩⟩:=iK (hv 1 u _ rfl rfl);subst e1;subst e2;obtain⟨m,hm⟩:=hw.m;have qa3:(Lib.splitB ⟨⟨sep⟩⟩ 0 (Lib.countB ⟨⟨s⟩⟩ ⟨⟨sep⟩⟩) ⟨⟨s⟩⟩).map (·.data.toList)=Lib.split s sep:=Lib.splitB_data _ _ _ _;have hlen:(Lib.splitB ⟨⟨sep⟩⟩ 0 (Lib.countB ⟨⟨s⟩⟩ ⟨⟨sep⟩⟩) ⟨⟨s⟩⟩).length=(Lib.split s sep).length:=by rw[<-qa3,zaa]
    have CD:Lib.countB ⟨⟨s⟩⟩ ⟨⟨sep⟩⟩=Lib.count s sep:=rfl;have:=WH (es:=(Lib.split s sep).map D.str) (k:=0) (ty:=9) h0 hH (enters Tryz.func70 (by kernel_rfl) (by kernel_rfl) _ w) (by kernel_rfl) (vs:=[.string ⟨⟨s⟩⟩,.string ⟨⟨sep⟩⟩])
     ((Tryz.strings_Split ⟨⟨s⟩⟩ ⟨⟨sep⟩⟩ m w (by simpa [ByteArray.size] using h1) (qa hz hm) (by simpa [ByteArray.size] using h2)).mono λe w' ⟨he,pJ⟩=>by
      subst pJ;refine⟨(Below.refl _ _).alloc (zai _) _,w.heap.size,Lib.count s sep+1,_,?_,zai _,heap_alloc_new w _,?_,?_,?_,λF=> ?_⟩
      ·rw[he,CD,zaa,h3]
      ·rw[zaa,h3];exact zai _
      ·simp only[maxLen];omega
      ·simp[hlen,h3]
      intro i x hx;rw[zaD] at hx;cases hi:(Lib.split s sep)[i]? with
      |none=>rw[hi] at hx;cases hx
      |some l=>
       rw[hi] at hx;cases hx;refine⟨rfl,by simp[D.cells,D.bt],λj c hc=> ?_⟩;cases j with
       |succ j=>simp[D.cells] at hc
       |zero=>
        simp[D.cells] at hc;subst hc;rw[<-qa3,zaD] at hi;cases hb:(Lib.splitB ⟨⟨sep⟩⟩ 0 (Lib.countB ⟨⟨s⟩⟩ ⟨⟨sep⟩⟩) ⟨⟨s⟩⟩)[i]? with
        |none=>rw[hb] at hi;cases hi
        |some bb=>rw[hb] at hi;simp at hi;subst hi;simp[zaA,hb];exact .str bb.data.toList)
    rw[zaa] at this;exact this
  cases h
 cases h
theorem QF(hw:Vy w0):MP Tryz.prog w0 108 KJ:=by
 intro h0 ps R p R1 h F G w vs hH hl hv;have hz: ∀b,b<w0.heap.size->w.heap[b]?=w0.heap[b]?:=λb hb=>(hH.z b hb).2;unfold KJ at h;split at h
 next s=>
  split at h
  next hlen=>
   simp only[zak,zaL] at h;obtain⟨rfl,rfl⟩:=h
   match vs,hl,hv with
   | [v],_,hv=>
    have e:v= .string ⟨⟨s⟩⟩:=iK (hv 0 v _ rfl rfl);subst e;refine gM h0 hH (enters Tryz.func108 (by kernel_rfl) (by kernel_rfl) _ w) ?_;have two: ∀(n:Int) (u:Value) (F:Nat->Prop) (G:Nat->Value) (w':World),aF F w' G [] (.tuple #[.int .i64 n,u]) (.bI [.d (.int .i64 n),.bad]):=λn u F G w'=>
     .bI [.int .i64 n,u] _ rfl (λi v c hv hc=>by
      match i with
      |0=>simp at hv hc;subst hv;subst hc;exact .d (.int .i64 n)
      |1=>simp at hv hc;subst hc;exact .bad _
      |i+2=>simp at hv)
    cases ha:Lib.atoiAll s with
    |ok n=>
     have hav:cA s=n:=by simp[cA,ha]
     refine(Tryz.strconv_Atoi_ok ⟨⟨s⟩⟩ (by simp[ByteArray.size];omega) n ha w).mono λe w' ⟨he,pJ⟩=>⟨_,he,?_,λF G=>by rw[hav];exact two _ _ _ _ _⟩
     rcases pJ with rfl | ⟨t,rfl⟩
     ·exact Below.refl _ _
     exact FF _ _ _
    |range=>
     have hav:cA s=Lib.atoiSat s:=by simp[cA,ha]
     obtain⟨ev,h1,h2⟩:=hw.e1;exact(Tryz.strconv_Atoi_range ⟨⟨s⟩⟩ (by simpa [ByteArray.size] using hlen) ha ev w (qa hz h1) h2).mono λe w' ⟨N,he,_,_,hb⟩=>⟨_,he,hb,λF G=>by rw[hav];exact two _ _ _ _ _⟩
    |_=>
     have hav:cA s=0:=by simp[cA,ha]
     obtain⟨ev,h1,h2⟩:=hw.e0;exact(Tryz.strconv_Atoi_syntax ⟨⟨s⟩⟩ (by simpa [ByteArray.size] using hlen) ⟨λv e=>(by rw[ha] at e;cases e),λe=>(by rw[ha] at e;cases e)⟩ ev w (qa hz h1) h2).mono λe w' ⟨N,he,_,_,hb⟩=>⟨_,he,hb,λF G=>by rw[hav];exact two _ _ _ _ _⟩
  cases h
 cases h
theorem QG(hw:Vy w0):MP Tryz.prog w0 121 KK:=by
 intro h0 ps R p R1 h F G w vs hH hl hv;have hz: ∀b,b<w0.heap.size->w.heap[b]?=w0.heap[b]?:=λb hb=>(hH.z b hb).2;unfold KK at h;split at h
 next n=>
  split at h
  next hn=>
   simp only[zak,zaL] at h;obtain⟨rfl,rfl⟩:=h
   match vs,hl,hv with
   | [v],_,hv=>have hp:=hv 0 v _ rfl rfl;have e:v= .int .i64 n:=aF.cp (p:= .d (.int .i64 n)) hp rfl;subst e;refine gM h0 hH (enters Tryz.func121 (by kernel_rfl) (by kernel_rfl) _ w) ?_;exact(Tryz.strconv_Itoa n hn.1 hn.2 w (hw.tab w hz)).mono λe w' ⟨he,k,os,pJ⟩=>⟨_,he,by rw[pJ];exact II _ _ _,λF G=> .d (.str _)⟩
  cases h
 cases h
theorem QH:MP Tryz.prog w0 111 KL:=by
 intro h0 ps R p R1 h F G w vs hH hl hv;unfold KL at h;split at h
 next s c=>
  split at h
  next hc=>
   simp only[zak,zaL] at h;obtain⟨rfl,rfl⟩:=h
   match vs,hl,hv with
   | [v,u],_,hv=>have e1:v= .string ⟨⟨s⟩⟩:=iK (hv 0 v _ rfl rfl);have e2:u= .string ⟨⟨c⟩⟩:=iK (hv 1 u _ rfl rfl);subst e1;subst e2;refine gM h0 hH (enters Tryz.func111 (by kernel_rfl) (by kernel_rfl) _ w) ?_;exact(Go.Proofs.Any.strings_Trim_laid Tryz.KG (by kernel_rfl) ⟨⟨s⟩⟩ ⟨⟨c⟩⟩ w (by simpa [ByteArray.size] using hc.1) (by simpa [ByteArray.size] using hc.2.1) (Go.Proofs.ascii_of_all hc.2.2)).mono λe w' ⟨he,hb⟩=>⟨_,he,hb,λF G=> .d (.str _)⟩
  cases h
 cases h
theorem W5(hw:Vy w0):MP Tryz.prog w0 89 W4:=by
 intro h0 ps R p R1 h F G w vs hH hl hv;have hz: ∀b,b<w0.heap.size->w.heap[b]?=w0.heap[b]?:=λb hb=>(hH.z b hb).2;unfold W4 at h;split at h
 next s c=>
  split at h
  next hc=>
   simp only[zak,zaL] at h;obtain⟨rfl,rfl⟩:=h
   match vs,hl,hv with
   | [v,u],_,hv=>
    have e1:v= .string ⟨⟨s⟩⟩:=iK (hv 0 v _ rfl rfl);have e2:u= .string ⟨⟨c⟩⟩:=iK (hv 1 u _ rfl rfl);subst e1;subst e2;obtain⟨m,hm⟩:=hw.m;refine gM h0 hH (enters Tryz.func89 (by kernel_rfl) (by kernel_rfl) _ w) ?_;exact(Tryz.strings_Cut ⟨⟨s⟩⟩ ⟨⟨c⟩⟩ m w (by simpa [ByteArray.size] using hc) (qa hz hm)).mono λe w' ⟨he,n,hb⟩=>⟨_,he,by rw[hb];exact below_drewN _ _,λF G=>
     .bI [_,_,_] _ rfl (λi v c hv hc=>by
      match i with
      |0=>simp at hv hc;subst hv;subst hc;exact .d (.str _)
      |1=>simp at hv hc;subst hv;subst hc;exact .d (.str _)
      |2=>simp at hv hc;subst hv;subst hc;exact .d (.bool _)
      |i+3=>simp at hv)⟩
  cases h
 cases h
theorem zY:MP Tryz.prog w0 69 rA:=by
 intro h0 ps R p R1 h F G w vs hH hl hv;unfold rA at h;split at h
 next s c=>
  simp only[zak,zaL] at h;obtain⟨rfl,rfl⟩:=h
  match vs,hl,hv with
  | [v,u],_,hv=>
   have e1:v= .string ⟨⟨s⟩⟩:=iK (hv 0 v _ rfl rfl);have e2:u= .string ⟨⟨c⟩⟩:=iK (hv 1 u _ rfl rfl);subst e1;subst e2;refine gM h0 hH (enters Tryz.func69 (by kernel_rfl) (by kernel_rfl) _ w) ?_;exact(Tryz.strings_CutPrefix ⟨⟨s⟩⟩ ⟨⟨c⟩⟩ w).mono λe w' ⟨he,hb⟩=>⟨_,he,hb▸Below.refl _ _,λF G=>
    .bI [_,_] _ rfl (λi v c hv hc=>by
     match i with
     |0=>simp at hv hc;subst hv;subst hc;exact .d (.str _)
     |1=>simp at hv hc;subst hv;subst hc;exact .d (.bool _)
     |i+2=>simp at hv)⟩
 cases h
theorem zZ:MP Tryz.prog w0 45 rB:=by
 intro h0 ps R p R1 h F G w vs hH hl hv;unfold rB at h;split at h
 next s c=>
  split at h
  next hc=>
   simp only[zak,zaL] at h;obtain⟨rfl,rfl⟩:=h
   match vs,hl,hv with
   | [v,u],_,hv=>have e1:v= .string ⟨⟨s⟩⟩:=iK (hv 0 v _ rfl rfl);have e2:u= .string ⟨⟨c⟩⟩:=iK (hv 1 u _ rfl rfl);subst e1;subst e2;refine gM h0 hH (enters Tryz.func45 (by kernel_rfl) (by kernel_rfl) _ w) ?_;exact(Tryz.strings_LastIndex ⟨⟨s⟩⟩ ⟨⟨c⟩⟩ (by simpa [ByteArray.size] using hc) w).mono λe w' ⟨he,hb⟩=>⟨_,he,hb▸Below.refl _ _,λF G=> .d (.int _ _)⟩
  cases h
 cases h
theorem MX(hw:Vy w0):MP Tryz.prog w0 72 IF:=by
 intro h0 ps R p R1 h F G w vs hH hl hv;have hz: ∀b,b<w0.heap.size->w.heap[b]?=w0.heap[b]?:=λb hb=>(hH.z b hb).2;unfold IF at h;split at h
 next s=>
  split at h
  next hc=>
   simp only[zak,zaL] at h;obtain⟨rfl,rfl⟩:=h
   match vs,hl,hv with
   | [v],_,hv=>have e1:v= .string ⟨⟨s⟩⟩:=iK (hv 0 v _ rfl rfl);subst e1;refine gM h0 hH (enters Tryz.func72 (by kernel_rfl) (by kernel_rfl) _ w) ?_;exact(Tryz.utf8_ValidString ⟨⟨s⟩⟩ w (by simpa [ByteArray.size] using hc) (MV hz hw.u8)).mono λe w' ⟨he,hb⟩=>⟨_,he,hb,λF G=> .d (.bool _)⟩
  cases h
 cases h
theorem MY:MP Tryz.prog w0 73 IG:=by
 intro h0 ps R p R1 h F G w vs hH hl hv;unfold IG at h;split at h
 next s=>
  split at h
  next hc=>
   simp only[zak,zaL] at h;obtain⟨rfl,rfl⟩:=h
   match vs,hl,hv with
   | [v],_,hv=>have e1:v= .string ⟨⟨s⟩⟩:=iK (hv 0 v _ rfl rfl);subst e1;refine gM h0 hH (enters Tryz.func73 (by kernel_rfl) (by kernel_rfl) _ w) ?_;exact(Tryz.utf8_RuneCountInString ⟨⟨s⟩⟩ w (by simpa [ByteArray.size] using hc)).mono λe w' ⟨he,pos,hb⟩=>⟨_,he,by rw[hb];exact(Below.refl _ _).alloc (zai _) _,λF G=> .d (.int _ _)⟩
  cases h
 cases h
theorem qfE{w1:World}(hw1:Vy w1):eG Tryz.prog {w1 with drawn:=0} xB:=by have hw:=hw1.zero;exact MQ.ok rfl (.cons (MW hw) (.cons (QF hw) (.cons (QG hw) (.cons QH (.cons (W5 hw) (.cons zY (.cons MT (.cons W3 (.cons zZ (.cons (MX hw) (.cons MY .nil)))))))))))
end
end Pi
namespace Pi
open Go Go.Proofs
set_option maxRecDepth 100000
set_option maxHeartbeats 0
structure XF where
 cf:CF
 eq: ∀f,jE f xsB=true-> ∀ps R,cf f ps R=xB f ps R
abbrev MZ(X:XF):sr:=⟨aL,xsT,X.cf⟩
def qS(f id:Nat):Nat:=match lk qcf f with |some l=>(lk l id).getD 2 |none=>2
theorem M0:nv qS 0 Tryz.prog.funcs.toList=true:=by kernel_rfl
noncomputable abbrev PR:=Tryz.prog
noncomputable def aC(H:List (FuncId×bh))(hk:List (Nat×(S->K (PX×S))))(f id:Nat)(s:S):K (PX×S):=
 w8 (ff PR (runK PR MU qS H 60 60) (aL f) hk (qS f) 60 (bE PR f id)) (aL f id) s
noncomputable def aK(H:List (FuncId×bh))(hk:List (Nat×(S->K (PX×S))))(f:Nat)(ps:List P)(R:List (Nat×En)):K (P×List (Nat×En)):=
 my PR (runK PR MU qS H 60 60) MU hk qS 60 f ps R
def FD(X:XF)(f:Nat)(h:bh):Prop:=Vw PR (MZ X) f h
def HD(X:XF)(H:List (FuncId×bh)):Prop:=Kv PR (MZ X) H
def LD(X:XF)(f id:Nat)(g:S->K (PX×S)):Prop:= ∀s,KW (g s) (λx=>Ev λa b=>im (bJ PR (fG PR (MZ X) a b) (aL f) a (bE PR f id)) (aL f id) a s=some x)
theorem HD.nil{X:XF}:HD X []:=Kv.nil
theorem HD.cons{X:XF}{f:Nat}{h:bh}{H:List (FuncId×bh)}(hf:FD X f h)(hH:HD X H):HD X ((f,h)::H):=Kv.cons hf hH
inductive QI(X:XF)(f:Nat):List (Nat×(S->K (PX×S)))->Prop
 |nil:QI X f []
 |cons {id:Nat} {g:S->K (PX×S)} {r:List (Nat×(S->K (PX×S)))} (h:LD X f id g) (hr:QI X f r):QI X f ((id,g)::r)
theorem QI.get{X:XF}{f:Nat}{hk:List (Nat×(S->K (PX×S)))}(h:QI X f hk): ∀id g,lk hk id=some g->LD X f id g:=by
 induction h with
 |nil=>exact Ky
 |cons h hr ih=>exact WJ h ih
theorem FD.mk{X:XF}{H:List (FuncId×bh)}{hk:List (Nat×(S->K (PX×S)))}{f:Nat}{h:bh}(hu:uniq PR f=true)(hH:HD X H)(hl:QI X f hk)(hb: ∀ps R ae,h ps R ae->aK H hk f ps R ae):FD X f h:=
 Vw.mk M0 hH hu hl.get (λps R ae hp=>by have:=hb ps R ae hp;unfold aK at this;rw[CQ PR aL xsT _ X.cf qS H 60 60] at this;exact this)
theorem LD.par{X:XF}{H:List (FuncId×bh)}{hk:List (Nat×(S->K (PX×S)))}{f id:Nat}{g:S->K (PX×S)}(hu:uniq PR f=true)(hc:b8 (qS f) (bE PR f id)=true)(hH:HD X H)(hl:QI X f hk)
  {A B:Type} (hd:A->B->S) (Inv:A->B->Prop) (mu:A->B->Nat) (Out:A->PX×S->Prop)
  (hr: ∀a b,Inv a b->aC H hk f id (hd a b) (roundPost (mu a b) (λm s=> ∃b',s=hd a b'/\Inv a b'/\m=mu a b') (Out a)))
  (hg: ∀s ae,g s ae-> ∃a b,s=hd a b/\Inv a b/\ ∀x,Out a x->ae x):LD X f id (ah (aL f id) g):=by
 refine Ff λs0 ae hp=> ?_;obtain⟨a,b,rfl,h1,h2⟩:=hg s0 ae hp;obtain⟨x,g1,g2⟩:=Wz (keep:=aL f id) (kp1:=aL f) (O:=Out a) M0 hH hc (λd hd h hh=>by have:=hl.get _ _ hh;unfold LD at this;rwa [A6 hu hd] at this) (I:=λm s=> ∃b',s=hd a b'/\Inv a b'/\m=mu a b') (λn s hs=>by obtain⟨b',rfl,h3,rfl⟩:=hs;have:=hr a b' h3;unfold aC at this;rw[CQ PR aL xsT _ X.cf qS H 60 60] at this;exact this) (mu a b) (hd a b) ⟨b,rfl,h1,rfl⟩;exact⟨x,g2,h2 x g1⟩
theorem FD.weaken{X:XF}{f:Nat}{h1 h2:bh}(h:FD X f h1)(hw: ∀ps R ae,h2 ps R ae->h1 ps R ae):FD X f h2:=λps R ae hp=>h ps R ae (hw ps R ae hp)
theorem FD.qq{X:XF}{f:Nat}{fn:Func}{h:bh}(gK:PR.funcs[f]?=some fn)(hx:jE f xsT=true)(z6:jE f xsB=true)(hb: ∀ps R ae,h ps R ae-> ∃x,xB f ps R=some x/\ae x):FD X f h:=
 Vw.qq gK hx λps R ae hp=>by obtain⟨x,h1,h2⟩:=hb ps R ae hp;exact⟨x,by rw[<-h1];exact X.eq f z6 ps R,h2⟩
theorem FD.run{X:XF}{f:Nat}{h:bh}(hf:FD X f h){ps:List P}{R:List (Nat×En)}{y:P×List (Nat×En)}(hp:h ps R (λx=>x=y)): ∃lf k,fG PR (MZ X) lf k f ps R=some y:=by obtain⟨x,h1,h2⟩:=hf ps R _ hp;subst h2;exact h1.some
def FC(f:Nat)(h:bh):Prop:=Vw PR MU f h
def HC(H:List (FuncId×bh)):Prop:=Kv PR MU H
theorem HC.nil:HC []:=Kv.nil
theorem HC.cons{f:Nat}{h:bh}{H:List (FuncId×bh)}(hf:FC f h)(hH:HC H):HC ((f,h)::H):=Kv.cons hf hH
theorem FC.mk{H:List (FuncId×bh)}{f:Nat}{h:bh}(hu:uniq PR f=true)(hH:HC H)(hb: ∀ps R ae,h ps R ae->aK H [] f ps R ae):FC f h:=
 Vw.mk M0 hH hu Ky hb
noncomputable def qfF:XF:=⟨xB,λ_ _ _ _=>rfl⟩
def e7(l:List Int)(r:Int):Int:=if r<1\/r>l.length then 0 else l.getD (r-1).toNat 0
def rD(l:List Int):Nat->Nat
 |0=>0
 |k+1=>if l.getD k 0=0 then rD l k else k+1
def bM(l:List Int):List Int:=l.take (rD l l.length)
def pL(n:Nat)(f:Nat->Int):List Int:=(List.range n).map f
def W6(v w:List Int):List Int:=pL (max v.length w.length) λi=>max (e7 v (i+1)) (e7 w (i+1))
def gO(v:List Int)(r n:Int):List Int:=pL (max v.length r.toNat) λi=>if(i:Int)+1=r then n else e7 v (i+1)
def mc(v w:List Int):List Int:=bM (W6 v w)
def dN(v:List Int):Bool:=decide ((∀n∈v,0<=n)/\v.length<=16/\(bM v).length=v.length)
@[simp] theorem FG (n:Nat) (f:Nat->Int):(pL n f).length=n:=by simp[pL]
theorem rE(l:List Int): ∀k,rD l k<=k
 |0=>zai 0
 |k+1=>by have:=rE l k;unfold rD;split<;>omega
@[simp] theorem rF (l:List Int):(bM l).length=rD l l.length:=by have:=rE l l.length;simp[bM];omega
theorem CZ(l:List Int)(i:Nat):e7 l ((i:Int)+1)=l.getD i 0:=by
 unfold e7;split
 next h=>
  have h:l.length<=i:=by omega
  simp[zab,zbj h]
 have:((i:Int)+1-1).toNat=i:=by omega
 rw[this]
theorem nO(l:List Int){r:Int}(h:1<=r):e7 l r=l.getD (r-1).toNat 0:=by
 obtain⟨k,rfl⟩: ∃k:Nat,r=(k:Int)+1:=⟨(r-1).toNat,by omega⟩
 rw[CZ];congr 1;omega
theorem yf(n:Nat)(f:Nat->Int)(i:Nat):(pL n f).getD i 0=if i<n then f i else 0:=by
 simp only[pL,zab,zaD];split
 next h=>simp[h]
 rename_i h;simp[h]
theorem FH(l:List Int): ∀k i,rD l k<=i->i<k->l.getD i 0=0
 |0,i,_,h=>by omega
 |k+1,i,h1,h2=>by
  unfold rD at h1;split at h1
  ·by_cases e:i=k
   ·subst e;assumption
   exact FH l k i h1 (by omega)
  omega
theorem FI(l:List Int): ∀k,rD l k≠0->l.getD (rD l k-1) 0≠0
 |0,h=>by simp[rD] at h
 |k+1,h=>by
  unfold rD at h⊢;split
  next h0=>rw[zaq h0] at h;exact FI l k h
  simpa
theorem IJ(l:List Int)(i:Nat):(bM l).getD i 0=l.getD i 0:=by
 have h0:=rE l l.length;unfold bM;by_cases h:i<rD l l.length
 ·simp[zab,h]
 rw[zab,zbj (by simp;omega)];by_cases h2:i<l.length
 ·exact(FH l l.length i (by omega) h2).symm
 simp[zab,zbj (show l.length<=i by omega)]
theorem FJ(l:List Int)(n:Nat): ∀k,k<=n->rD (l.take n) k=rD l k
 |0,_=>rfl
 |k+1,h=>by
  have e:(l.take n).getD k 0=l.getD k 0:=by simp[zab,show k<n by omega]
  unfold rD;rw[e,FJ l n k (by omega)]
theorem W7(l:List Int)(k:Nat):rD l (rD l k)=rD l k:=by
 cases h:rD l k with
 |zero=>rfl
 |succ m=>have:=FI l k (by omega);rw[h] at this;unfold rD;rw[zap (by simpa using this)]
theorem FK(l:List Int):bM (bM l)=bM l:=by
 have h0:=rE l l.length;have:rD (bM l) (bM l).length=rD l l.length:=by rw[rF];unfold bM;rw[FJ _ _ _ (zai _),W7]
 rw[bM,this,zan (by simp)]
theorem ext_get{a b:List Int}(hl:a.length=b.length)(h: ∀i,a.getD i 0=b.getD i 0):a=b:=by apply List.ext_getElem hl;intro i h1 h2;have:=h i;simpa [zab,h1,h2] using this
theorem qd{v:List Int}{i:Nat}(h:v.length<=i):v.getD i 0=0:=by simp[zab,zbj h]
theorem QJ(v w:List Int)(i:Nat):(W6 v w).getD i 0=max (v.getD i 0) (w.getD i 0):=by
 unfold W6;rw[yf];split
 ·rw[CZ,CZ]
 rw[qd (v:=v) (by omega),qd (v:=w) (by omega)];rfl
abbrev Ho(t r i:Int):D:= .agg [.int .i64 t,.int .i64 r,.int .i64 i]
abbrev stD(t r:Int):D:= .agg [.int .i64 t,.int .i64 r]
def C0(t r:Int):Bool:=decide (1<=t/\t<=1099511627776/\1<=r/\r<=16)
def aY(t r i:Int):Bool:=decide (1<=t/\t<=1099511627776/\1<=r/\r<=16/\0<=i/\i<=400000)
def Z0:D:=D.bool false
def Z1(ae:P×List (Nat×En)->Prop):Prop:=ae (P.d Z0,[])
theorem M1(t r i:Int)(ae:P×List (Nat×En)->Prop):(bif decide (t>=(1:Int)) then bif decide (t<=(1099511627776:Int)) then bif decide (r>=(1:Int)) then bif decide (r<=(16:Int)) then bif decide (i>=(0:Int)) then ae (P.d (D.bool (decide (i<=(400000:Int)))),[]) else Z1 ae else Z1 ae else Z1 ae else Z1 ae else Z1 ae)=(aK [] [] 109 [.d (Ho t r i)] []) ae:=by kernel_rfl
theorem IK(t r i:Int)(ae:P×List (Nat×En)->Prop):(bif decide (t>=(1:Int)) then bif decide (t<=(1099511627776:Int)) then bif decide (r>=(1:Int)) then bif decide (r<=(16:Int)) then bif decide (i>=(0:Int)) then ae (P.d (D.bool (decide (i<=(400000:Int)))),[]) else Z1 ae else Z1 ae else Z1 ae else Z1 ae else Z1 ae)=(aK [] [] 68 [.d (Ho t r i)] []) ae:=by kernel_rfl
def eI:bh:=λps R ae=> ∃t r i,ps=[.d (Ho t r i)]/\R=[]/\ae (.d (.bool (aY t r i)),[])
def bB(l:List Int):List D:=l.map (D.int .i64)
abbrev vD(v:List Int):P:= .d (.sl 1 (bB v))
def W8:bh:=λps R ae=> ∃l r,ps=[vD l,.d (.int .i64 r)]/\R=[]/\l.length<=9223372036854775807/\ae (.d (.int .i64 (e7 l r)),[])
def Z8(r:Int):Nat:=Int.toNat (r-(1:Int))
def Z6:Int:=(9223372036854775807:Int)
def Z5:Int:=(-9223372036854775808:Int)
def Z7(r:Int):Bool:=decide (Z5<=r-(1:Int)/\r-(1:Int)<=Z6)
def Z3:D:=D.int .i64 (0:Int)
def Z4(ae:P×List (Nat×En)->Prop):Prop:=ae (P.d Z3,[])
theorem qfG(es:List D)(r:Int)(ae:P×List (Nat×En)->Prop):(bif decide (r<(1:Int)) then Z4 ae else bif decide (r>(↑(List.length es):Int)) then Z4 ae else ob (Z7 r) (ob (decide ((0:Int)<=r-(1:Int)/\r-(1:Int)<(↑(List.length es):Int))) (ob (cT PR (3:TypeId) (D.nth es (Z8 r))) (ae (P.d (D.int .i64 (D.aj (D.nth es (Z8 r)))),[])))))=(aK [] [] 37 [.d (.sl 1 es),.d (.int .i64 r)] []) ae:=by kernel_rfl
variable{X:XF}
theorem QK{ae:P×List (Nat×En)->Prop}{k:IntKind}{a b:Int}{R:List (Nat×En)}(hp:ae (P.d (D.int k a),R))(h:a=b):ae (P.d (D.int k b),R):=h▸hp
theorem fq{ae:P×List (Nat×En)->Prop}{a b:Bool}{R:List (Nat×En)}(hp:ae (P.d (D.bool a),R))(h:a=b):ae (P.d (D.bool b),R):=h▸hp
theorem Bj:FD X 109 eI:=FD.mk (H:=[]) (by kernel_rfl) .nil .nil (by
 intro ps R ae hh;obtain⟨t,r,i,rfl,rfl,hp⟩:=hh
 (rw[<-M1];delta Z0 Z1)
 repeat' (first |refine az (λ_=> ?_) (λ_=> ?_))
 all_goals exact fq hp (by simp only[zal,zaM,zcm,aY] at*;omega))
theorem nP:FD X 68 eI:=FD.mk (H:=[]) (by kernel_rfl) .nil .nil (by
 intro ps R ae hh;obtain⟨t,r,i,rfl,rfl,hp⟩:=hh
 (rw[<-IK];delta Z0 Z1)
 repeat' (first |refine az (λ_=> ?_) (λ_=> ?_))
 all_goals exact fq hp (by simp only[zal,zaM,zcm,aY] at*;omega))
@[simp] theorem gj (l:List Int):(bB l).length=l.length:=by simp[bB]
theorem pM{l:List Int}{i:Nat}(h:i<l.length):D.nth (bB l) i= .int .i64 (l.getD i 0):=by simp[D.nth,bB,h]
theorem QL(n:Int):cT PR 3 (.int .i64 n)=true:=by kernel_rfl
theorem qcg{ae:P×List (Nat×En)->Prop}{l:List Int}{r:Int}(hl:l.length<=9223372036854775807)(hp:ae (.d (.int .i64 (e7 l r)),[])):
  bif decide (r<1) then ae (.d (.int .i64 0),[]) else bif decide (r>(l.length:Int)) then ae (.d (.int .i64 0),[]) else
   bif decide (-9223372036854775808<=r-1/\r-1<=9223372036854775807) then bif decide (0<=r-1/\r-1<(l.length:Int)) then bif cT PR 3 (D.nth (bB l) (r-1).toNat) then ae (.d (.int .i64 (D.nth (bB l) (r-1).toNat).aj),[]) else False else False else False:=by
 refine az (λh=> ?_) λh=>az (λh'=> ?_) λh'=> ?_
 ·exact QK hp (by simp only[zal] at h;simp[e7,h])
 ·exact QK hp (by simp only[zal] at h';simp[e7,h'])
 simp only[zaM] at h h';have bz:(r-1).toNat<l.length:=by omega
 rw[pM bz];refine ao (by simp;omega) (ao (by simp;omega) (ao (QL _) ?_));exact QK hp (by rw[e7,zap (by omega)];rfl)
theorem FL:FD X 37 W8:=FD.mk (H:=[]) (by kernel_rfl) .nil .nil (by
 intro ps R ae hh;obtain⟨l,r,rfl,rfl,hl,hp⟩:=hh
 (rw[<-qfG];delta Z8 Z6 Z5 Z7 Z3 Z4)
 simp only[gj];exact qcg hl hp)
abbrev iD(n:Int):P:= .d (.int .i64 n)
abbrev qch(v w:List Int)(k:Int):S:=⟨26,[(0,vD v),(1,vD w),(5,iD k)],[]⟩
abbrev qci(v:List Int)(k:Int):S:=⟨21,[(0,vD v),(3,iD k)],[]⟩
abbrev qfH(v w o:List Int)(m:Nat)(k:Int):S:=⟨28,[(0,vD v),(1,vD w),(5,P.sl 0 0 m),(6,iD k)],[(0,⟨0,none,.arr 3 false (bB o)⟩)]⟩
abbrev qfI(v o:List Int)(r n:Int)(m:Nat)(k:Int):S:=⟨39,[(0,vD v),(1,iD r),(2,iD n),(8,P.sl 0 0 m),(9,iD k)],[(0,⟨0,none,.arr 3 false (bB o)⟩)]⟩
abbrev qcj(v:List Int)(k:Int):S:=⟨24,[(0,vD v),(3,iD k)],[]⟩
def Zj(ae:PX×S->Prop):Prop:=ae (PX.exit 0,S.mk 26 [] [])
def Zh(k:Int):D:=D.int .i64 (k+(1:Int))
def Zi(k:Int):List (Nat×P):=[(5,P.d (Zh k))]
def Ze(v:List Int):P:=P.d (D.sl 1 (bB v))
def Zg(w:List Int):Nat×P:=(1,Ze w)
def Zf(v:List Int):Nat×P:=(0,Ze v)
def Zd(k:Int):Bool:=decide (Z5<=k+(1:Int)/\k+(1:Int)<=Z6)
def Zc:List (Nat×P):=[(4,P.d Z0)]
def Zb(k:Int):Nat:=Int.toNat k
def Z9(v:List Int):Int:=(↑(List.length (bB v)):Int)
def Za(k:Int)(v:List Int):Bool:=decide ((0:Int)<=k/\k<Z9 v)
theorem qck(v w:List Int)(k:Int)(ae:PX×S->Prop):(bif decide (k<Z9 v) then ob (Za k v) (ob (cT PR (3:TypeId) (D.nth (bB v) (Zb k))) (ob (Za k w) (ob (cT PR (3:TypeId) (D.nth (bB w) (Zb k))) (bif D.aj (D.nth (bB v) (Zb k)) !=D.aj (D.nth (bB w) (Zb k)) then ae (PX.ret,S.mk 26 Zc []) else ob (Zd k) (ae (PX.normal,S.mk 26 (Zf v::Zg w::Zi k) [])))))) else Zj ae)=(aC [] [] 94 4 (qch v w k)) ae:=by kernel_rfl
def Zm(k:Int):D:=D.int .i64 k
def Zn(v:List Int)(k:Int):S:=S.mk 21 [Zf v,(3,P.d (Zm k))] []
def Zl(k:Int):P:=P.d (D.int .i64 (k-(1:Int)))
def Zk(k:Int):Bool:=decide (k>(0:Int))
theorem qcl(v:List Int)(k:Int)(ae:PX×S->Prop):(bif Zk k then ob (Z7 k) (ob (decide ((0:Int)<=k-(1:Int)/\k-(1:Int)<Z9 v)) (ob (cT PR (3:TypeId) (D.nth (bB v) (Z8 k))) (bif D.aj (D.nth (bB v) (Z8 k))==(0:Int) then ob (Z7 k) (ae (PX.normal,S.mk 21 [Zf v,(3,Zl k)] [])) else ae (PX.exit 0,Zn v k)))) else ae (PX.exit 0,Zn v k))=(aC [] [] 61 2 (qci v k)) ae:=by kernel_rfl
def Zw(o:List Int):List (Nat×En):=[(0,En.mk 0 none (Obj.arr (3:TypeId) false (bB o)))]
def Zu(m:Nat):P:=P.sl 0 0 m
def Zv(m:Nat):Nat×P:=(5,Zu m)
def Zt(k:Int):List (Nat×P):=[(6,P.d (Zh k))]
def Zr:Nat:=9223372036854775807
def Zs(l:List Int):Prop:=List.length l<=Zr
def Zq:Prop:=EqR [] []
def Zo(r:Int):List P:=[P.d (Zm r)]
theorem qcm(v w o:List Int)(m:Nat)(k:Int)(ae:PX×S->Prop):(bif decide (k<=max (Z9 v) (Z9 w)) then∃(l:List Int) (r:Int),Ze v::Zo k=Ze l::Zo r/\Zq/\Zs l/\ ∃(ar:List Int) (fR:Int),Ze w::Zo k=Ze ar::Zo fR/\Zq/\Zs ar/\ob (Nat.ble m (List.length (bB o))&&aJ (m+List.length [D.int .i64 (max (e7 l r) (e7 ar fR))]) 8) (ob (Zd k) (ae (PX.normal,S.mk 28 (Zf v::Zg w::(5,P.sl 0 0 (m+List.length [D.int .i64 (max (e7 l r) (e7 ar fR))]))::Zt k) [(0,En.mk 0 none (Obj.arr (3:TypeId) false (List.take m (bB o)++[D.int .i64 (max (e7 l r) (e7 ar fR))])))]))) else ae (PX.exit 0,S.mk 28 [Zv m] (Zw o)))=(aC [(37,W8)] [] 35 3 (qfH v w o m k)) ae:=by kernel_rfl
def Zz(k:Int):List (Nat×P):=[(9,P.d (Zh k))]
def Zy(n:Int):Nat×P:=(2,P.d (Zm n))
def Zx(n:Int):List D:=[Zm n]
theorem qcn(v o:List Int)(r n:Int)(m:Nat)(k:Int)(ae:PX×S->Prop):(bif decide (k<=max (Z9 v) r) then bif k==r then ob (Nat.ble m (List.length (bB o))&&aJ (m+List.length (Zx n)) 8) (ob (Zd k) (ae (PX.normal,S.mk 39 (Zf v::(1,P.d (Zm r))::Zy n::(8,P.sl 0 0 (m+List.length (Zx n)))::Zz k) [(0,En.mk 0 none (Obj.arr (3:TypeId) false (List.take m (bB o)++Zx n)))]))) else∃(l:List Int) (fR:Int),Ze v::Zo k=Ze l::Zo fR/\Zq/\Zs l/\ob (Nat.ble m (List.length (bB o))&&aJ (m+List.length [D.int .i64 (e7 l fR)]) 8) (ob (Zd k) (ae (PX.normal,S.mk 39 (Zf v::(1,P.d (Zm r))::Zy n::(8,P.sl 0 0 (m+List.length [D.int .i64 (e7 l fR)]))::Zz k) [(0,En.mk 0 none (Obj.arr (3:TypeId) false (List.take m (bB o)++[D.int .i64 (e7 l fR)])))]))) else ae (PX.exit 0,S.mk 39 [(8,Zu m)] (Zw o)))=(aC [(37,W8)] [] 40 5 (qfI v o r n m k)) ae:=by kernel_rfl
def ZA:List (Nat×P):=[(2,P.d Z0)]
theorem qco(v:List Int)(k:Int)(ae:PX×S->Prop):(bif decide (k<Z9 v) then ob (Za k v) (ob (cT PR (3:TypeId) (D.nth (bB v) (Zb k))) (bif decide (D.aj (D.nth (bB v) (Zb k))<(0:Int)) then ae (PX.ret,S.mk 24 (Zf v::ZA) []) else ob (Zd k) (ae (PX.normal,S.mk 24 [Zf v,(3,P.d (Zh k))] [])))) else ae (PX.exit 0,S.mk 24 [Zf v] []))=(aC [] [] 78 2 (qcj v k)) ae:=by kernel_rfl
variable{X:XF}
theorem gB{k:Int}(h0: -9223372036854775808<=k)(h1:k<9223372036854775807):decide ((-9223372036854775808:Int)<=k+(1:Int)/\k+(1:Int)<=(9223372036854775807:Int))=true:=by simp;omega
theorem kY{p:Prop}[Decidable p] (h:p):decide p=true:=by simpa using h
theorem me{p:Prop}[Decidable p] (h: ¬p):decide p=false:=by simpa using h
theorem a8{p:Prop}[Decidable p] {A B:Prop}(h1:p->A)(h2: ¬p->B):cond (decide p) A B:=az (λh=>h1 (by simpa using h)) (λh=>h2 (by simpa using h))
theorem aP{p:Prop}[Decidable p] {A:Prop}(h1:p)(h2:A):cond (decide p) A False:=ao (by simpa using h1) h2
theorem mI{a b:Int}{A B:Prop}(h1:a=b->A)(h2:a≠b->B):cond (a==b) A B:=az (λh=>h1 (by simpa using h)) (λh=>h2 (by simpa using h))
theorem lK{a b:Int}{A B:Prop}(h1:a≠b->A)(h2:a=b->B):cond (a !=b) A B:=az (λh=>h1 (by simpa using h)) (λh=>h2 (by simpa using h))
theorem uv{o:List Int}{m:Nat}(h:m=o.length)(x:Int):List.take m (bB o)++[D.int .i64 x]=bB (o++[x]):=by subst h;rw[zan (by simp)];simp[bB]
theorem vM{m n b:Nat}(h:(m+n)*b<=140737488355328)(h2:m+n<=9223372036854775807)(l:List D)(hm:m<=l.length):(Nat.ble m l.length&&aJ (m+n) b)=true:=by simp[hm,bL h h2]
abbrev mj(v:List Int):Prop:=v.length<=1000000
def qcp:S->K (PX×S):=λs ae=> ∃v w,s=qch v w 0/\(v.length=w.length/\mj v)/\(v≠w->ae (.ret,⟨26,[(4,.d (.bool false))],[]⟩))/\(v=w->ae (.exit 0,⟨26,[],[]⟩))
theorem W9:LD X 94 4 (ah (aL 94 4) qcp):=LD.par (H:=[]) (hk:=[]) (by kernel_rfl) (by kernel_rfl) .nil .nil
 (A:=List Int×List Int) (B:=Int) (λa k=>qch a.1 a.2 k)
 (λa k=>(a.1.length=a.2.length/\mj a.1)/\0<=k/\k<=a.1.length/\ ∀i:Nat,(i:Int)<k->a.1.getD i 0=a.2.getD i 0)
 (λa k=>(a.1.length-k).toNat)
 (λa x=>(a.1≠a.2/\x=(.ret,⟨26,[(4,.d (.bool false))],[]⟩))\/(a.1=a.2/\x=(.exit 0,⟨26,[],[]⟩)))
 (by
  rintro⟨v,w⟩ k ⟨⟨hl,hs⟩,h0,h1,he⟩;dsimp only at*
  (rw[<-qck];delta Zj Zh Zi Ze Zg Zf Z6 Z5 Zd Z0 Zc Zb Z9 Za)
  simp only[gj];unfold mj at hs;refine a8 (λh=> ?_) λh=> ?_
  ·rw[pM (by omega),pM (by omega)];refine aP (by omega) (ao (QL _) (aP (by omega) (ao (QL _) (lK (λh'=> ?_) λh'=>ao (gB (by omega) (by omega)) ?_))))
   ·exact .inl ⟨λe=>h' (by rw[e]),rfl⟩
   exact⟨_,by omega,k+1,rfl,⟨⟨hl,hs⟩,by omega,by omega,λi hi=>by
    by_cases e:(i:Int)=k
    ·have:i=k.toNat:=by omega
     rw[this];exact h'
    exact he i (by omega)⟩,rfl⟩
  exact .inr ⟨ext_get hl λi=>by
   by_cases hi:(i:Int)<k
   ·exact he i hi
   rw[qd (by omega),qd (by omega)],rfl⟩)
 (by
  rintro s ae ⟨v,w,rfl,h1,h2,h3⟩;refine⟨(v,w),0,rfl,⟨h1,by omega,by omega,λi hi=>by omega⟩,?_⟩;rintro x (⟨h,rfl⟩| ⟨h,rfl⟩)
  ·exact h2 h
  exact h3 h)
theorem M3(v:List Int)(n:Nat):(bB v).take n=bB (v.take n):=by simp[bB]
def qcq:S->K (PX×S):=λs ae=> ∃v n,s=qci v n/\(n=(v.length:Int)/\mj v)/\ae (.exit 0,⟨21,[(0,vD v),(3,iD (rD v v.length))],[]⟩)
theorem Xa:LD X 61 2 (ah (aL 61 2) qcq):=LD.par (H:=[]) (hk:=[]) (by kernel_rfl) (by kernel_rfl) .nil .nil
 (A:=List Int) (B:=Int) (λa k=>qci a k)
 (λa k=>mj a/\0<=k/\k<=a.length/\rD a k.toNat=rD a a.length)
 (λa k=>k.toNat)
 (λa x=>x=(.exit 0,⟨21,[(0,vD a),(3,iD (rD a a.length))],[]⟩))
 (by
  rintro v k ⟨hs,h0,h1,he⟩
  (rw[<-qcl];delta Zm Ze Zf Zn Zl Z8 Z9 Z6 Z5 Z7 Zk)
  unfold mj at hs;simp only[gj];refine a8 (λh=> ?_) λh=> ?_
  ·have hj:k.toNat=(k-1).toNat+1:=by omega
   rw[pM (by omega)];refine aP (by omega) (aP (by omega) (ao (QL _) (mI (λh'=> ?_) λh'=> ?_)))
   ·replace h':v.getD (k-1).toNat 0=0:=h'
    refine aP (by omega) ⟨_,by omega,k-1,rfl,⟨hs,by omega,by omega,by rw[<-he,hj,rD,zaq h']⟩,rfl⟩
   replace h':v.getD (k-1).toNat 0≠0:=h'
   rw[hj,rD,zap h'] at he;show _=_;rw[<-he];simp;omega
  have:k=0:=by omega
  subst this;show _=_;rw[<-he];rfl)
 (by rintro s ae ⟨v,n,rfl,⟨hn,h1⟩,h2⟩;refine⟨v,n,rfl,⟨h1,by omega,by omega,by rw[hn];rfl⟩,?_⟩;rintro x rfl;exact h2)
variable{X:XF}
def QM(f:Nat->Int)(k:Nat)(o:List Int):Prop:= ∀i,i<k->o.getD i 0=f i
theorem QM.set{f:Nat->Int}{k:Nat}{o:List Int}(h:QM f k o)(hk:k<o.length):QM f (k+1) (o.set k (f k)):=λi hi=>by
 by_cases e:i=k
 ·subst e;simp[zab,hk]
 have:=h i (by omega);simpa [zab,List.getElem?_set,zbs e] using this
theorem QM.all{f:Nat->Int}{o:List Int}(h:QM f o.length o):o=pL o.length f:=ext_get (by simp) λi=>by
 rw[yf];split
 ·exact h i (by assumption)
 exact qd (by omega)
theorem M4(n:Nat)(f:Nat->Int):pL (n+1) f=pL n f++[f n]:=by simp[pL,List.range_succ]
theorem qa4{m:Nat}(h:m<=1000000)(x:D):aJ (m+List.length [x]) 8=true:=bL (by simp;omega) (by simp;omega)
def FM(g:Int->Int->Int)(v w:List Int)(n:Nat):List Int:=pL n λi=>g (e7 v (i+1)) (e7 w (i+1))
theorem KM{f id n t:Nat}{H:List (FuncId×bh)}(hH:HD X H)(hu:uniq PR f=true)(hc:b8 (qS f) (bE PR f id)=true)
  {A:Type} (hd:A->List Int->Nat->Int->S) (Pre:A->Prop) (len:A->Nat) (F:A->Nat->Int)
  (hvc: ∀(a:A) (o:List Int) (m:Nat) (k:Int),Pre a->len a<=1000000->1<=k->k<=len a+1->m=o.length->(m:Int)+1=k-> ∀ae,(k<=len a->ae (.normal,hd a (o++[F a m]) (m+1) (k+1)))->(¬k<=len a->ae (.exit 0,⟨n,[(t,P.sl 0 0 m)],[(0,⟨0,none,.arr 3 false (bB o)⟩)]⟩))->aC H [] f id (hd a o m k) ae)
  {g:S->K (PX×S)} (hg: ∀s ae,g s ae-> ∃a,s=hd a [] 0 1/\Pre a/\len a<=1000000/\ae (.exit 0,⟨n,[(t,P.sl 0 0 (len a))],[(0,⟨0,none,.arr 3 false (bB (pL (len a) (F a)))⟩)]⟩)):
  LD X f id (ah (aL f id) g):=LD.par (H:=H) (hk:=[]) hu hc hH .nil
 (A:=A) (B:=List Int×Nat×Int) (λa b=>hd a b.1 b.2.1 b.2.2)
 (λa b=>Pre a/\len a<=1000000/\b.2.1<=len a/\b.1=pL b.2.1 (F a)/\b.2.2=b.2.1+1)
 (λa b=>len a+1-b.2.1)
 (λa x=>x=(.exit 0,⟨n,[(t,P.sl 0 0 (len a))],[(0,⟨0,none,.arr 3 false (bB (pL (len a) (F a)))⟩)]⟩))
 (by
  rintro a ⟨o,m,k⟩ ⟨hp,hl,hm,ho,hk⟩;dsimp only at*
  refine hvc a o m k hp hl (by omega) (by omega) (by rw[ho];simp) (by omega) _ (λh=> ?_) λh=> ?_
  ·exact⟨_,by dsimp only;omega,(o++[F a m],m+1,k+1),rfl,⟨hp,hl,by dsimp only;omega,by rw[ho,M4],by dsimp only;omega⟩,rfl⟩
  have:m=len a:=by omega
  subst this;subst ho;rfl)
 (by intro s ae hs;obtain⟨a,rfl,h1,h2,h3⟩:=hg s ae hs;refine⟨a,([],0,1),rfl,⟨h1,h2,za7 _,rfl,rfl⟩,?_⟩;rintro x rfl;exact h3)
def qcr(g:Int->Int->Int):S->K (PX×S):=λs ae=> ∃v w es,s=⟨28,[(0,vD v),(1,vD w),(5,P.sl 0 0 0),(6,iD 1)],[(0,⟨0,none,.arr 3 false es⟩)]⟩/\(es=[]/\mj v/\mj w)/\
 ae (.exit 0,⟨28,[(5,P.sl 0 0 (max v.length w.length))],[(0,⟨0,none,.arr 3 false (bB (FM g v w (max v.length w.length)))⟩)]⟩)
theorem Xb:LD X 35 3 (ah (aL 35 3) (qcr max)):=KM (H:=[(37,W8)]) (.cons FL .nil) (by kernel_rfl) (by kernel_rfl)
 (A:=List Int×List Int) (λa o m k=>qfH a.1 a.2 o m k) (λa=>mj a.1/\mj a.2) (λa=>max a.1.length a.2.length) (λa i=>max (e7 a.1 (i+1)) (e7 a.2 (i+1)))
 (by
  rintro⟨v,w⟩ o m k ⟨hv,hw⟩ hl h1 h2 hm hk ae p1 p2;dsimp only at*
  unfold mj at hv hw
  (rw[<-qcm];delta Zw Zu Zv Zh Zt Ze Zg Zf Z6 Z5 Zd Zr Zs Zq Zm Zo Z9)
  simp only[gj];refine a8 (λh=> ?_) λh=>p2 (by omega);refine⟨v,k,rfl,rfl,by omega,w,k,rfl,rfl,by omega,ao ?_ (ao (gB (by omega) (by omega)) ?_)⟩
  ·rw[qa4 (by omega)];simp;omega
  rw[uv hm];have:=p1 (by omega);rw[hk] at this;exact this)
 (by rintro s ae ⟨v,w,es,rfl,⟨rfl,hv,hw⟩,hp⟩;refine⟨(v,w),rfl,⟨hv,hw⟩,by unfold mj at hv hw;dsimp only;omega,hp⟩)
def qcs:S->K (PX×S):=λs ae=> ∃v r n es,s=⟨39,[(0,vD v),(1,iD r),(2,iD n),(8,P.sl 0 0 0),(9,iD 1)],[(0,⟨0,none,.arr 3 false es⟩)]⟩/\(es=[]/\mj v/\1<=r/\r<=16)/\
 ae (.exit 0,⟨39,[(8,P.sl 0 0 (max v.length r.toNat))],[(0,⟨0,none,.arr 3 false (bB (gO v r n))⟩)]⟩)
theorem Xc:LD X 40 5 (ah (aL 40 5) qcs):=KM (H:=[(37,W8)]) (.cons FL .nil) (by kernel_rfl) (by kernel_rfl)
 (A:=List Int×Int×Int) (λa o m k=>qfI a.1 o a.2.1 a.2.2 m k) (λa=>mj a.1/\1<=a.2.1/\a.2.1<=16) (λa=>max a.1.length a.2.1.toNat) (λa i=>if(i:Int)+1=a.2.1 then a.2.2 else e7 a.1 (i+1))
 (by
  rintro⟨v,r,n⟩ o m k ⟨hv,ve,hr1⟩ hl h1 h2 hm hk ae p1 p2;dsimp only at*
  unfold mj at hv
  (rw[<-qcn];delta Zw Zu Zr Zs Zq Zm Zo Ze Zh Zz Zy Zf Z6 Z5 Zd Zx Z9)
  simp only[gj];have kS: ∀x:D,(Nat.ble m (bB o).length&&aJ (m+List.length [x]) 8)=true:=λx=>by rw[qa4 (by omega)];simp;omega
  simp only[gj] at kS;refine a8 (λh=> ?_) λh=>p2 (by omega);have:=p1 (by omega);rw[hk] at this;refine mI (λh'=> ?_) λh'=> ?_
  ·rw[zaq h'] at this;refine ao (kS _) (ao (gB (by omega) (by omega)) ?_);rw[uv hm];exact this
  rw[zap h'] at this;refine⟨v,k,rfl,rfl,by omega,ao (kS _) (ao (gB (by omega) (by omega)) ?_)⟩;rw[uv hm];exact this)
 (by rintro s ae ⟨v,r,n,es,rfl,⟨rfl,hv,h1,h2⟩,hp⟩;refine⟨(v,r,n),rfl,⟨hv,h1,h2⟩,by unfold mj at hv;dsimp only;omega,hp⟩)
def qct:S->K (PX×S):=λs ae=> ∃v,s=qcj v 0/\mj v/\(¬(∀x∈v,0<=x)->ae (.ret,⟨24,[(0,vD v),(2,.d (.bool false))],[]⟩))/\((∀x∈v,0<=x)->ae (.exit 0,⟨24,[(0,vD v)],[]⟩))
def QN:bh:=λps R ae=> ∃v w,ps=[vD v,vD w]/\R=[]/\mj v/\ae (.d (.bool (decide (v=w))),[])
def rG:bh:=λps R ae=> ∃v,ps=[vD v]/\R=[]/\mj v/\ae (vD (bM v),[])
def IL:bh:=λps R ae=> ∃v w,ps=[vD v,vD w]/\R=[]/\(mj v/\mj w)/\ae (vD (mc v w),[])
def qfJ:bh:=λps R ae=> ∃v r n,ps=[vD v,iD r,iD n]/\R=[]/\mj v/\(¬(1<=r/\r<=16)->ae (.bI [.sl 0 0 0,iD 1],[(0,⟨0,none,.arr 3 false []⟩)]))/\((1<=r/\r<=16)->ae (.bI [vD (bM (gO v r n)),iD 0],[]))
def qh4:bh:=λps R ae=> ∃v,ps=[vD v]/\R=[]/\mj v/\ae (.d (.bool (dN v)),[])
def ZC:P:=P.d (D.bool true)
def ZD(ae:P×List (Nat×En)->Prop):Prop:=ae (ZC,[])
def ZB:List (Nat×P):=[(5,P.d Z3)]
theorem qfK(v w:List Int)(ae:P×List (Nat×En)->Prop):(bif Z9 v !=Z9 w then Z1 ae else∃(e9:List Int) (Bk:List Int),S.mk 26 (Zf v::Zg w::ZB) []=S.mk 26 (Zf e9::Zg Bk::ZB) []/\(List.length e9=List.length Bk/\mj e9)/\(e9≠Bk->Z1 ae)/\(e9=Bk->ZD ae))=(aK [] [(4,ah (aL 94 4) qcp)] 94 [vD v,vD w] []) ae:=by kernel_rfl
theorem qfL(v:List Int)(ae:P×List (Nat×En)->Prop):(∃(e9:List Int) (n:Int),S.mk 21 [Zf v,(3,P.d (D.int .i64 (Z9 v)))] []=Zn e9 n/\(n=(↑(List.length e9):Int)/\mj e9)/\ob (decide ((0:Int)<=(↑(rD e9 (List.length e9)):Int)/\(↑(rD e9 (List.length e9)):Int)<=Z9 e9)) (ae (P.d (D.sl 1 (List.drop 0 (List.take (rD e9 (List.length e9)) (bB e9)))),[])))=(aK [] [(2,ah (aL 61 2) qcq)] 61 [vD v] []) ae:=by kernel_rfl
def ZH(es:List D):List (Nat×En):=[(0,En.mk 0 none (Obj.arr (3:TypeId) false es))]
def ZI:List (Nat×En):=[(0,En.mk 0 none (Obj.arr (3:TypeId) false []))]
def ZF:P:=P.d (D.int .i64 (1:Int))
def ZE:P:=P.sl 0 0 0
def ZG(e9:List Int)(Bk:List Int):List (Nat×P):=[Zf e9,Zg Bk,(5,ZE),(6,ZF)]
theorem QO(v w:List Int)(ae:P×List (Nat×En)->Prop):(∃(e9:List Int) (Bk:List Int) (es:List D),S.mk 28 (ZG v w) ZI=S.mk 28 (ZG e9 Bk) (ZH es)/\(es=[]/\mj e9/\mj Bk)/\ ∃(v:List Int),[P.d (D.sl 1 (List.take (max (List.length e9) (List.length Bk)) (bB (FM max e9 Bk (max (List.length e9) (List.length Bk))))))]=[Ze v]/\Zq/\mj v/\ae (P.d (D.sl 1 (bB (bM v))),[]))=(aK [(61,rG)] [(3,ah (aL 35 3) (qcr max))] 35 [vD v,vD w] []) ae:=by kernel_rfl
def ZK:List P:=[P.d Z3]
def ZJ(e9:List Int)(fR:Int)(ft:Int):List (Nat×P):=[Zf e9,(1,P.d (Zm fR)),Zy ft,(8,ZE),(9,ZF)]
theorem Xd(v:List Int)(r n:Int)(ae:P×List (Nat×En)->Prop):(bif decide (r<(1:Int)) then ae (P.bI [ZE,ZF],ZI) else bif decide (r>(16:Int)) then ae (P.bI [ZE,ZF],ZI) else∃(e9:List Int) (fR:Int) (ft:Int) (es:List D),S.mk 39 (ZJ v r n) ZI=S.mk 39 (ZJ e9 fR ft) (ZH es)/\(es=[]/\mj e9/\(1:Int)<=fR/\fR<=(16:Int))/\ ∃(v:List Int),[P.d (D.sl 1 (List.take (max (List.length e9) (Zb fR)) (bB (gO e9 fR ft))))]=[Ze v]/\Zq/\mj v/\ae (P.bI (P.d (D.sl 1 (bB (bM v)))::ZK),[]))=(aK [(61,rG)] [(5,ah (aL 40 5) qcs)] 40 [vD v,iD r,iD n] []) ae:=by kernel_rfl
def ZL(e9:List Int):S:=S.mk 24 [Zf e9,(3,P.d Z3)] []
theorem qfM(v:List Int)(ae:P×List (Nat×En)->Prop):(∃(e9:List Int),ZL v=ZL e9/\mj e9/\((¬∀(x:Int),x∈e9->(0:Int)<=x)->Z1 ae)/\((∀(x:Int),x∈e9->(0:Int)<=x)->bif decide (Z9 e9<=(16:Int)) then∃(v:List Int),[Ze e9]=[Ze v]/\Zq/\mj v/\ ∃(Vz:List Int) (w:List Int),[Ze e9,P.d (D.sl 1 (bB (bM v)))]=[Ze Vz,Ze w]/\Zq/\mj Vz/\ae (P.d (D.bool (decide (Vz=w))),[]) else Z1 ae))=(aK [(61,rG),(94,QN)] [(2,ah (aL 78 2) qct)] 78 [vD v] []) ae:=by kernel_rfl
variable{X:XF}
theorem QP(v:List Int):(∀x∈v,0<=x)↔ ∀i:Nat,i<v.length->0<=v.getD i 0:=by
 constructor
 ·intro h i hi;have:=h v[i] (zar hi);simpa [zab,hi] using this
 intro h x hx;obtain⟨i,hi,rfl⟩:=zaN hx;have:=h i hi;simpa [zab,hi] using this
theorem Xe:LD X 78 2 (ah (aL 78 2) qct):=LD.par (H:=[]) (hk:=[]) (by kernel_rfl) (by kernel_rfl) .nil .nil
 (A:=List Int) (B:=Int) (λa k=>qcj a k)
 (λa k=>mj a/\0<=k/\k<=a.length/\ ∀i:Nat,(i:Int)<k->0<=a.getD i 0)
 (λa k=>(a.length-k).toNat)
 (λa x=>((¬ ∀x∈a,0<=x)/\x=(.ret,⟨24,[(0,vD a),(2,.d (.bool false))],[]⟩))\/((∀x∈a,0<=x)/\x=(.exit 0,⟨24,[(0,vD a)],[]⟩)))
 (by
  rintro v k ⟨hs,h0,h1,he⟩
  (rw[<-qco];delta Zh Z6 Z5 Zd Z0 ZA Ze Zf Zb Z9 Za)
  unfold mj at hs;simp only[gj];refine a8 (λh=> ?_) λh=> ?_
  ·rw[pM (by omega)];refine aP (by omega) (ao (QL _) (a8 (λh'=> ?_) λh'=>ao (gB (by omega) (by omega)) ?_))
   ·replace h':v.getD k.toNat 0<0:=h'
    refine .inl ⟨λhh=> ?_,rfl⟩;have:=(QP v).1 hh k.toNat (by omega);omega
   replace h': ¬v.getD k.toNat 0<0:=h'
   exact⟨_,by omega,k+1,rfl,⟨hs,by omega,by omega,λi hi=>by
    by_cases e:(i:Int)=k
    ·have:i=k.toNat:=by omega
     rw[this];omega
    exact he i (by omega)⟩,rfl⟩
  exact .inr ⟨(QP v).2 λi hi=>he i (by omega),rfl⟩)
 (by
  rintro s ae ⟨v,rfl,h1,h2,h3⟩;refine⟨v,0,rfl,⟨h1,by omega,by omega,λi hi=>by omega⟩,?_⟩;rintro x (⟨h,rfl⟩| ⟨h,rfl⟩)
  ·exact h2 h
  exact h3 h)
theorem qcu:FD X 94 QN:=FD.mk (H:=[]) (hk:=[(4,ah (aL 94 4) qcp)]) (by kernel_rfl) .nil (.cons W9 .nil) (by
 intro ps R ae hh;obtain⟨v,w,rfl,rfl,hv,hp⟩:=hh
 (rw[<-qfK];delta ZC ZD Z3 ZB Ze Zg Zf Z0 Z1 Z9)
 simp only[gj];refine lK (λh=> ?_) λh=>⟨v,w,rfl,⟨by omega,hv⟩,λhn=> ?_,λhe=> ?_⟩
 ·exact fq hp (me λe=>h (by rw[e]))
 ·exact fq hp (me hn)
 exact fq hp (kY he))
theorem QQ:FD X 61 rG:=FD.mk (H:=[]) (hk:=[(2,ah (aL 61 2) qcq)]) (by kernel_rfl) .nil (.cons Xa .nil) (by
 intro ps R ae hh;obtain⟨v,rfl,rfl,hv,hp⟩:=hh
 (rw[<-qfL];delta Zm Ze Zf Zn Z9)
 simp only[gj];refine⟨v,_,rfl,⟨rfl,hv⟩,aP ?_ ?_⟩
 ·have:=rE v v.length;omega
 rw[M3];exact hp)
theorem KN(g:Int->Int->Int)(v w:List Int)(m:Nat):(FM g v w m).length=m:=by simp[FM]
theorem sS{o:List Int}{m:Nat}(h:o.length=m):(bB o).take m=bB o:=by rw[zan (by simp[h])]
theorem QR:FD X 35 IL:=FD.mk (H:=[(61,rG)]) (hk:=[(3,ah (aL 35 3) (qcr max))]) (by kernel_rfl) (.cons QQ .nil) (.cons Xb .nil) (by
 intro ps R ae hh;obtain⟨v,w,rfl,rfl,h,hp⟩:=hh
 (rw[<-QO];delta Zq Ze ZH ZI ZF ZE Zg Zf ZG)
 refine⟨v,w,_,rfl,⟨rfl,h⟩,FM max v w (max v.length w.length),by rw[sS (KN ..)],rfl,?_,hp⟩;unfold mj at*;rw[KN];omega)
theorem qfN:FD X 78 qh4:=FD.mk (H:=[(61,rG),(94,QN)]) (hk:=[(2,ah (aL 78 2) qct)]) (by kernel_rfl) (.cons QQ (.cons qcu .nil)) (.cons Xe .nil) (by
 intro ps R ae hh;obtain⟨v,rfl,rfl,hv,hp⟩:=hh
 (rw[<-qfM];delta Zq Ze Z9 Z0 Z1 Z3 Zf ZL)
 simp only[gj];refine⟨v,rfl,hv,λh=>fq hp (me λhh=>h hh.1),λh=>a8 (λh'=>⟨v,rfl,rfl,hv,v,bM v,rfl,rfl,hv,?_⟩) λh'=> ?_⟩
 ·refine fq hp ?_;rw[dN,zbh];simp only[zal];constructor
  ·rintro⟨_,_,h3⟩;have hl:=rE v v.length;rw[rF] at h3;rw[bM,h3,zag]
  intro h3;exact⟨h,by omega,by rw[<-h3]⟩
 exact fq hp (me λhh=>h' (by omega)))
theorem Xf:FD X 40 qfJ:=FD.mk (H:=[(61,rG)]) (hk:=[(5,ah (aL 40 5) qcs)]) (by kernel_rfl) (.cons QQ .nil) (.cons Xc .nil) (by
 intro ps R ae hh;obtain⟨v,r,n,rfl,rfl,hv,bk,bC⟩:=hh
 (rw[<-Xd];delta Z3 ZK Zq Ze Zb ZH ZF ZE Zm Zy Zf ZJ ZI)
 have Em:=hv;unfold mj at Em;have hl:(gO v r n).length=max v.length r.toNat:=by simp[gO]
 refine a8 (λh=>bk (by omega)) λh=>a8 (λh'=>bk (by omega)) λh'=>⟨v,r,n,_,rfl,⟨rfl,hv,by omega,by omega⟩,gO v r n,by rw[sS hl],rfl,by unfold mj;rw[hl];omega,bC (by omega)⟩)
def yg:bh:=λps R ae=> ∃s sep,ps=[.d (.str s),.d (.str sep)]/\R=[]/\(s.length<4294967281/\1<=sep.length/\(Lib.split s sep).length=Lib.count s sep+1/\Lib.count s sep<=4294967281)/\
 ∀l,Lib.split s sep=l->ae (.sl 0 0 l.length,[(0,⟨0,none,.arr 9 false (l.map D.str)⟩)])
def QS:bh:=λps R ae=> ∃s,ps=[.d (.str s)]/\R=[]/\s.length<=281474976710656/\ae (.bI [.d (.int .i64 (cA s)),.bad],[])
def QT:bh:=λps R ae=> ∃n,ps=[.d (.int .i64 n)]/\R=[]/\(-9223372036854775808<=n/\n<=9223372036854775807)/\ae (.d (.str (Lib.itoa n)),[])
def eU(t r i:Int):List UInt8:=Lib.itoa t++[46]++Lib.itoa r++[46]++Lib.itoa i
def ez(t r i:Int):List UInt8:=if aY t r i=true then eU t r i else []
def Bl:bh:=λps R ae=> ∃t r i,ps=[.d (Ho t r i)]/\R=[]/\ae (.d (.str (ez t r i)),[])
def ZQ:List UInt8:=[(46:UInt8)]
def ZT(n:Int)(ft:Int):List UInt8:=Lib.itoa n++ZQ++Lib.itoa ft++ZQ
def ZU(n:Int)(ft:Int)(z7:Int)(ae:P×List (Nat×En)->Prop):Prop:=ob (decide (List.length (ZT n ft)+List.length (Lib.itoa z7)<=Zr)) (ae (P.d (D.str (ZT n ft++Lib.itoa z7)),[]))
def ZS(n:Int)(ft:Int):Bool:=decide (List.length (Lib.itoa n++ZQ++Lib.itoa ft)+1<=Zr)
def ZR(n:Int)(ft:Int):Bool:=decide (List.length (Lib.itoa n++ZQ)+List.length (Lib.itoa ft)<=Zr)
def ZP(n:Int):Bool:=decide (List.length (Lib.itoa n)+1<=Zr)
def ZO:D:=D.str []
def ZN(kZ:Int)(fR:Int)(aX:Int):Bool:= !aY kZ fR aX
def ZM(kZ:Int)(fR:Int)(aX:Int):List P:=[P.d (D.agg (Zm kZ::Zm fR::Zx aX))]
theorem qcv(t r i:Int)(ae:P×List (Nat×En)->Prop):(∃(kZ:Int) (fR:Int) (aX:Int),ZM t r i=ZM kZ fR aX/\Zq/\bif ZN kZ fR aX then ae (P.d ZO,[]) else∃(n:Int),Zo t=Zo n/\Zq/\(Z5<=n/\n<=Z6)/\ob (ZP n) (∃(ft:Int),Zo r=Zo ft/\Zq/\(Z5<=ft/\ft<=Z6)/\ob (ZR n ft) (ob (ZS n ft) (∃(z7:Int),Zo i=Zo z7/\Zq/\(Z5<=z7/\z7<=Z6)/\ZU n ft z7 ae))))=(aK [(109,eI),(121,QT)] [] 110 [.d (Ho t r i)] []) ae:=by kernel_rfl
def VA:P:=P.d (D.agg [Z3,Z3,Z3])
def Hp(qT:List UInt8):D:=D.int .i64 (cA qT)
def Z1a(qT:List UInt8):List P:=[P.d (D.agg [Hp qT,Z3,Z3])]
def Z19(qT:List UInt8)(VB:List UInt8):List P:=[P.d (D.agg [Hp qT,Hp VB,Z3])]
def z8:List P:=[ZC]
def ZX(bF:List UInt8):Nat:=List.length bF
def ZV(bF:List UInt8):P:=P.d (D.str bF)
def ZW(sep:List UInt8):List P:=[ZV sep]
def Z16:List P->Prop:=λ(s0:List P)=> ∃(s:List UInt8),s0=ZW s/\Zq/\ZX s<=281474976710656/\False
def Z15:Int:=(0:Int)+(1:Int)+(1:Int)
def sT(l:List (List UInt8)):List D:=List.map D.str l
def KO(l:List (List UInt8)):Nat:=List.length (sT l)
def IP:List P:=[P.d Z0]
def Bm(ae:P×List (Nat×En)->Prop):Prop:=ae (P.bI (VA::IP),[])
def ZZ(l:List (List UInt8)):Int:=(↑(List.length l):Int)
def ZY(bF:List UInt8)(sep:List UInt8):Prop:=ZX bF<4294967281/\1<=ZX sep/\List.length (Lib.split bF sep)=Lib.count bF sep+1/\Lib.count bF sep<=4294967281
theorem Xg(s:List UInt8)(ae:P×List (Nat×En)->Prop):(∃(bF:List UInt8) (sep:List UInt8),[ZV s,P.d (D.str ZQ)]=ZV bF::ZW sep/\Zq/\ZY bF sep/\ ∀(l:List (List UInt8)),Lib.split bF sep=l->bif ZZ l !=(3:Int) then Bm ae else bif decide ((0:Int)<ZZ l) then ob (decide ((0:Int)<=(0:Int)/\(0:Int)<ZZ l)) (ob (decide (0<KO l)) (ob (cT PR (9:TypeId) (D.nth (sT l) 0)) (∃(qT:List UInt8),[P.d (D.str (D.cm (D.nth (sT l) 0)))]=ZW qT/\Zq/\ZX qT<=281474976710656/\bif decide ((0:Int)+(1:Int)<ZZ l) then ob (decide ((0:Int)<=(0:Int)+(1:Int)/\(0:Int)+(1:Int)<ZZ l)) (ob (decide (1<KO l)) (ob (cT PR (9:TypeId) (D.nth (sT l) 1)) (∃(VB:List UInt8),[P.d (D.str (D.cm (D.nth (sT l) 1)))]=ZW VB/\Zq/\ZX VB<=281474976710656/\bif decide (Z15<ZZ l) then ob (decide ((0:Int)<=Z15/\Z15<ZZ l)) (ob (decide (2<KO l)) (ob (cT PR (9:TypeId) (D.nth (sT l) 2)) (∃(s_4:List UInt8),[P.d (D.str (D.cm (D.nth (sT l) 2)))]=ZW s_4/\Zq/\ZX s_4<=281474976710656/\bif decide (Z15+(1:Int)<ZZ l) then ob (decide ((0:Int)<=Z15+(1:Int)/\Z15+(1:Int)<ZZ l)) (ob (decide (3<KO l)) (ob (cT PR (9:TypeId) (D.nth (sT l) 3)) (Z16 [P.d (D.str (D.cm (D.nth (sT l) 3)))]))) else∃(t:Int) (r:Int) (i:Int),[P.d (D.agg [Hp qT,Hp VB,Hp s_4])]=ZM t r i/\Zq/\bif ZN t r i then Bm ae else∃(t:Int) (r:Int) (i:Int),[P.d (D.agg [Hp qT,Hp VB,Hp s_4])]=ZM t r i/\Zq/\bif !ez t r i==s then Bm ae else ae (P.bI (P.d (D.agg [Hp qT,Hp VB,Hp s_4])::z8),[])))) else∃(t:Int) (r:Int) (i:Int),Z19 qT VB=ZM t r i/\Zq/\bif ZN t r i then Bm ae else∃(t:Int) (r:Int) (i:Int),Z19 qT VB=ZM t r i/\Zq/\bif !ez t r i==s then Bm ae else ae (P.bI (P.d (D.agg [Hp qT,Hp VB,Z3])::z8),[])))) else∃(t:Int) (r:Int) (i:Int),Z1a qT=ZM t r i/\Zq/\bif ZN t r i then Bm ae else∃(t:Int) (r:Int) (i:Int),Z1a qT=ZM t r i/\Zq/\bif !ez t r i==s then Bm ae else ae (P.bI (P.d (D.agg [Hp qT,Z3,Z3])::z8),[])))) else∃(t:Int) (r:Int) (i:Int),[VA]=ZM t r i/\Zq/\bif ZN t r i then Bm ae else∃(t:Int) (r:Int) (i:Int),[VA]=ZM t r i/\Zq/\bif !ez t r i==s then Bm ae else ae (P.bI (VA::z8),[]))=(aK [(109,eI),(70,yg),(108,QS),(110,Bl)] [] 90 [.d (.str s)] []) ae:=by kernel_rfl
variable{X:XF}
theorem KP:FD X 70 yg:=FD.qq Tryz.func70 (by kernel_rfl) (by kernel_rfl) (by intro ps R ae hh;obtain⟨s,sep,rfl,rfl,hc,hp⟩:=hh;refine⟨(.sl 0 0 (Lib.split s sep).length,[(0,⟨0,none,.arr 9 false ((Lib.split s sep).map D.str)⟩)]),?_,hp _ rfl⟩;show CY [.d (.str s),.d (.str sep)] []=_;exact zaq hc)
theorem qcw:FD X 108 QS:=FD.qq Tryz.func108 (by kernel_rfl) (by kernel_rfl) (by intro ps R ae hh;obtain⟨s,rfl,rfl,hc,hp⟩:=hh;refine⟨_,?_,hp⟩;show KJ [.d (.str s)] []=_;exact zaq hc)
theorem qcx:FD X 121 QT:=FD.qq Tryz.func121 (by kernel_rfl) (by kernel_rfl) (by intro ps R ae hh;obtain⟨n,rfl,rfl,hc,hp⟩:=hh;refine⟨_,?_,hp⟩;show KK [.d (.int .i64 n)] []=_;exact zaq hc)
theorem Aa: ∀u:Nat,(Lib.decDigits u).length<=u+1:=by
 intro u
 induction u using Nat.strongRecOn with
 |_ u ih=>
  rw[Lib.decDigits];split
  ·simp
  have:=ih (u/10) (by omega);simp only[zaj,zam,zay];omega
theorem mJ{n:Int}(h0:0<=n)(h1:n<=1099511627776):(Lib.itoa n).length<=1099511627777:=by unfold Lib.itoa;rw[zap (by omega)];have:=Aa n.toNat;omega
theorem qcy:FD X 110 Bl:=FD.mk (H:=[(109,eI),(121,QT)]) (by kernel_rfl) (.cons Bj (.cons qcx .nil)) .nil (by
 intro ps R ae hh;obtain⟨t,r,i,rfl,rfl,hp⟩:=hh
 (rw[<-qcv];delta Zr ZQ ZT ZU ZS ZR ZP Z6 Z5 Zm Zo ZO ZN Zq Zx ZM)
 refine⟨_,_,_,rfl,rfl,az (λh=> ?_) λh=> ?_⟩
 ·have h:aY t r i=false:=by simpa using h
  rw[ez,zap (by simp[h])] at hp;exact hp
 have h:aY t r i=true:=by simpa using h
 rw[ez,zaq h] at hp;simp only[aY,zal] at h;have l1:=mJ (n:=t) (by omega) (by omega);have l2:=mJ (n:=r) (by omega) (by omega);have l3:=mJ (n:=i) (by omega) (by omega);refine⟨_,rfl,rfl,⟨by omega,by omega⟩,ao (by simp;omega) ⟨_,rfl,rfl,⟨by omega,by omega⟩,ao (by simp;omega) (ao (by simp;omega) ⟨_,rfl,rfl,⟨by omega,by omega⟩,ao (by simp;omega) hp⟩)⟩⟩)
def eA(s:List UInt8):Option (Int×Int×Int):=match Lib.split s [46] with
 | [a,b,c]=>if aY (cA a) (cA b) (cA c)=true/\eU (cA a) (cA b) (cA c)=s then some (cA a,cA b,cA c) else none
 |_=>none
structure C1(s:List UInt8):Prop where
 len:s.length<4294967281
 cnt:(Lib.split s [46]).length=Lib.count s [46]+1
 lim:Lib.count s [46]<=4294967281
 each: ∀x∈Lib.split s [46],x.length<=281474976710656
def IQ:bh:=λps R ae=> ∃s,ps=[.d (.str s)]/\R=[]/\C1 s/\(eA s=none->ae (.bI [.d (Ho 0 0 0),.d (.bool false)],[]))/\(∀t r i,eA s=some (t,r,i)->ae (.bI [.d (Ho t r i),.d (.bool true)],[]))
theorem qcz(x:List UInt8):cT PR 9 (.str x)=true:=by kernel_rfl
theorem Xh:FD X 90 IQ:=FD.mk (H:=[(109,eI),(70,yg),(108,QS),(110,Bl)]) (by kernel_rfl) (.cons Bj (.cons KP (.cons qcw (.cons qcy .nil)))) .nil (by
 intro ps R ae hh;obtain⟨s,rfl,rfl,hs,bk,bC⟩:=hh
 (rw[<-Xg];delta Z3 VA Hp Z1a Z19 ZC z8 ZN Zm Zx ZM ZX Zq ZV ZW Z16 Z15 sT KO Z0 IP Bm ZZ ZY ZQ)
 refine⟨s,[46],rfl,rfl,⟨hs.len,by simp,hs.cnt,hs.lim⟩,?_⟩;intro l hl;by_cases h3:l.length=3
 ·obtain⟨a,b,c,rfl⟩: ∃a b c,l=[a,b,c]:=by
   match l,h3 with
   | [a,b,c],_=>exact⟨a,b,c,rfl⟩
  have ha:a.length<=281474976710656:=hs.each a (by rw[hl];simp);have hb:b.length<=281474976710656:=hs.each b (by rw[hl];simp);have hc:c.length<=281474976710656:=hs.each c (by rw[hl];simp);refine jo (by simp) (gh (by simp) (ao (by simp) (ao (by simp) (ao (qcz a) ⟨a,rfl,rfl,ha,?_⟩))));refine gh (by simp) (ao (by simp) (ao (by simp) (ao (qcz b) ⟨b,rfl,rfl,hb,?_⟩)));refine gh (by simp) (ao (by simp) (ao (by simp) (ao (qcz c) ⟨c,rfl,rfl,hc,?_⟩)));refine jo (by simp) ⟨_,_,_,rfl,rfl,az (λh=> ?_) λh=>⟨_,_,_,rfl,rfl,az (λh'=> ?_) λh'=> ?_⟩⟩
  ·have h:aY (cA a) (cA b) (cA c)=false:=by simpa using h
   exact bk (by simp[eA,hl,h])
  ·have h:aY (cA a) (cA b) (cA c)=true:=by simpa using h
   have h': ¬eU (cA a) (cA b) (cA c)=s:=by simpa [ez,h] using h'
   exact bk (by simp[eA,hl,h'])
  have h:aY (cA a) (cA b) (cA c)=true:=by simpa using h
  have h':eU (cA a) (cA b) (cA c)=s:=by simpa [ez,h] using h'
  exact bC _ _ _ (by simp[eA,hl,h,h'])
 refine gh (by simp;omega) (bk ?_);unfold eA;rw[hl];split
 ·simp at h3
 rfl)
def splitBy(c:UInt8):List UInt8->List (List UInt8)
 | []=>[[]]
 |b::l=>if b=c then []::splitBy c l else match splitBy c l with |h::t=>(b::h)::t | []=>[[b]]
theorem IU(c:UInt8): ∀l,splitBy c l≠[]
 | []=>by simp[splitBy]
 |b::l=>by
  unfold splitBy;split
  ·simp
  split<;>simp
theorem Bn(c:UInt8): ∀s:List UInt8,Lib.splitK [c] 0 (s.count c) s=splitBy c s
 | []=>rfl
 |b::l=>by
  have ih:=Bn c l;by_cases h:b=c
  ·subst h;rw[List.count_cons_self,splitBy,zaq rfl,Lib.splitK];have hix:Lib.index (b::l) [b]=0:=by rw[Lib.index];simp[List.isPrefixOf]
   rw[zap (by rw[hix];decide),hix];simp[ih]
  have hp:([c]:List UInt8).isPrefixOf (b::l)=false:=by simp[List.isPrefixOf,zbs h]
  have hix:Lib.index (b::l) [c]=if Lib.index l [c]== -1 then-1 else Lib.index l [c]+1:=by rw[Lib.index,hp];simp
  rw[List.count_cons_of_ne (by simpa using h),splitBy,zap h];cases hk:l.count c with
  |zero=>rw[hk] at ih;rw[<-ih];rfl
  |succ m=>
   rw[hk] at ih;have hc1:Lib.count l [c]=m+1:=by rw[Lib.count_one,hk]
   by_cases hm:Lib.index l [c]= -1
   ·rw[Lib.count_miss hm] at hc1;omega
   have hge:=Lib.index_ge l [c];obtain⟨j,hj⟩: ∃j:Nat,Lib.index l [c]=j:=⟨(Lib.index l [c]).toNat,by omega⟩
   rw[Lib.splitK,zap (by rw[hj];simp),hj] at ih;rw[Lib.splitK,hix,hj];have e1:((j:Int)== -1)=false:=by rw[zbQ];omega
   have e2:(((j:Int)+1)== -1)=false:=by rw[zbQ];omega
   simp only[e1,zaC,zbq,e2];rw[<-ih];simp only[zaU,zbc,zbV];rw[show((j:Int)+1).toNat=j+1 by omega];simp
theorem pN(c:UInt8)(s:List UInt8):Lib.split s [c]=splitBy c s:=by rw[Lib.split,Lib.count_one,Bn]
theorem lL(c:UInt8): ∀s:List UInt8,(splitBy c s).length=s.count c+1
 | []=>rfl
 |b::l=>by
  have ih:=lL c l;unfold splitBy;split
  next h=>subst h;simp[ih]
  rename_i h;rw[List.count_cons_of_ne (by simpa using h),<-ih];split
  next e=>rw[e];rfl
  rename_i e;exact absurd e (IU c l)
theorem nQ(c:UInt8): ∀s:List UInt8,∀x∈splitBy c s,x.length<=s.length
 | [],x,h=>by simp[splitBy] at h;subst h;simp
 |b::l,x,h=>by
  have ih:=nQ c l;unfold splitBy at h;split at h
  ·rcases zas.1 h with rfl |h
   ·simp
   have:=ih x h;simp;omega
  split at h
  next y t e=>
   rcases zas.1 h with rfl |h
   ·have:=ih y (by rw[e];simp);simp;omega
   have:=ih x (by rw[e];simp[h]);simp;omega
  simp at h;subst h;simp
theorem nR(c:UInt8): ∀s:List UInt8,c∉s->splitBy c s=[s]
 | [],_=>rfl
 |b::l,h=>by simp at h;unfold splitBy;rw[zap (zbs h.1),nR c l h.2]
theorem jq(c:UInt8)(t:List UInt8): ∀s:List UInt8,c∉s->splitBy c (s++c::t)=s::splitBy c t
 | [],_=>by simp[splitBy]
 |b::l,h=>by simp at h;rw[zbF,splitBy,zap (zbs h.1),jq c t l h.2]
def cO(b:UInt8):Bool:=decide (48<=b.toNat/\b.toNat<=57)
def iv(a:Nat)(b:UInt8):Nat:=a*10+(b.toNat-48)
def bP(l:List UInt8):Nat:=l.foldl iv 0
def iL(k:Nat):UInt8:=UInt8.ofNat (48+k)
theorem iM{k:Nat}(h:k<10):(iL k).toNat=48+k:=by unfold iL;rw[zbL];omega
theorem yh{k:Nat}(h:k<10):cO (iL k)=true:=by unfold cO;rw[iM h];simp;omega
theorem M5{b:UInt8}(h:cO b=true): ∃k,k<10/\b=iL k:=by unfold cO at h;simp at h;refine⟨b.toNat-48,by omega,?_⟩;apply zbY.1;rw[iM (by omega)];omega
theorem eP{u:Nat}(h:u<10):Lib.decDigits u=[iL u]:=by rw[Lib.decDigits,dif_pos h];rfl
theorem nS{u:Nat}(h: ¬u<10):Lib.decDigits u=Lib.decDigits (u/10)++[iL (u%10)]:=by rw[Lib.decDigits,dif_neg h];rfl
theorem k7(l:List UInt8)(b:UInt8):bP (l++[b])=iv (bP l) b:=by simp[bP]
theorem sU: ∀u:Nat,∀b∈Lib.decDigits u,cO b=true:=by
 intro u
 induction u using Nat.strongRecOn with
 |_ u ih=>
  intro b hb;by_cases h:u<10
  ·rw[eP h] at hb;simp at hb;subst hb;exact yh h
  rw[nS h] at hb;rcases zaB.1 hb with hb |hb
  ·exact ih (u/10) (by omega) b hb
  simp at hb;subst hb;exact yh (by omega)
theorem KQ: ∀u:Nat,bP (Lib.decDigits u)=u:=by
 intro u
 induction u using Nat.strongRecOn with
 |_ u ih=>
  by_cases h:u<10
  ·rw[eP h];simp[bP,iv,iM h]
  rw[nS h,k7,ih (u/10) (by omega),iv,iM (by omega)];omega
theorem IV(u:Nat):Lib.decDigits u≠[]:=by
 by_cases h:u<10
 ·rw[eP h];simp
 rw[nS h];simp
theorem QU: ∀u:Nat,0<u->(Lib.decDigits u).head?≠some 48:=by
 intro u
 induction u using Nat.strongRecOn with
 |_ u ih=>
  intro h0;by_cases h:u<10
  ·rw[eP h];simp;intro e;have:=congrArg UInt8.toNat e;rw[iM h] at this;simp at this;omega
  rw[nS h];have:=ih (u/10) (by omega) (by omega);cases hd:Lib.decDigits (u/10) with
  |nil=>exact absurd hd (IV _)
  |cons x r=>rw[hd] at this;simpa using this
theorem IW{α:Type}{C:List α->Prop}(h0:C [])(hs: ∀l b,C l->C (l++[b]))(l:List α):C l:=by
 have: ∀l:List α,C l.reverse:=λl=>by
  induction l with
  |nil=>exact h0
  |cons b l ih=>rw[List.reverse_cons];exact hs _ _ ih
 have h:=this l.reverse;rwa [List.reverse_reverse] at h
theorem qcA: ∀l:List UInt8,l≠[]->(∀b∈l,cO b=true)->(l.head?=some 48->l.length=1)->Lib.decDigits (bP l)=l:=by
 refine IW (λh=>absurd rfl h) ?_;intro l b ih _ hd hh;obtain⟨k,hk,rfl⟩:=M5 (hd b (by simp));rw[k7,iv,iM hk];cases l with
 |nil=>simp[bP];rw[eP (by omega)]
 |cons x r=>
  have hx:x≠48:=λe=>by subst e;have:=hh (by simp);simp at this
  have ih:=ih (by simp) (λb hb=>hd b (zbe _ hb)) (λe=>by simp at e;exact absurd e hx);have qcB:0<bP (x::r):=by
   refine zaK λhc=> ?_;have h0:bP (x::r)=0:=by omega
   rw[h0,eP (by omega)] at ih;injection ih with e1 _
   exact hx (by rw[<-e1];rfl)
  rw[show bP (x::r)*10+(48+k-48)=bP (x::r)*10+k by omega,nS (by omega),show(bP (x::r)*10+k)/10=bP (x::r) by omega,show(bP (x::r)*10+k)%10=k by omega,ih]
theorem C2: ∀(k u:Nat),u<10^(k+1)->(Lib.decDigits u).length<=k+1
 |0,u,h=>by rw[eP (by simpa using h)];simp
 |k+1,u,h=>by
  by_cases hu:u<10
  ·rw[eP hu];simp
  rw[nS hu];have:=C2 k (u/10) (by rw[zcE (by omega)];rw[zcI] at h;exact h);simp;omega
theorem Bo: ∀(l:List UInt8) (a:Nat),a<=l.foldl iv a
 | [],a=>zai _
 |b::l,a=>by have:=Bo l (iv a b);simp only[za4];unfold iv at this⊢;omega
theorem QV: ∀(l:List UInt8) (a:Nat),(∀b∈l,cO b=true)->l.foldl iv a<18446744073709551616->Lib.parseUint10 a l= .ok (l.foldl iv a)
 | [],a,_,_=>rfl
 |b::l,a,hd,bz=>by
  have hb:=hd b (by simp);unfold cO at hb;simp only[zal] at hb;simp only[za4] at bz⊢;have h1:=Bo l (iv a b);have h2:iv a b<18446744073709551616:=by omega
  have e:a*10+(b.toNat-48)=iv a b:=rfl;rw[Lib.parseUint10,zaq hb,zap (by unfold iv at h2;omega),e,zap (by omega)];exact QV l _ (λb hb=>hd b (by simp[hb])) bz
theorem yi{u:Nat}(h:u<9223372036854775808):cA (Lib.decDigits u)=u:=by
 have hv:=KQ u;unfold bP at hv;have hp:=QV (Lib.decDigits u) 0 (sU u) (by rw[hv];omega);rw[hv] at hp;unfold cA Lib.atoiAll;cases hd:Lib.decDigits u with
 |nil=>exact absurd hd (IV u)
 |cons c r=>
  have hc:=sU u c (by rw[hd];simp);unfold cO at hc;simp only[zal] at hc;have e1: ¬(c.toNat=43\/c.toNat=45):=by omega
  have e2: ¬c.toNat=45:=by omega
  rw[hd] at hp;have hm:Lib.parseMag (c::r)= .ok u:=by rw[Lib.parseMag,zap (by simp),hp]
  have e3: ¬(¬c.toNat=45/\9223372036854775808<=u):=by omega
  have e4: ¬(c.toNat=45/\9223372036854775808<u):=by omega
  dsimp only;rw[zap e1,hm];dsimp only;rw[zap e3,zap e4,zap e2]
def cn(s:List UInt8):List UInt8:=(s.take 16).takeWhile cO
def dt(s:List UInt8):Option (Nat×List UInt8):=
 if cn s=[]\/15<(cn s).length\/(s.head?=some 48/\1<(cn s).length) then none else some (bP (cn s),s.drop (cn s).length)
def sV(s:List UInt8):Option (Nat×List UInt8):=match s with |46::r=>dt r |_=>none
def IX(s:List UInt8):Option (Nat×Nat×Nat×List UInt8):=match dt s with
 |none=>none
 |some (a,r)=>match sV r with
  |none=>none
  |some (b,r')=>match sV r' with
   |none=>none
   |some (c,r'')=>some (a,b,c,r'')
theorem qU{α:Type}(p:α->Bool): ∀(d r:List α),(∀b∈d,p b=true)->(∀b,r.head?=some b->p b=false)->(d++r).takeWhile p=d
 | [],r,_,h=>by
  cases r with
  |nil=>rfl
  |cons x r=>simp[h x rfl]
 |x::d,r,hd,h=>by simp[hd x (by simp)];exact qU p d r (λb hb=>hd b (by simp[hb])) h
theorem hQ{s:List UInt8}{a:Nat}{r:List UInt8}(h:dt s=some (a,r)):s=Lib.decDigits a++r/\a<10^15:=by
 unfold dt at h;split at h
 ·cases h
 rename_i hc;simp only[zcF] at hc;obtain⟨h1,h2,h3⟩:=hc;simp only[zak,zaL] at h;obtain⟨rfl,rfl⟩:=h;have qcC:s.take (cn s).length=cn s:=by have h4:cn s<+:s:=(zbZ _).trans (List.take_prefix _ _);exact(zcz.1 h4).symm
 have qfO: ∀b∈cn s,cO b=true:=λb hb=>by have:=zcs (p:=cO) (l:=s.take 16);exact zaZ.1 this b hb
 have qa5:(cn s).head?=s.head?:=by
  rw[<-qcC];cases s with
  |nil=>simp
  |cons x r=>
   cases hd:(cn (x::r)).length with
   |zero=>exact absurd (zdl.1 hd) h1
   |succ k=>simp
 have qfP:Lib.decDigits (bP (cn s))=cn s:=qcA _ h1 qfO (λe=>by rw[qa5] at e;have:=zbm.2 h1;simp only[e,zcM] at h3;omega);refine⟨?_,?_⟩
 ·rw[qfP]
  conv=>lhs;rw[<-zbv (cn s).length s]
  rw[qcC]
 refine zaW ?_ (zcO (by omega) (by omega:(cn s).length<=15));clear qfP qa5 qcC h3 h2 h1;have: ∀l:List UInt8,(∀b∈l,cO b=true)->bP l<10^l.length:=by refine IW (λ_=>by simp[bP]) λl b ih hd=> ?_;have h1:=ih λb hb=>hd b (zbe _ hb);have h2:=hd b (by simp);unfold cO at h2;simp only[zal] at h2;rw[k7,iv,zaj,zaU,zcI];omega
 exact this _ qfO
theorem rH{a:Nat}(ha:a<10^15){r:List UInt8}(hr: ∀b,r.head?=some b->cO b=false):dt (Lib.decDigits a++r)=some (a,r):=by
 have hl:=C2 14 a ha;have hd:cn (Lib.decDigits a++r)=Lib.decDigits a:=by
  unfold cn;rw[zc9,zan (by omega)];refine qU cO _ _ (sU a) λb hb=>hr b ?_;cases r with
  |nil=>simp at hb
  |cons x r=>
   obtain⟨k,hk⟩: ∃k,16-(Lib.decDigits a).length=k+1:=⟨15-(Lib.decDigits a).length,by omega⟩
   rw[hk] at hb;simpa using hb
 have cU:=IV a;unfold dt;rw[hd,zap,KQ,List.drop_left];rintro(h |h | ⟨h,h'⟩)
 ·exact cU h
 ·omega
 have hh:(Lib.decDigits a++r).head?=(Lib.decDigits a).head?:=by
  cases hda:Lib.decDigits a with
  |nil=>exact absurd hda cU
  |cons x t=>rfl
 rw[hh] at h;by_cases h0:a<10
 ·rw[eP h0] at h';simp at h'
 exact QU a (by omega) h
theorem M6{s:List UInt8}{a b c:Nat}{r:List UInt8}(h:IX s=some (a,b,c,r)):s=Lib.decDigits a++46::(Lib.decDigits b++46::(Lib.decDigits c++r))/\a<10^15/\b<10^15/\c<10^15:=by
 unfold IX at h;split at h
 ·cases h
 rename_i a' r1 h1;split at h
 ·cases h
 rename_i b' r2 h2;split at h
 ·cases h
 rename_i c' r3 h3;simp only[zak,zaL] at h;obtain⟨rfl,rfl,rfl,rfl⟩:=h;obtain⟨e1,l1⟩:=hQ h1;unfold sV at h2 h3;split at h2
 next q2=>
  split at h3
  next q3=>obtain⟨e2,l2⟩:=hQ h2;obtain⟨e3,l3⟩:=hQ h3;refine⟨?_,l1,l2,l3⟩;rw[e1,e2,e3]
  cases h3
 cases h2
theorem Xi{a b c:Nat}(ha:a<10^15)(hb:b<10^15)(hc:c<10^15):IX (Lib.decDigits a++46::(Lib.decDigits b++46::Lib.decDigits c))=some (a,b,c,[]):=by
 have h46: ∀(r:List UInt8) (x:UInt8),(46::r).head?=some x->cO x=false:=λr x h=>by simp at h;subst h;rfl
 have h1:=rH ha (r:=46::(Lib.decDigits b++46::Lib.decDigits c)) (h46 _);have h2:=rH hb (r:=46::Lib.decDigits c) (h46 _);have h3:=rH hc (r:=[]) (λx h=>by simp at h);rw[zbl] at h3;unfold IX;rw[h1];simp only[sV,h2,h3]
theorem QW(a:Nat):Lib.itoa (a:Int)=Lib.decDigits a:=by unfold Lib.itoa;rw[zap (by omega)];rfl
theorem qcD(a:Nat):(46:UInt8)∉Lib.decDigits a:=λh=>by have:=sU a 46 h;simp[cO] at this
theorem IY(a b c:Nat):splitBy 46 (Lib.decDigits a++46::(Lib.decDigits b++46::Lib.decDigits c))=[Lib.decDigits a,Lib.decDigits b,Lib.decDigits c]:=by rw[jq _ _ _ (qcD a),jq _ _ _ (qcD b),nR _ _ (qcD c)]
abbrev sD(s:List UInt8):P:= .d (.str s)
abbrev qcE(n:Int)(s:List UInt8):S:=⟨37,[(0,iD n),(3,sD s)],[]⟩
abbrev QX(s:List UInt8)(n i:Int):S:=⟨55,[(0,sD s),(4,iD n),(5,iD i)],[]⟩
def qcF:S->K (PX×S):=λs ae=> ∃n,s=qcE n []/\(0<=n/\n<=9223372036854775807)/\ ∀n' s',(0<=n'/\n'<=9/\s'.length<=9223372036854775807/\Lib.decDigits n.toNat=iL n'.toNat::s')->ae (.exit 0,⟨37,[(0,iD n'),(3,sD s')],[]⟩)
def qcG:S->K (PX×S):=λs ae=> ∃l,s=QX l 0 0/\l.length<=9223372036854775807/\ae (.exit 0,⟨55,[(0,sD l),(4,iD (bP (cn l):Nat)),(5,iD ((cn l).length:Nat))],[]⟩)
def C3:bh:=λps R ae=> ∃n,ps=[iD n]/\R=[]/\(0<=n/\n<=9223372036854775807)/\ae (sD (Lib.itoa n),[])
def C4:bh:=λps R ae=> ∃s,ps=[sD s]/\R=[]/\s.length<=9223372036854775807/\(dt s=none->ae (.bI [iD (-1),sD []],[]))/\ ∀n r,dt s=some (n,r)->ae (.bI [iD (n:Nat),sD r],[])
def C5:bh:=λps R ae=> ∃s,ps=[sD s]/\R=[]/\s.length<=9223372036854775807/\(eA s=none->ae (.bI [.d (Ho 0 0 0),.d (.bool false)],[]))/\(∀t r i,eA s=some (t,r,i)->ae (.bI [.d (Ho t r i),.d (.bool true)],[]))
def Z1b(n:Int):List UInt8:=[UInt8.ofNat (Int.toNat (D.aj (D.int .u8 (IntKind.wrap IntKind.u8 ((48:Int)+Int.tmod n (10:Int))))))]
theorem qcH(n:Int)(s:List UInt8)(ae:PX×S->Prop):(bif decide (n>(9:Int)) then ob (decide (Z5<=(48:Int)+Int.tmod n (10:Int)/\(48:Int)+Int.tmod n (10:Int)<=Z6)) (ob (decide (List.length (Z1b n)+ZX s<=Zr)) (ob (decide (Z5<=Int.tdiv n (10:Int)/\Int.tdiv n (10:Int)<=Z6)) (ae (PX.normal,S.mk 37 [(0,P.d (D.int .i64 (Int.tdiv n (10:Int)))),(3,P.d (D.str (Z1b n++s)))] [])))) else ae (PX.exit 0,S.mk 37 [(0,P.d (Zm n)),(3,ZV s)] []))=(aC [] [] 129 4 (qcE n s)) ae:=by kernel_rfl
def yj(i:Int):Nat×P:=(5,P.d (Zm i))
def ml(n:Int):Nat×P:=(4,P.d (Zm n))
def r5(s:List UInt8):Nat×P:=(0,ZV s)
def Z1i(ae:PX×S->Prop)(s:List UInt8)(n:Int)(i:Int):Prop:=ae (PX.exit 0,S.mk 55 [r5 s,ml n,yj i] [])
def qe(s:List UInt8)(i:Int):Int:=(↑(UInt8.toNat (List.getD s (Zb i) (0:UInt8))):Int)
def lq(s:List UInt8):Int:=(↑(ZX s):Int)
def Hq(i:Int)(s:List UInt8):Bool:=decide ((0:Int)<=i/\i<lq s)
theorem qcI(s:List UInt8)(n i:Int)(ae:PX×S->Prop):(bif decide (i<lq s) then bif decide (i<(16:Int)) then ob (Hq i s) (bif decide (qe s i>=(48:Int)) then ob (Hq i s) (bif decide (qe s i<=(57:Int)) then ob (decide (Z5<=n*(10:Int)/\n*(10:Int)<=Z6)) (ob (Hq i s) (ob (decide (Z5<=qe s i/\qe s i<=Z6)) (ob (decide (Z5<=n*(10:Int)+qe s i/\n*(10:Int)+qe s i<=Z6)) (ob (decide (Z5<=n*(10:Int)+qe s i-(48:Int)/\n*(10:Int)+qe s i-(48:Int)<=Z6)) (ob (Zd i) (ae (PX.normal,S.mk 55 (r5 s::(4,P.d (D.int .i64 (n*(10:Int)+qe s i-(48:Int))))::Zi i) []))))))) else Z1i ae s n i) else Z1i ae s n i) else Z1i ae s n i else Z1i ae s n i)=(aC [] [] 67 3 (QX s n i)) ae:=by kernel_rfl
def Z1n(n':Int):List UInt8:=[UInt8.ofNat (Int.toNat (D.aj (D.int .u8 (IntKind.wrap IntKind.u8 ((48:Int)+n')))))]
def Z1m(ft:Int):Prop:=(0:Int)<=ft/\ft<=Z6
def Z1k:Nat×P:=(3,P.d ZO)
def Z1l(ft:Int):S:=S.mk 37 [(0,P.d (Zm ft)),Z1k] []
def VC(n:Int):Bool:=decide (n<(0:Int))
theorem qfQ(n:Int)(ae:P×List (Nat×En)->Prop):(bif VC n then ob (decide (Z5<=(0:Int)-n/\(0:Int)-n<=Z6)) False else∃(ft:Int),Z1l n=Z1l ft/\Z1m ft/\ ∀(n':Int) (s':List UInt8),(0:Int)<=n'/\n'<=(9:Int)/\ZX s'<=Zr/\Lib.decDigits (Zb ft)=iL (Zb n')::s'->ob (decide (Z5<=(48:Int)+n'/\(48:Int)+n'<=Z6)) (ob (decide (List.length (Z1n n')+ZX s'<=Zr)) (ae (P.d (D.str (Z1n n'++s')),[]))))=(aK [(129,λ_ _ _=>False)] [(4,ah (aL 129 4) qcF)] 129 [iD n] []) ae:=by kernel_rfl
def Z1p(l:List UInt8):Int:=(↑(List.length (cn l)):Int)
def Z1u(l:List UInt8)(ae:P×List (Nat×En)->Prop):Prop:=ob (decide ((0:Int)<=Z1p l/\Z1p l<=lq l)) (ae (P.bI [P.d (D.int .i64 (↑(bP (cn l)):Int)),P.d (D.str (List.drop (List.length (cn l)) (List.take (ZX l) l)))],[]))
def qV(l:List UInt8):Int:=(↑(UInt8.toNat (List.getD l 0 (0:UInt8))):Int)
def On(l:List UInt8):Bool:=decide ((0:Int)<=(0:Int)/\(0:Int)<lq l)
def QY:P:=P.d (D.int .i64 (-1:Int))
def Z1r(ae:P×List (Nat×En)->Prop):Prop:=ae (P.bI [QY,P.d ZO],[])
def Z1o(l:List UInt8):S:=S.mk 55 (r5 l::(4,P.d Z3)::ZB) []
theorem qfR(s:List UInt8)(ae:P×List (Nat×En)->Prop):(∃(l:List UInt8),Z1o s=Z1o l/\ZX l<=Zr/\bif Z1p l==(0:Int) then Z1r ae else bif decide (Z1p l>(15:Int)) then Z1r ae else ob (On l) (bif qV l==(48:Int) then bif decide (Z1p l>(1:Int)) then Z1r ae else Z1u l ae else Z1u l ae))=(aK [] [(3,ah (aL 67 3) qcG)] 67 [sD s] []) ae:=by kernel_rfl
def Z1w(n:Nat):D:=D.int .i64 (↑n:Int)
def Z1x(n:Nat)(ft:Nat)(z7:Nat):List D:=[Z1w n,Z1w ft,Z1w z7]
def Z1y(n:Nat)(ft:Nat)(z7:Nat):P:=P.d (D.agg [D.int .i64 (D.aj (D.nth (Z1x n ft z7) 0)),D.int .i64 (D.aj (D.nth (Z1x n ft z7) 1)),D.int .i64 (D.aj (D.nth (Z1x n ft z7) 2))])
def Z1z(r:List UInt8):List P:=[P.d (D.str (List.drop 1 (List.take (ZX r) r)))]
def Z1v(r:List UInt8):Bool:=decide ((0:Int)<=(1:Int)/\(1:Int)<=lq r)
theorem QZ(s:List UInt8)(ae:P×List (Nat×En)->Prop):(∃(bF:List UInt8),ZW s=ZW bF/\Zq/\ZX bF<=Zr/\(dt bF=none->Bm ae)/\ ∀(n:Nat) (r:List UInt8),dt bF=some (n,r)->bif r==[] then Bm ae else ob (On r) (bif qV r !=(46:Int) then Bm ae else ob (Z1v r) (∃(s:List UInt8),Z1z r=ZW s/\Zq/\ZX s<=Zr/\(dt s=none->Bm ae)/\ ∀(ft:Nat) (r:List UInt8),dt s=some (ft,r)->bif r==[] then Bm ae else ob (On r) (bif qV r !=(46:Int) then Bm ae else ob (Z1v r) (∃(s:List UInt8),Z1z r=ZW s/\Zq/\ZX s<=Zr/\(dt s=none->Bm ae)/\ ∀(z7:Nat) (r:List UInt8),dt s=some (z7,r)->bif !r==[] then Bm ae else∃(t:Int) (r:Int) (i:Int),[Z1y n ft z7]=ZM t r i/\Zq/\bif ZN t r i then Bm ae else ae (P.bI (Z1y n ft z7::z8),[]))))))=(aK [(67,C4),(68,eI)] [] 41 [sD s] []) ae:=by kernel_rfl
theorem Xj(t r i:Int)(ae:P×List (Nat×En)->Prop):(∃(kZ:Int) (fR:Int) (aX:Int),ZM t r i=ZM kZ fR aX/\Zq/\bif ZN kZ fR aX then ae (P.d ZO,[]) else∃(n:Int),Zo t=Zo n/\Zq/\Z1m n/\ob (ZP n) (∃(ft:Int),Zo r=Zo ft/\Zq/\Z1m ft/\ob (ZR n ft) (ob (ZS n ft) (∃(z7:Int),Zo i=Zo z7/\Zq/\Z1m z7/\ZU n ft z7 ae))))=(aK [(129,C3),(68,eI)] [] 113 [.d (Ho t r i)] []) ae:=by kernel_rfl
variable{X:XF}
theorem yl{k:Int}(h0:0<=k)(h1:k<=9):UInt8.ofNat (Int.toNat (D.aj (D.int .u8 (IntKind.wrap .u8 (48+k)))))=iL k.toNat:=by have:IntKind.wrap .u8 (48+k)=48+k:=IntWalk.u8_in (48+k) ⟨by omega,by omega⟩;simp only[D.aj,this,iL];congr 1;omega
theorem Xk:LD X 129 4 (ah (aL 129 4) qcF):=LD.par (H:=[]) (hk:=[]) (by kernel_rfl) (by kernel_rfl) .nil .nil
 (A:=Int) (B:=Int×List UInt8) (λ_ b=>qcE b.1 b.2)
 (λa b=>0<=b.1/\b.1<=9223372036854775807/\b.1.toNat+b.2.length<=9223372036854775807/\Lib.decDigits a.toNat=Lib.decDigits b.1.toNat++b.2)
 (λ_ b=>b.1.toNat)
 (λa x=> ∃n' s',(0<=n'/\n'<=9/\s'.length<=9223372036854775807/\Lib.decDigits a.toNat=iL n'.toNat::s')/\x=(.exit 0,⟨37,[(0,iD n'),(3,sD s')],[]⟩))
 (by
  rintro a ⟨n,s⟩ ⟨h0,h1,hl,he⟩;dsimp only at*
  (rw[<-qcH];delta ZV Zm Zr ZX Z1b Z6 Z5)
  refine a8 (λh=> ?_) λh=> ?_
  ·have ed:Int.tdiv n 10=((n.toNat/10:Nat):Int):=by rw[Int.tdiv_eq_ediv_of_nonneg (by omega)];omega
   have em:Int.tmod n 10=((n.toNat%10:Nat):Int):=by rw[Int.tmod_eq_emod_of_nonneg (by omega)];omega
   rw[ed,em,yl (by omega) (by omega)];refine aP (by omega) (aP (by simp;omega) (aP (by omega) ?_));refine⟨_,?_,(((n.toNat/10:Nat):Int),iL (n.toNat%10)::s),rfl,⟨by omega,by dsimp only;omega,by simp;omega,?_⟩,rfl⟩
   ·dsimp only;omega
   rw[he,nS (by omega: ¬n.toNat<10)];simp only[zbc,zaF,zck]
  rw[eP (u:=n.toNat) (by omega)] at he;exact⟨n,s,⟨h0,by omega,by omega,he⟩,rfl⟩)
 (by rintro s ae ⟨n,rfl,⟨h1,h2⟩,h3⟩;refine⟨n,(n,[]),rfl,⟨h1,h2,by simp;omega,by simp⟩,?_⟩;rintro x ⟨n',s',h,rfl⟩;exact h3 n' s' h)
theorem gC{n:Int}(h0:0<=n)(h1:n<=9223372036854775807):(Lib.itoa n).length<=21:=by
 have h:=C2 20 n.toNat (by
  have:(10:Nat)^21=1000000000000000000000:=by decide
  omega)
 unfold Lib.itoa;rw[zap (by omega)];exact h
theorem Q0:FD X 129 C3:=FD.mk (H:=[(129,λ_ _ _=>False)]) (hk:=[(4,ah (aL 129 4) qcF)]) (by kernel_rfl) (.cons (λ_ _ _ h=>h.elim) .nil) (.cons Xk .nil) (by
 intro ps R ae hh;obtain⟨n,rfl,rfl,⟨h0,h1⟩,hp⟩:=hh
 (rw[<-qfQ];delta Z1n Zb Zr ZX Z6 Z1m ZO Z1k Zm Z1l Z5 VC)
 refine a8 (λh=>by omega) λh=>⟨n,rfl,⟨h0,h1⟩,?_⟩
 rintro n' s' ⟨a0,a1,a2,a3⟩;have hs:Lib.itoa n=iL n'.toNat::s':=by rw[<-a3];unfold Lib.itoa;rw[zap (by omega)]
 rw[yl a0 a1];have hl:(Lib.itoa n).length<=21:=gC h0 h1;rw[hs] at hl hp;simp at hl;exact aP (by omega) (aP (by simp;omega) hp))
theorem C6(s:List UInt8):(cn s).length<=s.length/\(cn s).length<=16:=by have h1:=(zbZ (p:=cO) (l:=s.take 16)).length_le;have:(cn s).length<=(s.take 16).length:=h1;simp at this;omega
theorem FO(s:List UInt8):s.take (cn s).length=cn s:=by have h4:cn s<+:s:=(zbZ _).trans (List.take_prefix _ _);exact(zcz.1 h4).symm
theorem KR{s:List UInt8}{i:Nat}(h:i<(cn s).length):cO (s.getD i 0)=true:=by
 have h1:=zcs (p:=cO) (l:=s.take 16);have h2:(cn s)[i]∈cn s:=zar h;have h3:=zaZ.1 h1 _ h2;have h4:=(C6 s).1;have e:(cn s)[i]=s[i]:=by
  have:=FO s;have h5:(s.take (cn s).length)[i]'(by simp;omega)=(cn s)[i]:=by congr 1
  rw[<-h5,zcv]
 rw[e] at h3;simpa [zab,show i<s.length by omega] using h3
theorem k8{α:Type}(p:α->Bool): ∀(l:List α),(l.takeWhile p).length<l.length-> ∃x,l[(l.takeWhile p).length]?=some x/\p x=false
 | [],h=>by simp at h
 |x::l,h=>by
  cases hx:p x with
  |false=>refine⟨x,?_,hx⟩;simp[List.takeWhile,hx]
  |true=>simp only[List.takeWhile,hx,zam] at h⊢;obtain⟨y,h1,h2⟩:=k8 p l (by omega);exact⟨y,by simpa using h1,h2⟩
theorem M7{s:List UInt8}(h:(cn s).length<s.length)(h':(cn s).length<16):cO (s.getD (cn s).length 0)=false:=by obtain⟨x,h1,h2⟩:=k8 cO (s.take 16) (by have:((s.take 16).takeWhile cO).length=(cn s).length:=rfl;rw[this];simp;omega);have:((s.take 16).takeWhile cO).length=(cn s).length:=rfl;rw[this] at h1;rw[zbr,zaq h'] at h1;simp[zab,h1,h2]
theorem FP{s:List UInt8}{i:Nat}(h:i<s.length):bP (s.take (i+1))=iv (bP (s.take i)) (s.getD i 0):=by rw[zbo,zac h];simp only[zcW];rw[k7];simp[zab,h]
theorem M8{l:List UInt8}:(∀b∈l,cO b=true)->bP l<10^l.length:=by refine IW (C:=λl=>(∀b∈l,cO b=true)->bP l<10^l.length) (λ_=>by simp[bP]) (λl b ih hd=> ?_) l;have h1:=ih λb hb=>hd b (zbe _ hb);have h2:=hd b (by simp);unfold cO at h2;simp only[zal] at h2;rw[k7,iv,zaj,zaU,zcI];omega
theorem Xl:LD X 67 3 (ah (aL 67 3) qcG):=LD.par (H:=[]) (hk:=[]) (by kernel_rfl) (by kernel_rfl) .nil .nil
 (A:=List UInt8) (B:=Int×Int) (λa b=>QX a b.1 b.2)
 (λa b=>a.length<=9223372036854775807/\0<=b.2/\b.2<=(cn a).length/\b.1=(bP (a.take b.2.toNat):Nat))
 (λa b=>((cn a).length-b.2).toNat)
 (λa x=>x=(.exit 0,⟨55,[(0,sD a),(4,iD (bP (cn a):Nat)),(5,iD ((cn a).length:Nat))],[]⟩))
 (by
  rintro l ⟨n,i⟩ ⟨hl,h0,h1,hn⟩;dsimp only at*
  (rw[<-qcI];delta Zm yj ml ZV r5 Z1i Zh Zi Z6 Z5 Zd Zb qe ZX lq Hq)
  have hle:=C6 l;have aW: ∀(hc: ¬(i<(cn l).length)),QX l n i=⟨55,[(0,sD l),(4,iD (bP (cn l):Nat)),(5,iD ((cn l).length:Nat))],[]⟩:=λhc=>by
   have e:i.toNat=(cn l).length:=by omega
   rw[e,FO] at hn;rw[hn,show i=((cn l).length:Int) by omega]
  have Q5:(hc:i<(cn l).length)->cO (l.getD i.toNat 0)=true:=λhc=>KR (by omega);have uf:i<l.length->i<16->cO (l.getD i.toNat 0)=true->i<(cn l).length:=λa1 a2 a3=>by
   refine zaK λhc=> ?_;have e:i.toNat=(cn l).length:=by omega
   have:=M7 (s:=l) (by omega) (by omega);rw[<-e,a3] at this;cases this
  have hdg: ∀b:UInt8,cO b=true↔(48<=(b.toNat:Int)/\(b.toNat:Int)<=57):=λb=>by unfold cO;simp;omega
  rw[hdg] at uf Q5;generalize hb:(((l.getD i.toNat 0).toNat:Nat):Int)=b at*
  have KS: ¬(i<(cn l).length)->(λx:PX×S=>x=(.exit 0,⟨55,[(0,sD l),(4,iD (bP (cn l):Nat)),(5,iD ((cn l).length:Nat))],[]⟩)) (.exit 0,QX l n i):=λhc=>by show(_,_)=_;rw[aW hc]
  refine a8 (λc1=>a8 (λc2=>aP ⟨h0,c1⟩ (a8 (λc3=>aP ⟨h0,c1⟩ (a8 (λc4=> ?_) λc4=>KS λhc=>by have:=Q5 hc;omega)) λc3=>KS λhc=>by have:=Q5 hc;omega)) λc2=>KS λhc=>by omega) λc1=>KS λhc=>by omega
  have bz:=uf c1 c2 ⟨c3,c4⟩;have hi:i.toNat<l.length:=by omega
  have hv:=FP hi;have EB:bP (l.take i.toNat)<10^(l.take i.toNat).length:=M8 λb hb=>by obtain⟨j,hj,rfl⟩:=zaN hb;simp at hj;have:=KR (s:=l) (i:=j) (by omega);simpa [zab,show j<l.length by omega] using this
  have qh5:bP (l.take i.toNat)<10^16:=zaW EB (zcO (by omega) (by simp;omega));have hx:bP (l.take i.toNat)<10000000000000000:=by simpa using qh5
  refine aP (by omega) (aP ⟨h0,c1⟩ (aP (by omega) (aP (by omega) (aP (by omega) (aP (by omega) ?_)))));refine⟨_,?_,(n*10+b-48,i+1),rfl,⟨hl,by dsimp only;omega,by dsimp only;omega,?_⟩,rfl⟩
  ·dsimp only;omega
  dsimp only;rw[show(i+1).toNat=i.toNat+1 by omega,hv,iv];omega)
 (by rintro s ae ⟨l,rfl,h1,h2⟩;refine⟨l,(0,0),rfl,⟨h1,by simp,by simp,by simp[bP]⟩,?_⟩;rintro x rfl;exact h2)
theorem Q6:FD X 67 C4:=FD.mk (H:=[]) (hk:=[(3,ah (aL 67 3) qcG)]) (by kernel_rfl) .nil (.cons Xl .nil) (by
 intro ps R ae hh;obtain⟨s,rfl,rfl,hl,bk,bC⟩:=hh
 (rw[<-qfR];delta ZX lq Z1p Z1u qV On ZO QY Z1r Zr Z3 ZB ZV r5 Z1o)
 have hle:=C6 s;have hz:cn s=[]↔(cn s).length=0:=by rw[zdl]
 have QB:0<s.length->((s.head?=some 48)↔(((s.getD 0 0).toNat:Nat):Int)=48):=λh=>by
  cases s with
  |nil=>simp at h
  |cons x r=>
   simp only[List.head?_cons,zak,zbR];constructor
   ·rintro rfl;rfl
   intro e;apply zbY.1;simp;omega
 unfold dt at bk bC;refine⟨s,rfl,hl,mI (λh=> ?_) λh=>a8 (λh'=> ?_) λh'=>aP (by omega) (mI (λh2=>a8 (λh3=> ?_) λh3=> ?_) λh2=> ?_)⟩
 ·exact bk (by rw[zaq (.inl (hz.2 (by omega)))])
 ·exact bk (by rw[zaq (.inr (.inl (by omega)))])
 ·exact bk (by rw[zaq (.inr (.inr ⟨(QB (by omega)).2 h2,by omega⟩))])
 ·refine aP (by omega) ?_;rw[zag];exact bC _ _ (by rw[zap (by rw[hz,QB (by omega)];omega)])
 refine aP (by omega) ?_;rw[zag];exact bC _ _ (by rw[zap (by rw[hz,QB (by omega)];omega)]))
theorem Xm:FD X 113 Bl:=FD.mk (H:=[(129,C3),(68,eI)]) (hk:=[]) (by kernel_rfl) (.cons Q0 (.cons nP .nil)) .nil (by
 intro ps R ae hh;obtain⟨t,r,i,rfl,rfl,hp⟩:=hh
 (rw[<-Xj];delta Zr ZQ ZT ZU ZS ZR ZP Z6 Z1m Zm Zo ZO ZN Zq Zx ZM)
 refine⟨_,_,_,rfl,rfl,az (λh=> ?_) λh=> ?_⟩
 ·have h:aY t r i=false:=by simpa using h
  rw[ez,zap (by simp[h])] at hp;exact hp
 have h:aY t r i=true:=by simpa using h
 rw[ez,zaq h] at hp;simp only[aY,zal] at h;have l1:=mJ (n:=t) (by omega) (by omega);have l2:=mJ (n:=r) (by omega) (by omega);have l3:=mJ (n:=i) (by omega) (by omega);exact⟨_,rfl,rfl,⟨by omega,by omega⟩,ao (by simp;omega) ⟨_,rfl,rfl,⟨by omega,by omega⟩,ao (by simp;omega) (ao (by simp;omega) ⟨_,rfl,rfl,⟨by omega,by omega⟩,ao (by simp;omega) hp⟩)⟩⟩)
def M9(a b c:Nat)(r:List UInt8):Option (Int×Int×Int):=if r=[]/\aY a b c=true then some ((a:Int),(b:Int),(c:Int)) else none
def FQ(a b:Nat)(r:List UInt8):Option (Int×Int×Int):=match sV r with |none=>none |some (c,r')=>M9 a b c r'
def FR(a:Nat)(r:List UInt8):Option (Int×Int×Int):=match sV r with |none=>none |some (b,r')=>FQ a b r'
def mK(s:List UInt8):Option (Int×Int×Int):=match dt s with |none=>none |some (a,r)=>FR a r
theorem vN(s:List UInt8):mK s=match IX s with |some (a,b,c,r)=>M9 a b c r |none=>none:=by
 unfold mK IX;cases dt s with
 |none=>rfl
 |some x=>
  obtain⟨a,r⟩:=x;simp only;unfold FR;cases sV r with
  |none=>rfl
  |some x=>
   obtain⟨b,r'⟩:=x;simp only;unfold FQ;cases sV r' with
   |none=>rfl
   |some x=>rfl
theorem yn{a b c:Nat}(h:aY a b c=true):a<10^15/\b<10^15/\c<10^15:=by
 simp only[aY,zal] at h;have:(10:Nat)^15=1000000000000000:=by decide
 omega
theorem mL(a b c:Nat):eU a b c=Lib.decDigits a++46::(Lib.decDigits b++46::Lib.decDigits c):=by simp[eU,QW]
theorem lM{a b c:Nat}(h:aY a b c=true):eA (eU a b c)=some ((a:Int),(b:Int),(c:Int)):=by
 obtain⟨h1,h2,h3⟩:=yn h;have p15:(10:Nat)^15=1000000000000000:=by decide
 unfold eA;rw[pN,mL,IY];simp only[yi (u:=a) (by omega),yi (u:=b) (by omega),yi (u:=c) (by omega)];rw[zaq ⟨h,by rw[mL]⟩]
theorem vO{s:List UInt8}{t r i:Int}(h:eA s=some (t,r,i)):aY t r i=true/\eU t r i=s:=by
 unfold eA at h;split at h
 ·split at h
  next hc=>simp only[zak,zaL] at h;obtain⟨rfl,rfl,rfl⟩:=h;exact hc
  cases h
 cases h
theorem Q7{t r i:Int}(h:aY t r i=true): ∃a b c:Nat,t=a/\r=b/\i=c:=by simp only[aY,zal] at h;exact⟨t.toNat,r.toNat,i.toNat,by omega,by omega,by omega⟩
theorem yo(s:List UInt8):eA s=mK s:=by
 cases h:eA s with
 |some x=>obtain⟨t,r,i⟩:=x;obtain⟨h1,h2⟩:=vO h;obtain⟨a,b,c,rfl,rfl,rfl⟩:=Q7 h1;obtain⟨l1,l2,l3⟩:=yn h1;rw[<-h2,mL,vN,Xi l1 l2 l3];simp only[M9,h1,and_self,zbg]
 |none=>
  rw[vN];cases hr:IX s with
  |none=>rfl
  |some x=>obtain⟨a,b,c,r⟩:=x;simp only[M9];rw[zap];rintro⟨rfl,hid⟩;obtain⟨e,_⟩:=M6 hr;rw[zbl,<-mL] at e;rw[e,lM hid] at h;cases h
theorem Q8:FD X 41 C5:=FD.mk (H:=[(67,C4),(68,eI)]) (hk:=[]) (by kernel_rfl) (.cons Q6 (.cons nP .nil)) .nil (by
 intro ps R ae hh;obtain⟨s,rfl,rfl,hl,bk,bC⟩:=hh
 (rw[<-QZ];delta ZC z8 ZN Zm Zx ZM Z1w Z1x Z1y ZX Z1z lq Z1v qV On Z0 IP Z3 VA Bm Zr Zq ZV ZW)
 rw[yo] at bk;simp only[yo] at bC;have dot: ∀(r:List UInt8),(∀q,r≠46::q)->sV r=none:=λr h=>by
  unfold sV;split
  next q=>exact absurd rfl (h q)
  rfl
 refine⟨s,rfl,rfl,hl,λh1=>bk (by rw[mK,h1]),λn1 r1 h1=> ?_⟩;have l1:r1.length<=s.length:=by rw[(hQ h1).1];simp
 have e1:mK s=FR n1 r1:=by rw[mK,h1]
 rw[e1] at bk bC;refine az (λc=>bk (by rw[FR,dot r1 (λq e=>by rw[e] at c;simp at c)])) λc=> ?_;obtain⟨b1,q1,rfl⟩: ∃b q,r1=b::q:=by cases r1 with |nil=>simp at c |cons b q=>exact⟨b,q,rfl⟩
 simp only[zbR,zag,zb6,zbn];refine aP (by simp) (lK (λc'=>bk (by rw[FR,dot _ (λq e=>by simp at e;obtain⟨e,_⟩:=e;rw[e] at c';exact c' rfl)])) λc'=>aP (by simp;omega) ?_);have eb:b1=46:=zbY.1 (by simp;omega);subst eb;refine⟨q1,rfl,rfl,by simp at l1;omega,λh2=>bk (by rw[FR,sV,h2]),λn2 r2 h2=> ?_⟩;have e2:FR n1 (46::q1)=FQ n1 n2 r2:=by rw[FR,sV,h2]
 rw[e2] at bk bC;have l2:r2.length<=q1.length:=by rw[(hQ h2).1];simp
 refine az (λc=>bk (by rw[FQ,dot r2 (λq e=>by rw[e] at c;simp at c)])) λc=> ?_;obtain⟨b2,q2,rfl⟩: ∃b q,r2=b::q:=by cases r2 with |nil=>simp at c |cons b q=>exact⟨b,q,rfl⟩
 simp only[zbR,zb6,zbn];refine aP (by simp) (lK (λc'=>bk (by rw[FQ,dot _ (λq e=>by simp at e;obtain⟨e,_⟩:=e;rw[e] at c';exact c' rfl)])) λc'=>aP (by simp;omega) ?_);have eb:b2=46:=zbY.1 (by simp;omega);subst eb;refine⟨q2,rfl,rfl,by simp at l1 l2;omega,λh3=>bk (by rw[FQ,sV,h3]),λn3 r3 h3=> ?_⟩;have e3:FQ n1 n2 (46::q2)=M9 n1 n2 n3 r3:=by rw[FQ,sV,h3]
 rw[e3] at bk bC;unfold M9 at bk bC;refine az (λc=>bk ?_) λc=> ?_
 ·rw[zap (λh=>by rw[h.1] at c;simp at c)]
 have e3:r3=[]:=by simpa using c
 subst e3;refine⟨(n1:Int),(n2:Int),(n3:Int),rfl,rfl,az (λh=>bk ?_) λh=>bC _ _ _ ?_⟩
 ·rw[zap (by simpa using h)]
 rw[zaq (by simpa using h)];rfl)
def IZ:List UInt8:=[48,49,50,51,52,53,54,55,56,57,65,66,67,68,69,70,71,72,73,74,75,76,77,78,79,80,81,82,83,84,85,86,87,88,89,90,97,98,99,100,101,102,103,104,105,106,107,108,109,110,111,112,113,114,115,116,117,118,119,120,121,122,46,45,95]
def hU(b:UInt8):Bool:=decide ((48<=b.toNat/\b.toNat<=57)\/(65<=b.toNat/\b.toNat<=90)\/(97<=b.toNat/\b.toNat<=122)\/b.toNat=46\/b.toNat=45\/b.toNat=95)
theorem Na: ∀n:Fin 256,IZ.contains (UInt8.ofNat n.val)=hU (UInt8.ofNat n.val):=by decide+kernel
theorem I0(b:UInt8):IZ.contains b=hU b:=by have:=Na ⟨b.toNat,b.toNat_lt⟩;simpa using this
def bR(s:List UInt8):Bool:=decide (s≠[]/\s.length<=32/\s≠[46]/\s≠[46,46]/\ ∀b∈s,hU b=true)
theorem dropWhile_nil{α:Type}(p:α->Bool): ∀l:List α,l.dropWhile p=[]↔ ∀b∈l,p b=true
 | []=>by simp
 |x::l=>by
  cases h:p x with
  |true=>simp[List.dropWhile,h,dropWhile_nil p l]
  |false=>simp[List.dropWhile,h]
theorem Q9(s cs:List UInt8):Lib.trimS s cs=[]↔ ∀b∈s,cs.contains b=true:=by
 unfold Lib.trimS Lib.trimLeftS Lib.trimRightS;rw[dropWhile_nil];constructor
 ·intro h b hb;have hr:b∈s.reverse:=by simpa using hb
  rw[<-List.takeWhile_append_dropWhile (p:=(cs.contains ·)) (l:=s.reverse)] at hr;rcases zaB.1 hr with h1 |h1
  ·exact zaZ.1 (zcs (p:=(cs.contains ·)) (l:=s.reverse)) b h1
  exact h b (by simpa using h1)
 intro h b hb;have hb:b∈s.reverse.dropWhile (cs.contains ·):=by simpa using hb
 exact h b (by simpa using(List.dropWhile_sublist _).subset hb)
def pre(c:UInt8)(s:List UInt8):List UInt8:=s.takeWhile (· !=c)
theorem C7(c:UInt8)(s:List UInt8):(pre c s).length<=s.length:=(zbZ _).length_le
theorem mM(c:UInt8)(s:List UInt8):s.take (pre c s).length=pre c s:=(zcz.1 (zbZ _)).symm
theorem Ra(c:UInt8)(s:List UInt8):c∉pre c s:=λh=>by have:=zaZ.1 (zcs (p:=(· !=c)) (l:=s)) c h;simp at this
theorem qcJ{c:UInt8}{s:List UInt8}{i:Nat}(h:i<(pre c s).length):s.getD i 0≠c:=by
 intro e;have h4:=C7 c s;have h5:(s.take (pre c s).length)[i]'(by simp;omega)=(pre c s)[i]:=by congr 1;exact mM c s
 rw[zcv] at h5;have h6:s.getD i 0=s[i]:=by simp[zab,show i<s.length by omega]
 rw[h6,h5] at e;have h7:(pre c s)[i]∈pre c s:=zar h;rw[e] at h7;exact Ra c s h7
theorem yp{c:UInt8}{s:List UInt8}(h:(pre c s).length<s.length):s.getD (pre c s).length 0=c:=by obtain⟨x,h1,h2⟩:=k8 (· !=c) s h;have h1:s[(pre c s).length]?=some x:=h1;simp only[zab,h1,zby];simpa using h2
theorem yq{c:UInt8}{s:List UInt8}:(pre c s).length=s.length↔c∉s:=by
 constructor
 ·intro h hc;have:=mM c s;rw[h,zag] at this;exact Ra c s (this▸hc)
 intro h;have:=C7 c s;refine zaK λhc=>h ?_;have h1:=yp (c:=c) (s:=s) (by omega);rw[zab,zac (by omega)] at h1;exact h1▸zar (by omega)
theorem index_one(c:UInt8): ∀s:List UInt8,Lib.index s [c]=if c∈s then((pre c s).length:Int) else-1
 | []=>by simp[Lib.index]
 |b::l=>by
  by_cases h:b=c
  ·subst h;simp[Lib.index,List.isPrefixOf,pre,List.takeWhile]
  have hp:([c]:List UInt8).isPrefixOf (b::l)=false:=by simp[List.isPrefixOf,zbs h]
  rw[Lib.index,hp,index_one c l];have hb:(b !=c)=true:=by simpa using h
  have hm:(c∈b::l)↔c∈l:=by simp[zbs h]
  simp only[pre,List.takeWhile,hb,hm];by_cases hc:c∈l
  ·simp only[hc,zbg];have:(((List.takeWhile (λx=>x !=c) l).length:Int)== -1)=false:=by rw[zbQ];omega
   simp[this]
  simp[hc]
theorem Xn{c:UInt8}{s:List UInt8}(h:c∈s):Lib.cut s [c]=(pre c s,s.drop ((pre c s).length+1),true):=by unfold Lib.cut;rw[index_one,zaq h,zaq (by omega)];simp[mM]
theorem qcK{c:UInt8}{s:List UInt8}(h:c∉s):Lib.cut s [c]=(s,[],false):=by unfold Lib.cut;rw[index_one,zap h,zap (by omega)]
theorem sW{c:UInt8}{s:List UInt8}(h:c∉s):pre c s=s:=by have:=mM c s;rw[yq.2 h,zag] at this;exact this.symm
theorem KT{c:UInt8}(t:List UInt8): ∀{s:List UInt8},c∉s->pre c (s++c::t)=s
 | [],_=>by simp[pre]
 |b::l,h=>by
  simp at h;have hb:(b !=c)=true:=by simpa using zbs h.1
  have ih:=KT t h.2;unfold pre at ih⊢;simp[hb,ih]
def bQ(s:List UInt8):Bool:=bR (pre 126 s)&&(decide (126∉s)|| (eA (s.drop ((pre 126 s).length+1))).isSome)
def yr(l:List (List UInt8)):List UInt8:=47::Lib.join l [47]
theorem yu(x y:List UInt8)(l:List (List UInt8)):Lib.join (x::y::l) [47]=x++47::Lib.join (y::l) [47]:=by simp[Lib.join,List.intercalate]
theorem join_one(x:List UInt8):Lib.join [x] [47]=x:=by simp[Lib.join,List.intercalate]
theorem yw: ∀l:List (List UInt8),l≠[]->(∀x∈l,(47:UInt8)∉x)->splitBy 47 (Lib.join l [47])=l
 | [],h,_=>absurd rfl h
 | [x],_,h=>by rw[join_one,nR _ _ (h x (by simp))]
 |x::y::l,_,h=>by rw[yu,jq _ _ _ (h x (by simp)),yw (y::l) (by simp) λz hz=>h z (by simp[hz])]
def dO(p:List UInt8):Int×List (List UInt8):=match p with
 |47::rest=>if rest=[] then(0,[]) else if(splitBy 47 rest).all bQ=true then(if 20<(splitBy 47 rest).length then(2,[]) else(0,splitBy 47 rest)) else(70,[])
 |_=>(71,[])
theorem wO{s:List UInt8}{c:UInt8}(h:bR s=true)(hc:hU c=false):c∉s:=λhm=>by simp only[bR,zal] at h;rw[h.2.2.2.2 c hm] at hc;cases hc
theorem Xo{t r i:Int}(h:aY t r i=true){c:UInt8}(hc:cO c=false)(hd:c≠46):c∉eU t r i:=by
 obtain⟨a,b,d,rfl,rfl,rfl⟩:=Q7 h;rw[mL];have no: ∀u,c∉Lib.decDigits u:=λu hm=>by rw[sU u c hm] at hc;cases hc
 simp[no,hd]
theorem wP{s:List UInt8}(h:bQ s=true):(47:UInt8)∉s:=by
 simp only[bQ,zad,za1,zal] at h;obtain⟨h1,h2⟩:=h;have hn:(47:UInt8)∉pre 126 s:=wO h1 rfl;rcases h2 with h2 |h2
 ·rwa [sW h2] at hn
 by_cases hm:(126:UInt8)∈s
 ·obtain⟨x,hx⟩:=Option.isSome_iff_exists.1 h2;obtain⟨t,r,i⟩:=x;obtain⟨h3,h4⟩:=vO hx;have hd:(47:UInt8)∉s.drop ((pre 126 s).length+1):=by rw[<-h4];exact Xo h3 rfl (by decide)
  intro b9;have bz:(pre 126 s).length<s.length:=by have:=C7 126 s;refine Nat.lt_of_le_of_ne this λe=>yq.1 e hm
  rw[<-zbv (pre 126 s).length s,mM,za9 bz] at b9;have jy:=yp bz;rw[zab,zac bz,zby] at jy;rcases zaB.1 b9 with hh |hh
  ·exact hn hh
  rw[jy] at hh;rcases zas.1 hh with hh |hh
  ·exact absurd hh (by decide)
  exact hd hh
 rwa [sW hm] at hn
theorem Xp{s:List UInt8}(h:bQ s=true):s≠[]:=λe=>by subst e;exact absurd h (by decide+kernel)
theorem FT{l:List (List UInt8)}(h: ∀x∈l,bQ x=true):dO (yr l)=if 20<l.length then(2,[]) else(0,l):=by
 cases l with
 |nil=>rfl
 |cons x l=>
  have hs:splitBy 47 (Lib.join (x::l) [47])=x::l:=yw _ (by simp) λy hy=>wP (h y hy);have cU:Lib.join (x::l) [47]≠[]:=λe=>by rw[e] at hs;simp only[splitBy,zbX] at hs;exact Xp (h x (by simp)) hs.1.symm
  unfold dO yr;simp only;rw[zap cU,hs,zaq (zaZ.2 h)]
def k9(s:List UInt8)(t r i:Int):List UInt8×Int:=if bR s=true then(if aY t r i=true then(s++126::eU t r i,0) else([],1)) else([],70)
theorem uw{s:List UInt8}{t r i:Int}(h:bR s=true):pre 126 (s++126::eU t r i)=s:=KT _ (wO h rfl)
theorem I1{s:List UInt8}{t r i:Int}(h:bR s=true)(h':aY t r i=true):bQ (s++126::eU t r i)=true:=by
 have hd:(s++126::eU t r i).drop (s.length+1)=eU t r i:=by simp
 simp only[bQ,uw h,h,hd,zbf];obtain⟨a,b,c,rfl,rfl,rfl⟩:=Q7 h';rw[lM h'];simp
theorem yx{s:List UInt8}{t r i:Int}:bR (s++126::eU t r i)=false:=by
 cases h:bR (s++126::eU t r i) with
 |false=>rfl
 |true=>exact absurd (by simp) (wO h (c:=126) rfl)
theorem Nb{s s':List UInt8}{t r i t' r' i':Int}(h:bR s=true)(h1:aY t r i=true)(h':bR s'=true)(Me:aY t' r' i'=true)(e:s++126::eU t r i=s'++126::eU t' r' i'):s=s'/\t=t'/\r=r'/\i=i':=by
 have hp:=congrArg (pre 126) e;rw[uw h,uw h'] at hp;subst hp;have ht:eU t r i=eU t' r' i':=by simpa using e
 obtain⟨a,b,c,rfl,rfl,rfl⟩:=Q7 h1;obtain⟨a',b',c',rfl,rfl,rfl⟩:=Q7 Me;have:=lM h1;rw[ht,lM Me] at this;simp only[zak,zaL] at this;exact⟨rfl,this.1.symm,this.2.1.symm,this.2.2.symm⟩
section
variable{X:XF}
theorem Xq{s:List UInt8}(h:s.length<=2000000):C1 s:=by
 have hc:s.count 46<=s.length:=List.count_le_length;refine⟨by omega,?_,?_,λx hx=> ?_⟩
 ·rw[pN,lL,Lib.count_one]
 ·rw[Lib.count_one];omega
 rw[pN] at hx;have:=nQ 46 s x hx;omega
theorem I2(t r i:Int):(ez t r i).length<=2000000:=by
 unfold ez;split
 next h=>simp only[aY,zal] at h;have l1:=gC (n:=t) (by omega) (by omega);have l2:=gC (n:=r) (by omega) (by omega);have l3:=gC (n:=i) (by omega) (by omega);simp[eU];omega
 simp
end
abbrev jU(b:Bool):P:= .d (.bool b)
def Rb:bh:=λps R ae=> ∃s c,ps=[sD s,sD c]/\R=[]/\(s.length<=9223372036854775807/\c.length<4294967281/\c.all (λb=>decide (b.toNat<128))=true)/\ae (sD (Lib.trimS s c),[])
def qcL:bh:=λps R ae=> ∃s c,ps=[sD s,sD c]/\R=[]/\s.length<4294967281/\ae (.bI [sD (Lib.cut s c).1,sD (Lib.cut s c).2.1,.d (.bool (Lib.cut s c).2.2)],[])
def Rc:bh:=λps R ae=> ∃s c,ps=[sD s,sD c]/\R=[]/\ae (.bI [sD (Lib.trimPrefix s c),.d (.bool (Lib.hasPrefix s c))],[])
def mN:bh:=λps R ae=> ∃s,ps=[sD s]/\R=[]/\ae (jU (bR s),[])
def yy:bh:=λps R ae=> ∃s,ps=[sD s]/\R=[]/\s.length<=2000000/\ae (jU (bQ s),[])
def I3:bh:=λps R ae=> ∃s t r i,ps=[sD s,.d (Ho t r i)]/\R=[]/\ae (.bI [sD (k9 s t r i).1,iD (k9 s t r i).2],[])
def lN:bh:=λps R ae=> ∃s,ps=[sD s]/\R=[]/\s.length<=2000000/\ ∀n e l,dO s=(e,l)->n=l.length->ae (.bI [.sl 0 0 n,iD e],[(0,⟨0,none,.arr 9 false (l.map D.str)⟩)])
abbrev nmH(s:List UInt8)(k:Int):S:=⟨64,[(0,sD s),(3,iD k)],[]⟩
abbrev seH(s:List UInt8)(k:Int):S:=⟨33,[(0,sD s),(3,iD k)],[]⟩
abbrev spH(l:List (List UInt8))(m m':Nat)(n k:Int):S:=⟨36,[(6,.sl 0 0 m),(22,.sl 0 0 m'),(23,iD n),(24,iD k)],[(0,⟨0,none,.arr 9 false (l.map D.str)⟩)]⟩
abbrev srH(s:List UInt8)(o:List (List UInt8))(m:Nat)(f i:Int):S:=⟨51,[(0,sD s),(4,.sl 0 0 m),(5,iD f),(6,iD i)],[(0,⟨0,none,.arr 9 false (o.map D.str)⟩)]⟩
theorem qcM(s:List UInt8)(ae:P×List (Nat×En)->Prop):(bif !s==[] then bif decide (lq s<=(32:Int)) then bif !s==ZQ then bif !s==(46:UInt8)::ZQ then∃(bF:List UInt8) (c:List UInt8),[ZV s,P.d (D.str (have y:List UInt8:=have y:List UInt8:=have y:List UInt8:=have y:List UInt8:=[(121:UInt8),(122:UInt8),(46:UInt8),(45:UInt8),(95:UInt8)];(117:UInt8)::(118:UInt8)::(119:UInt8)::(120:UInt8)::y;have y:List UInt8:=(113:UInt8)::(114:UInt8)::(115:UInt8)::(116:UInt8)::y;(109:UInt8)::(110:UInt8)::(111:UInt8)::(112:UInt8)::y;have y:List UInt8:=have y:List UInt8:=(105:UInt8)::(106:UInt8)::(107:UInt8)::(108:UInt8)::y;(101:UInt8)::(102:UInt8)::(103:UInt8)::(104:UInt8)::y;have y:List UInt8:=(97:UInt8)::(98:UInt8)::(99:UInt8)::(100:UInt8)::y;(87:UInt8)::(88:UInt8)::(89:UInt8)::(90:UInt8)::y;have y:List UInt8:=have y:List UInt8:=have y:List UInt8:=(83:UInt8)::(84:UInt8)::(85:UInt8)::(86:UInt8)::y;(79:UInt8)::(80:UInt8)::(81:UInt8)::(82:UInt8)::y;have y:List UInt8:=(75:UInt8)::(76:UInt8)::(77:UInt8)::(78:UInt8)::y;(71:UInt8)::(72:UInt8)::(73:UInt8)::(74:UInt8)::y;have y:List UInt8:=have y:List UInt8:=(67:UInt8)::(68:UInt8)::(69:UInt8)::(70:UInt8)::y;(56:UInt8)::(57:UInt8)::(65:UInt8)::(66:UInt8)::y;have y:List UInt8:=(52:UInt8)::(53:UInt8)::(54:UInt8)::(55:UInt8)::y;(48:UInt8)::(49:UInt8)::(50:UInt8)::(51:UInt8)::y))]=ZV bF::ZW c/\Zq/\(ZX bF<=Zr/\ZX c<4294967281/\(List.all c λ(b:UInt8)=>decide (UInt8.toNat b<128))=true)/\ae (P.d (D.bool (Lib.trimS bF c==[])),[]) else Z1 ae else Z1 ae else Z1 ae else Z1 ae)=(aK [(111,Rb)] [] 91 [sD s] []) ae:=by kernel_rfl
def Z1A(k:Int)(ae:PX×S->Prop)(s:List UInt8):Prop:=ob (Zd k) (ae (PX.normal,S.mk 64 [r5 s,(3,P.d (Zh k))] []))
def Z1B(s:List UInt8)(k:Int)(ae:PX×S->Prop):Prop:=bif qe s k==(46:Int) then Z1A k ae s else bif qe s k==(45:Int) then Z1A k ae s else bif !qe s k==(95:Int) then ae (PX.ret,S.mk 64 ZA []) else Z1A k ae s
def Z1C(s:List UInt8)(k:Int)(ae:PX×S->Prop):Prop:=bif decide (qe s k>=(97:Int)) then bif decide (qe s k<=(122:Int)) then Z1A k ae s else Z1B s k ae else Z1B s k ae
def Z1D(s:List UInt8)(k:Int)(ae:PX×S->Prop):Prop:=bif decide (qe s k>=(65:Int)) then bif decide (qe s k<=(90:Int)) then Z1A k ae s else Z1C s k ae else Z1C s k ae
theorem qfS(s:List UInt8)(k:Int)(ae:PX×S->Prop):(bif decide (k<lq s) then ob (Hq k s) (bif decide (qe s k>=(48:Int)) then bif decide (qe s k<=(57:Int)) then Z1A k ae s else Z1D s k ae else Z1D s k ae) else ae (PX.exit 0,S.mk 64 [] []))=(aC [] [] 42 4 (nmH s k)) ae:=by kernel_rfl
def Z1E(k:Int)(s:List UInt8):Bool:=decide ((0:Int)<=k/\k<=lq s)
theorem qfT(s:List UInt8)(k:Int)(ae:PX×S->Prop):(bif decide (k<lq s) then ob (Hq k s) (bif qe s k==(126:Int) then ob (Zd k) (ob (decide ((0:Int)<=k+(1:Int)/\k+(1:Int)<=lq s)) (∃(bF:List UInt8),[P.d (D.str (List.drop (Int.toNat (k+(1:Int))) (List.take (ZX s) s)))]=ZW bF/\Zq/\ZX bF<=Zr/\(eA bF=none->ae (PX.ret,S.mk 33 (r5 s::ZA) []))/\ ∀(t r i:Int),eA bF=some (t,r,i)->ob (Z1E k s) (∃(qT:List UInt8),[P.d (D.str (List.drop 0 (List.take (Zb k) s)))]=ZW qT/\Zq/\ae (PX.ret,S.mk 33 [r5 s,(2,P.d (D.bool (bR qT)))] [])))) else ob (Zd k) (ae (PX.normal,S.mk 33 [r5 s,(3,P.d (Zh k))] []))) else ae (PX.exit 0,S.mk 33 [r5 s] []))=(aC [(41,C5),(42,mN)] [] 15 2 (seH s k)) ae:=by kernel_rfl
def KU(l:List (List UInt8)):List (Nat×En):=[(0,En.mk 0 none (Obj.arr (9:TypeId) false (sT l)))]
def Hr(l:List (List UInt8)):Nat×En:=(1,En.mk 0 none (Obj.arr (9:TypeId) false (sT l)))
def Re:En:=En.mk 0 none (Obj.arr (9:TypeId) false [])
def Z1L(l:List (List UInt8)):List (Nat×En):=[(0,Re),Hr l]
def FU(m:Nat):Nat×P:=(6,P.sl 1 0 m)
def Z1H:Nat×P:=(3,P.d (D.int .i64 (70:Int)))
def kc(s:List UInt8):Prop:=ZX s<=2000000
def mZ(k:Int)(m':Nat):Bool:=decide ((0:Int)<=k/\k<(↑m':Int))
theorem qfU(l:List (List UInt8))(m m':Nat)(n k:Int)(ae:PX×S->Prop):(bif decide (k<n) then ob (mZ k m') (ob (decide (Zb k<KO l)) (ob (cT PR (9:TypeId) (D.nth (sT l) (Zb k))) (∃(s:List UInt8),[P.d (D.str (D.cm (D.nth (sT l) (Zb k))))]=ZW s/\Zq/\kc s/\bif !bQ s then ae (PX.ret,S.mk 36 [(2,ZE),Z1H,FU m] (Z1L l)) else ob (Zd k) (ae (PX.normal,S.mk 36 [(6,Zu m),(22,Zu m'),(23,P.d (Zm n)),(24,P.d (Zh k))] (KU l)))))) else ae (PX.exit 1,S.mk 36 [(6,Zu m)] (KU l)))=(aC [(71,yy)] [] 43 8 (spH l m m' n k)) ae:=by kernel_rfl
def Z1N(i:Int)(s:List UInt8)(f:Int)(ae:PX×S->Prop)(m:Nat)(o:List (List UInt8)):Prop:=ob (Z1E i s) (ob (decide ((0:Int)<=f/\f<=(↑(Zb i):Int))) (∃(bF:List UInt8),[P.d (D.str (List.drop (Zb f) (List.take (Zb i) s)))]=ZW bF/\Zq/\kc bF/\bif !bQ bF then ae (PX.ret,S.mk 51 [(2,ZE),Z1H,(4,P.sl 1 0 m)] (Z1L o)) else ob (Z1E i s) (ob (decide ((0:Int)<=f/\f<=(↑(Zb i):Int))) (ob (Nat.ble m (KO o)&&aJ (m+List.length [D.str (List.drop (Zb f) (List.take (Zb i) s))]) 16) (ob (Zd i) (ob (Zd i) (ae (PX.normal,S.mk 51 (r5 s::(4,P.sl 0 0 (m+List.length [D.str (List.drop (Zb f) (List.take (Zb i) s))]))::(5,P.d (Zh i))::Zt i) [(0,En.mk 0 none (Obj.arr (9:TypeId) false (List.take m (sT o)++[D.str (List.drop (Zb f) (List.take (Zb i) s))])))]))))))))
theorem qfV(s:List UInt8)(o:List (List UInt8))(m:Nat)(f i:Int)(ae:PX×S->Prop):(bif decide (i<=lq s) then bif i==lq s then Z1N i s f ae m o else ob (Hq i s) (bif qe s i==(47:Int) then Z1N i s f ae m o else ob (Zd i) (ae (PX.normal,S.mk 51 (r5 s::(4,Zu m)::yj f::Zt i) (KU o)))) else ae (PX.exit 0,S.mk 51 [(4,Zu m)] (KU o)))=(aC [(15,yy)] [] 7 8 (srH s o m f i)) ae:=by kernel_rfl
def Z1P(bF:List UInt8)(c:List UInt8)(ae:P×List (Nat×En)->Prop):Prop:= ∃(s:List UInt8),[P.d (D.str (Prod.fst (Lib.cut bF c)))]=ZW s/\Zq/\ae (P.d (D.bool (bR s)),[])
theorem qcN(s:List UInt8)(ae:P×List (Nat×En)->Prop):(∃(bF:List UInt8) (c:List UInt8),[ZV s,P.d (D.str [(126:UInt8)])]=ZV bF::ZW c/\Zq/\ZX bF<4294967281/\bif Prod.snd (Prod.snd (Lib.cut bF c)) then∃(s:List UInt8),[P.d (D.str (Prod.fst (Prod.snd (Lib.cut bF c))))]=ZW s/\Zq/\C1 s/\(eA s=none->Z1 ae)/\ ∀(t r i:Int),eA s=some (t,r,i)->Z1P bF c ae else Z1P bF c ae)=(aK [(89,qcL),(90,IQ),(91,mN)] [] 71 [sD s] []) ae:=by kernel_rfl
def Z1R(ae:P×List (Nat×En)->Prop):Prop:=ae (P.bI [P.d ZO,ZF],[])
def Z1Q:List P:=[P.d (D.int .i64 (70:Int))]
theorem Rf(s:List UInt8)(t r i:Int)(ae:P×List (Nat×En)->Prop):(∃(bF:List UInt8),ZW s=ZW bF/\Zq/\bif !bR bF then ae (P.bI (P.d ZO::Z1Q),[]) else∃(kZ:Int) (fR:Int) (aX:Int),ZM t r i=ZM kZ fR aX/\Zq/\bif ez kZ fR aX==[] then Z1R ae else ob (decide (ZX s+1<=Zr)) (ob (decide (List.length (s++[(126:UInt8)])+List.length (ez kZ fR aX)<=Zr)) (ae (P.bI (P.d (D.str (s++[(126:UInt8)]++ez kZ fR aX))::ZK),[]))))=(aK [(42,mN),(113,Bl)] [] 101 [sD s,.d (Ho t r i)] []) ae:=by kernel_rfl
section
variable{X:XF}
theorem qcO:FD X 111 Rb:=FD.qq Tryz.func111 (by kernel_rfl) (by kernel_rfl) (by intro ps R ae hh;obtain⟨s,c,rfl,rfl,hc,hp⟩:=hh;refine⟨_,?_,hp⟩;show KL [.d (.str s),.d (.str c)] []=_;exact zaq hc)
theorem qfW:FD X 89 qcL:=FD.qq Tryz.func89 (by kernel_rfl) (by kernel_rfl) (by intro ps R ae hh;obtain⟨s,c,rfl,rfl,hc,hp⟩:=hh;refine⟨_,?_,hp⟩;show W4 [.d (.str s),.d (.str c)] []=_;exact zaq hc)
theorem qcP:FD X 69 Rc:=FD.qq Tryz.func69 (by kernel_rfl) (by kernel_rfl) (by intro ps R ae hh;obtain⟨s,c,rfl,rfl,hp⟩:=hh;exact⟨_,rfl,hp⟩)
theorem qcQ:FD X 91 mN:=FD.mk (H:=[(111,Rb)]) (hk:=[]) (by kernel_rfl) (.cons qcO .nil) .nil (by
 intro ps R ae hh;obtain⟨s,rfl,rfl,hp⟩:=hh
 (rw[<-qcM];delta Z0 Z1 Zr ZX Zq ZV ZW ZQ lq)
 refine az (λh1=>a8 (λh2=>az (λh3=>az (λh4=>⟨s,IZ,rfl,rfl,⟨by omega,by decide,by decide⟩,?_⟩) λh4=> ?_) λh3=> ?_) λh2=> ?_) λh1=> ?_
 ·refine fq hp ?_;rw[zbh,bR,zbp,Q9];simp only[I0,zal];constructor
  ·intro h;exact h.2.2.2.2
  intro h;exact⟨by simpa using h1,by omega,by simpa using h3,by simpa using h4,h⟩
 ·exact fq hp (me λh=>by simp at h4;exact h.2.2.2.1 h4)
 ·exact fq hp (me λh=>by simp at h3;exact h.2.2.1 h3)
 ·exact fq hp (me λh=>by omega)
 exact fq hp (me λh=>by simp at h1;exact h.1 h1))
theorem Nc(b:UInt8):hU b=true↔((48<=(b.toNat:Int)/\(b.toNat:Int)<=57)\/(65<=(b.toNat:Int)/\(b.toNat:Int)<=90)\/(97<=(b.toNat:Int)/\(b.toNat:Int)<=122)\/(b.toNat:Int)=46\/(b.toNat:Int)=45\/(b.toNat:Int)=95):=by unfold hU;simp only[zal];omega
theorem FV(p:UInt8->Bool)(s:List UInt8):(∀b∈s,p b=true)↔ ∀i:Nat,i<s.length->p (s.getD i 0)=true:=by
 constructor
 ·intro h i hi;have:=h s[i] (zar hi);simpa [zab,hi] using this
 intro h x hx;obtain⟨i,hi,rfl⟩:=zaN hx;have:=h i hi;simpa [zab,hi] using this
def gNm:S->K (PX×S):=λs ae=> ∃l,s=nmH l 0/\l.length<=32/\(¬(∀b∈l,hU b=true)->ae (.ret,⟨64,[(2,jU false)],[]⟩))/\((∀b∈l,hU b=true)->ae (.exit 0,⟨64,[],[]⟩))
theorem qcR:LD X 42 4 (ah (aL 42 4) gNm):=LD.par (H:=[]) (hk:=[]) (by kernel_rfl) (by kernel_rfl) .nil .nil
 (A:=List UInt8) (B:=Int) (λa k=>nmH a k)
 (λa k=>a.length<=32/\0<=k/\k<=a.length/\ ∀i:Nat,(i:Int)<k->hU (a.getD i 0)=true)
 (λa k=>(a.length-k).toNat)
 (λa x=>((¬ ∀b∈a,hU b=true)/\x=(.ret,⟨64,[(2,jU false)],[]⟩))\/((∀b∈a,hU b=true)/\x=(.exit 0,⟨64,[],[]⟩)))
 (by
  rintro l k ⟨hs,h0,h1,he⟩
  (rw[<-qfS];delta Z0 ZA Zh ZV r5 Z6 Z5 Zd Z1A Zb qe Z1B Z1C Z1D ZX lq Hq)
  have hb:=Nc (l.getD k.toNat 0);have bk: ¬hU (l.getD k.toNat 0)=true->k<l.length-> ¬ ∀b∈l,hU b=true:=λh hk hh=>h ((FV _ l).1 hh k.toNat (by omega));have bC:hU (l.getD k.toNat 0)=true->k<l.length->roundPost (l.length-k).toNat (λm s=> ∃b',s=nmH l b'/\(l.length<=32/\0<=b'/\b'<=(l.length:Int)/\ ∀i:Nat,(i:Int)<b'->hU (l.getD i 0)=true)/\m=(l.length-b').toNat) (λx=>((¬ ∀b∈l,hU b=true)/\x=(.ret,⟨64,[(2,jU false)],[]⟩))\/((∀b∈l,hU b=true)/\x=(.exit 0,⟨64,[],[]⟩))) (PX.normal,nmH l (k+1)):=λh hk=>
   ⟨_,by omega,k+1,rfl,⟨hs,by omega,by omega,λi hi=>by
    by_cases e:(i:Int)=k
    ·have:i=k.toNat:=by omega
     rw[this];exact h
    exact he i (by omega)⟩,rfl⟩
  generalize (((l.getD k.toNat 0).toNat:Nat):Int)=b at*
  refine a8 (λh=>aP (by omega) ?_) λh=> .inr ⟨(FV _ l).2 λi hi=>he i (by omega),rfl⟩
  repeat' (first |refine a8 (λ_=> ?_) (λ_=> ?_)|refine mI (λ_=> ?_) (λ_=> ?_)|refine lK (λ_=> ?_) (λ_=> ?_))
  all_goals first
   |exact absurd (gB (k:=k) (by omega) (by omega)) (by simp;omega)
   |exact bC (hb.2 (by omega)) h
   |exact .inl ⟨bk (λhh=>by have:=hb.1 hh;omega) h,rfl⟩)
 (by
  rintro s ae ⟨l,rfl,h1,h2,h3⟩;refine⟨l,0,rfl,⟨h1,by omega,by omega,λi hi=>by omega⟩,?_⟩;rintro x (⟨h,rfl⟩| ⟨h,rfl⟩)
  ·exact h2 h
  exact h3 h)
end
section
variable{X:XF}
theorem qh6(x:List UInt8):cT PR 9 (.str x)=true:=by kernel_rfl
theorem qcS{l:List (List UInt8)}{i:Nat}(h:i<l.length):D.nth (l.map D.str) i= .str (l.getD i []):=by simp[D.nth,h]
def gSe:S->K (PX×S):=λs ae=> ∃l,s=seH l 0/\l.length<=2000000/\(126∈l->ae (.ret,⟨33,[(0,sD l),(2,jU (bQ l))],[]⟩))/\(126∉l->ae (.exit 0,⟨33,[(0,sD l)],[]⟩))
theorem qcT(hN:FD X 42 mN):LD X 15 2 (ah (aL 15 2) gSe):=LD.par (H:=[(41,C5),(42,mN)]) (hk:=[]) (by kernel_rfl) (by kernel_rfl) (.cons Q8 (.cons hN .nil)) .nil
 (A:=List UInt8) (B:=Int) (λa k=>seH a k)
 (λa k=>a.length<=2000000/\0<=k/\k<=(pre 126 a).length)
 (λa k=>((pre 126 a).length-k).toNat)
 (λa x=>(126∈a/\x=(.ret,⟨33,[(0,sD a),(2,jU (bQ a))],[]⟩))\/(126∉a/\x=(.exit 0,⟨33,[(0,sD a)],[]⟩)))
 (by
  rintro l k ⟨hs,h0,h1⟩
  (rw[<-qfT];delta Zh Zb ZX lq Z1E Z0 ZA ZV r5 Zr Zq ZW Z6 Z5 Zd qe Hq)
  have hle:=C7 126 l;have hb: ∀b:UInt8,((b.toNat:Nat):Int)=126↔b=126:=λb=>⟨λe=>zbY.1 (by simp;omega),λe=>by subst e;rfl⟩
  refine a8 (λh=>aP ⟨h0,h⟩ (mI (λh'=> ?_) λh'=> ?_)) λh=> ?_
  ·rw[hb] at h';have hk:k=(pre 126 l).length:=by refine zaK λhc=> ?_;exact qcJ (c:=126) (s:=l) (i:=k.toNat) (by omega) h'
   have hm:126∈l:=by
    have:l.getD k.toNat 0=l[k.toNat]'(by omega):=by simp[zab,show k.toNat<l.length by omega]
    rw[this] at h';rw[<-h'];exact zar _
   have e1:(k+1).toNat=(pre 126 l).length+1:=by omega
   have e2:k.toNat=(pre 126 l).length:=by omega
   refine ao (gB (by omega) (by omega)) (aP (by omega) ⟨_,rfl,rfl,by simp;omega,λbk=> ?_,λt r i bC=>aP (by omega) ⟨_,rfl,rfl,?_⟩⟩)
   ·rw[e1,zag] at bk;refine .inl ⟨hm,?_⟩;have:bQ l=false:=by simp[bQ,hm,bk]
    rw[this]
   rw[e1,zag] at bC;refine .inl ⟨hm,?_⟩;have:bQ l=bR (pre 126 l):=by simp[bQ,bC]
   rw[this,e2,zbn,mM]
  ·rw[ne_eq,hb] at h';have bz:k<(pre 126 l).length:=by
    refine zaK λhc=>h' ?_;have e2:k.toNat=(pre 126 l).length:=by omega
    rw[e2];exact yp (by omega)
   exact ao (gB (by omega) (by omega)) ⟨_,by omega,k+1,rfl,⟨hs,by omega,by omega⟩,rfl⟩
  exact .inr ⟨yq.1 (by omega),rfl⟩)
 (by
  rintro s ae ⟨l,rfl,h1,h2,h3⟩;refine⟨l,0,rfl,⟨h1,by omega,by omega⟩,?_⟩;rintro x (⟨h,rfl⟩| ⟨h,rfl⟩)
  ·exact h2 h
  exact h3 h)
theorem qcU:FD X 71 yy:=FD.mk (H:=[(89,qcL),(90,IQ),(91,mN)]) (hk:=[]) (by kernel_rfl) (.cons qfW (.cons Xh (.cons qcQ .nil))) .nil (by
 intro ps R ae hh;obtain⟨s,rfl,rfl,hs,hp⟩:=hh
 (rw[<-qcN];delta Zq ZV ZW Z1P Z0 Z1 ZX)
 refine⟨s,[126],rfl,rfl,by omega,?_⟩;by_cases hm:(126:UInt8)∈s
 ·rw[Xn hm];refine gh rfl ⟨_,rfl,rfl,Xq (by simp;omega),λbk=> ?_,λt r i bC=>⟨_,rfl,rfl,?_⟩⟩
  ·exact fq hp (by simp[bQ,hm,bk])
  exact fq hp (by simp[bQ,bC])
 rw[qcK hm];exact jo rfl ⟨_,rfl,rfl,fq hp (by simp[bQ,hm,sW hm])⟩)
def dG(l:List (List UInt8)):Prop:= ∀x∈l,bQ x=true
theorem vP(l:List (List UInt8)):dG l↔ ∀i:Nat,i<l.length->bQ (l.getD i [])=true:=by
 constructor
 ·intro h i hi;have:=h l[i] (zar hi);simpa [zab,hi] using this
 intro h x hx;obtain⟨i,hi,rfl⟩:=zaN hx;have:=h i hi;simpa [zab,hi] using this
def gSp:S->K (PX×S):=λs ae=> ∃l m m' n,s=spH l m m' n 0/\(m'=l.length/\n=l.length/\l.length<=2000001/\ ∀x∈l,x.length<=2000000)/\
 (¬dG l->ae (.ret,⟨36,[(2,.sl 0 0 0),(3,iD 70),(6,.sl 1 0 m)],[(0,⟨0,none,.arr 9 false []⟩),(1,⟨0,none,.arr 9 false (l.map D.str)⟩)]⟩))/\
 (dG l->ae (.exit 1,⟨36,[(6,.sl 0 0 m)],[(0,⟨0,none,.arr 9 false (l.map D.str)⟩)]⟩))
theorem qcV:LD X 43 8 (ah (aL 43 8) gSp):=LD.par (H:=[(71,yy)]) (hk:=[]) (by kernel_rfl) (by kernel_rfl) (.cons qcU .nil) .nil
 (A:=List (List UInt8)×Nat×Nat×Int) (B:=Int) (λa k=>spH a.1 a.2.1 a.2.2.1 a.2.2.2 k)
 (λa k=>(a.2.2.1=a.1.length/\a.2.2.2=a.1.length/\a.1.length<=2000001/\ ∀x∈a.1,x.length<=2000000)/\0<=k/\k<=a.1.length/\ ∀i:Nat,(i:Int)<k->bQ (a.1.getD i [])=true)
 (λa k=>(a.1.length-k).toNat)
 (λa x=>(¬dG a.1/\x=(.ret,⟨36,[(2,.sl 0 0 0),(3,iD 70),(6,.sl 1 0 a.2.1)],[(0,⟨0,none,.arr 9 false []⟩),(1,⟨0,none,.arr 9 false (a.1.map D.str)⟩)]⟩))\/(dG a.1/\x=(.exit 1,⟨36,[(6,.sl 0 0 a.2.1)],[(0,⟨0,none,.arr 9 false (a.1.map D.str)⟩)]⟩)))
 (by
  rintro⟨l,m,m',n⟩ k ⟨⟨hm,hn,hl,hx⟩,h0,h1,he⟩;dsimp only at*
  subst hm hn
  (rw[<-qfU];delta sT KU Zh Zm Zu Z6 Z5 Zd Hr Re Z1L FU Z1H ZE ZX kc Zq ZV ZW KO Zb mZ)
  simp only[zaa];refine a8 (λh=> ?_) λh=> .inr ⟨(vP l).2 λi hi=>he i (by omega),rfl⟩;have hk:k.toNat<l.length:=by omega
  rw[qcS hk];have hlen:(l.getD k.toNat []).length<=2000000:=by have:=hx l[k.toNat] (zar hk);simpa [zab,hk] using this
  refine aP ⟨h0,h⟩ (aP hk (ao (qh6 _) ⟨_,rfl,rfl,hlen,az (λh'=> .inl ⟨λhh=> ?_,rfl⟩) λh'=>ao (gB (by omega) (by omega)) ⟨_,by omega,k+1,rfl,⟨⟨by simp,by simp,hl,hx⟩,by omega,by first |omega | (dsimp only;omega),λi hi=> ?_⟩,rfl⟩⟩))
  ·have:=(vP l).1 hh k.toNat hk;rw[show(l.getD k.toNat []:List UInt8)=(D.str (l.getD k.toNat [])).cm from rfl] at this;rw[this] at h';cases h'
  by_cases e:(i:Int)=k
  ·have:i=k.toNat:=by omega
   rw[this];have h'':(!bQ (l.getD k.toNat []))=false:=h';simpa using h''
  exact he i (by omega))
 (by
  rintro s ae ⟨l,m,m',n,rfl,h1,h2,h3⟩;refine⟨(l,m,m',n),0,rfl,⟨h1,by omega,by first |omega | (dsimp only;omega),λi hi=>by omega⟩,?_⟩;rintro x (⟨h,rfl⟩| ⟨h,rfl⟩)
  ·exact h2 h
  exact h3 h)
theorem KV{o:List (List UInt8)}{m:Nat}(h:m=o.length)(x:List UInt8):List.take m (o.map D.str)++[D.str x]=(o++[x]).map D.str:=by subst h;rw[zan (by simp)];simp
theorem qcW{m:Nat}(h:m<=3000000)(x:D):aJ (m+List.length [x]) 16=true:=bL (by simp;omega) (by simp;omega)
def gSr:S->K (PX×S):=λs ae=> ∃l es,s=⟨51,[(0,sD l),(4,.sl 0 0 0),(5,iD 1),(6,iD 1)],[(0,⟨0,none,.arr 9 false es⟩)]⟩/\(es=[]/\1<=l.length/\l.length<=2000000)/\
 (∀(m:Nat) (o:List (List UInt8)),¬dG (splitBy 47 (l.drop 1))->ae (.ret,⟨51,[(2,.sl 0 0 0),(3,iD 70),(4,.sl 1 0 m)],[(0,⟨0,none,.arr 9 false []⟩),(1,⟨0,none,.arr 9 false (o.map D.str)⟩)]⟩))/\
 (∀m,m=(splitBy 47 (l.drop 1)).length->dG (splitBy 47 (l.drop 1))->ae (.exit 0,⟨51,[(4,.sl 0 0 m)],[(0,⟨0,none,.arr 9 false ((splitBy 47 (l.drop 1)).map D.str)⟩)]⟩))
def qfX(l:List UInt8)(o:List (List UInt8))(f i:Int):Prop:=
 dG o/\o.length<=i/\((1<=f/\f<=i/\i<=l.length/\(∀j:Nat,f<=j->(j:Int)<i->l.getD j 0≠47)/\o++splitBy 47 (l.drop f.toNat)=splitBy 47 (l.drop 1))\/(i=l.length+1/\o=splitBy 47 (l.drop 1)))
theorem Rg{l:List UInt8}{f i:Int}(h0:0<=f)(h1:f<=i)(hi:i<=l.length)(h: ∀j:Nat,f<=j->(j:Int)<i->l.getD j 0≠47):(47:UInt8)∉(l.take i.toNat).drop f.toNat:=by intro hm;obtain⟨j,hj,e⟩:=zaN hm;simp at hj;have:=h (f.toNat+j) (by omega) (by omega);refine this ?_;rw[List.getElem_drop,zcv] at e;simp[zab,show f.toNat+j<l.length by omega,e]
theorem Rh{l:List UInt8}{f i:Int}(h0:0<=f)(h1:f<=i)(hi:i<l.length):l.drop f.toNat=(l.take i.toNat).drop f.toNat++l.getD i.toNat 0::l.drop (i+1).toNat:=by
 have e:(i+1).toNat=i.toNat+1:=by omega
 have h2:l.drop i.toNat=l.getD i.toNat 0::l.drop (i.toNat+1):=by rw[za9 (by omega)];simp[zab,show i.toNat<l.length by omega]
 rw[e,<-h2]
 conv=>lhs;rw[<-zbv i.toNat l]
 rw[zda,show f.toNat-(l.take i.toNat).length=0 by simp;omega,zbn]
theorem qcX(hS:FD X 15 yy):LD X 7 8 (ah (aL 7 8) gSr):=LD.par (H:=[(15,yy)]) (hk:=[]) (by kernel_rfl) (by kernel_rfl) (.cons hS .nil) .nil
 (A:=List UInt8) (B:=List (List UInt8)×Nat×Int×Int) (λa b=>srH a b.1 b.2.1 b.2.2.1 b.2.2.2)
 (λa b=>(1<=a.length/\a.length<=2000000)/\b.2.1=b.1.length/\1<=b.2.2.2/\qfX a b.1 b.2.2.1 b.2.2.2)
 (λa b=>(a.length+1-b.2.2.2).toNat)
 (λa x=>(∃(m:Nat) (o:List (List UInt8)),¬dG (splitBy 47 (a.drop 1))/\x=(.ret,⟨51,[(2,.sl 0 0 0),(3,iD 70),(4,.sl 1 0 m)],[(0,⟨0,none,.arr 9 false []⟩),(1,⟨0,none,.arr 9 false (o.map D.str)⟩)]⟩))\/
  (∃m,m=(splitBy 47 (a.drop 1)).length/\dG (splitBy 47 (a.drop 1))/\x=(.exit 0,⟨51,[(4,.sl 0 0 m)],[(0,⟨0,none,.arr 9 false ((splitBy 47 (a.drop 1)).map D.str)⟩)]⟩)))
 (by
  rintro l ⟨o,m,f,i⟩ ⟨⟨Kj,hl⟩,hm,MC,sX,nb,hinv⟩;dsimp only at*
  (rw[<-qfV];delta sT KU Zh Zt Zm yj Zu ZV r5 Z6 Z5 Zd Zb qe ZX lq Hq KO Hr Re Z1L Z1H ZE kc Zq ZW Z1E Z1N)
  simp only[zaa];refine a8 (λh=> ?_) λh=> ?_
  ·have qfY:1<=f/\f<=i/\i<=l.length/\(∀j:Nat,f<=j->(j:Int)<i->l.getD j 0≠47)/\o++splitBy 47 (l.drop f.toNat)=splitBy 47 (l.drop 1):=by
    rcases hinv with hh | ⟨hc,_⟩
    ·exact hh
    omega
   obtain⟨hf1,hfi,cj,bk,ri⟩:=qfY;have Hj:(List.drop f.toNat (List.take i.toNat l)).length<=2000000:=by simp;omega
   have hpn:=Rg (l:=l) (by omega) hfi cj bk;have kS: ∀x:D,(Nat.ble m o.length&&aJ (m+List.length [x]) 16)=true:=λx=>by rw[qcW (by omega)];simp;omega
   refine mI (λh'=> ?_) λh'=> ?_
   ·
    have hd:l.drop f.toNat=(l.take i.toNat).drop f.toNat:=by rw[show i.toNat=l.length by omega,zag]
    have oi:splitBy 47 (l.drop 1)=o++[(l.take i.toNat).drop f.toNat]:=by rw[<-ri,hd,nR _ _ hpn]
    refine aP (by omega) (aP (by omega) ⟨_,rfl,rfl,Hj,az (λh2=> .inl ⟨m,o,λhh=> ?_,rfl⟩) λh2=>aP (by omega) (aP (by omega) (ao (kS _) (ao (gB (by omega) (by omega)) (ao (gB (by omega) (by omega)) ?_))))⟩)
    ·have:=hh ((l.take i.toNat).drop f.toNat) (by rw[oi];simp);rw[this] at h2;cases h2
    rw[KV hm];refine⟨_,?_,(o++[(l.take i.toNat).drop f.toNat],m+1,i+1,i+1),rfl,⟨⟨Kj,hl⟩,by simp[hm],by first |omega | (dsimp only;omega),?_⟩,rfl⟩
    ·dsimp only;omega
    refine⟨λx hx=> ?_,by simp;omega,.inr ⟨by first |omega | (dsimp only;omega),oi.symm⟩⟩;rcases zaB.1 hx with hx |hx
    ·exact sX x hx
    simp at hx;subst hx;simpa using h2
   have bz:i<l.length:=by omega
   refine aP (by omega) (mI (λh3=> ?_) λh3=> ?_)
   ·have hb:l.getD i.toNat 0=47:=zbY.1 (by rw[show(47:UInt8).toNat=47 from rfl];omega);have hd:=Rh (l:=l) (f:=f) (i:=i) (by omega) hfi bz;rw[hb] at hd;have KX:splitBy 47 (l.drop 1)=(o++[(l.take i.toNat).drop f.toNat])++splitBy 47 (l.drop (i+1).toNat):=by rw[<-ri,hd,jq _ _ _ hpn];simp
    refine aP (by omega) (aP (by omega) ⟨_,rfl,rfl,Hj,az (λh2=> .inl ⟨m,o,λhh=> ?_,rfl⟩) λh2=>aP (by omega) (aP (by omega) (ao (kS _) (ao (gB (by omega) (by omega)) (ao (gB (by omega) (by omega)) ?_))))⟩)
    ·have:=hh ((l.take i.toNat).drop f.toNat) (by rw[KX];simp);rw[this] at h2;cases h2
    rw[KV hm];refine⟨_,?_,(o++[(l.take i.toNat).drop f.toNat],m+1,i+1,i+1),rfl,⟨⟨Kj,hl⟩,by simp[hm],by first |omega | (dsimp only;omega),?_⟩,rfl⟩
    ·dsimp only;omega
    refine⟨λx hx=> ?_,by simp;omega,.inl ⟨by first |omega | (dsimp only;omega),by first |omega | (dsimp only;omega),by first |omega | (dsimp only;omega),λj hj AQ=>by dsimp only at hj AQ;omega,KX.symm⟩⟩;rcases zaB.1 hx with hx |hx
    ·exact sX x hx
    simp at hx;subst hx;simpa using h2
   refine ao (gB (by omega) (by omega)) ⟨_,?_,(o,m,f,i+1),rfl,⟨⟨Kj,hl⟩,hm,by first |omega | (dsimp only;omega),sX,by first |omega | (dsimp only;omega),.inl ⟨hf1,by first |omega | (dsimp only;omega),by first |omega | (dsimp only;omega),λj hj AQ=> ?_,ri⟩⟩,rfl⟩
   ·dsimp only;omega
   dsimp only at hj AQ;by_cases e:(j:Int)=i
   ·have:j=i.toNat:=by omega
    rw[this];intro e2;rw[e2] at h3;exact h3 rfl
   exact bk j hj (by omega)
  rcases hinv with⟨hf1,hfi,cj,bk,ri⟩| ⟨hc,ho⟩
  ·omega
  subst ho;exact .inr ⟨m,hm,sX,rfl⟩)
 (by
  rintro s ae ⟨l,es,rfl,⟨rfl,h0,h1⟩,h2,h3⟩;refine⟨l,([],0,1,1),rfl,⟨⟨h0,h1⟩,rfl,by simp,λx hx=>(by cases hx),by simp,.inl ⟨by simp,by simp,by simp;omega,λj hj AQ=>by dsimp only at hj AQ;omega,by simp⟩⟩,?_⟩;rintro x (⟨m,o,h,rfl⟩| ⟨m,h,h',rfl⟩)
  ·exact h2 m o h
  exact h3 m h h')
end
def cE(l:List (List UInt8)):List UInt8:=l.flatMap λx=>47::x
def Ri(l:List (List UInt8)):Nat:=(cE l).length
def Z1S(l:List UInt8):S:=S.mk 64 [r5 l,(3,P.d Z3)] []
theorem Xr(s:List UInt8)(ae:P×List (Nat×En)->Prop):(bif s==[] then Z1 ae else bif decide (lq s>(32:Int)) then Z1 ae else bif s==ZQ then Z1 ae else bif s==(46:UInt8)::ZQ then Z1 ae else∃(l:List UInt8),Z1S s=Z1S l/\ZX l<=32/\((¬∀(b:UInt8),b∈l->hU b=true)->Z1 ae)/\((∀(b:UInt8),b∈l->hU b=true)->ZD ae))=(aK [] [(4,ah (aL 42 4) gNm)] 42 [sD s] []) ae:=by kernel_rfl
def Z1O(ae:P×List (Nat×En)->Prop):List P->Prop:=λ(s0:List P)=> ∃(s:List UInt8),s0=ZW s/\Zq/\ae (P.d (D.bool (bR s)),[])
def Z1T(l:List UInt8):S:=S.mk 33 [r5 l,(3,P.d Z3)] []
theorem Xs(s:List UInt8)(ae:P×List (Nat×En)->Prop):(∃(l:List UInt8),Z1T s=Z1T l/\kc l/\((126:UInt8)∈l->ae (P.d (D.bool (bQ l)),[]))/\(¬(126:UInt8)∈l->Z1O ae (ZW l)))=(aK [(42,mN)] [(2,ah (aL 15 2) gSe)] 15 [sD s] []) ae:=by kernel_rfl
def Oo:List (Nat×En):=[(0,Re)]
def Z1W(ae:P×List (Nat×En)->Prop):Prop:=ae (P.bI [ZE,P.d (D.int .i64 (2:Int))],Oo)
def Z1X(l:List (List UInt8)):P:=P.sl 0 0 (List.length l)
def Z1V(ae:P×List (Nat×En)->Prop):Prop:=ae (P.bI [ZE,P.d (D.int .i64 (71:Int))],Oo)
def Rj:List UInt8:=[(47:UInt8)]
def Z1Z:List P:=[P.d (D.str Rj)]
theorem Rk(s:List UInt8)(ae:P×List (Nat×En)->Prop):(∃(bF:List UInt8) (c:List UInt8),ZV s::Z1Z=ZV bF::ZW c/\Zq/\bif !Lib.hasPrefix bF c then Z1V ae else bif Lib.trimPrefix bF c==[] then ae (P.bI (ZE::ZK),Oo) else∃(s:List UInt8) (sep:List UInt8),P.d (D.str (Lib.trimPrefix bF c))::Z1Z=ZV s::ZW sep/\Zq/\ZY s sep/\ ∀(l:List (List UInt8)),Lib.split s sep=l-> ∃(ar:List (List UInt8)) (m:Nat) (m':Nat) (n:Int),S.mk 36 [(6,Z1X l),(22,Z1X l),(23,P.d (D.int .i64 (ZZ l))),(24,P.d Z3)] (KU l)=S.mk 36 [(6,Zu m),(22,Zu m'),(23,P.d (Zm n)),(24,P.d Z3)] (KU ar)/\(m'=List.length ar/\n=ZZ ar/\List.length ar<=2000001/\ ∀(x:List UInt8),x∈ar->kc x)/\(¬dG ar->ae (P.bI (ZE::Z1Q),Oo))/\(dG ar->bif decide ((↑m:Int)>(20:Int)) then Z1W ae else ae (P.bI (Zu m::ZK),KU ar)))=(aK [(69,Rc),(70,yg)] [(8,ah (aL 43 8) gSp)] 43 [sD s] []) ae:=by kernel_rfl
def Z20(l:List UInt8):List (Nat×P):=[r5 l,(4,ZE),(5,ZF),(6,ZF)]
theorem Rl(s:List UInt8)(ae:P×List (Nat×En)->Prop):(bif s==Rj then ae (P.bI (ZE::ZK),Oo) else bif s==[] then Z1V ae else ob (On s) (bif qV s !=(47:Int) then Z1V ae else∃(l:List UInt8) (es:List D),S.mk 51 (Z20 s) Oo=S.mk 51 (Z20 l) [(0,En.mk 0 none (Obj.arr (9:TypeId) false es))]/\(es=[]/\1<=ZX l/\kc l)/\(∀(_:Nat) (_:List (List UInt8)),¬dG (splitBy (47:UInt8) (List.drop 1 l))->ae (P.bI (ZE::Z1Q),Oo))/\ ∀(m:Nat),m=List.length (splitBy (47:UInt8) (List.drop 1 l))->dG (splitBy (47:UInt8) (List.drop 1 l))->bif decide ((↑m:Int)>(20:Int)) then Z1W ae else ae (P.bI (Zu m::ZK),[(0,En.mk 0 none (Obj.arr (9:TypeId) false (List.map D.str (splitBy (47:UInt8) (List.drop 1 l)))))])))=(aK [] [(8,ah (aL 7 8) gSr)] 7 [sD s] []) ae:=by kernel_rfl
section
variable{X:XF}
theorem sY:FD X 42 mN:=FD.mk (H:=[]) (hk:=[(4,ah (aL 42 4) gNm)]) (by kernel_rfl) .nil (.cons qcR .nil) (by
 intro ps R ae hh;obtain⟨s,rfl,rfl,hp⟩:=hh
 (rw[<-Xr];delta ZC ZD ZX Z3 ZV r5 Z1S ZQ lq Z0 Z1)
 refine az (λh1=> ?_) λh1=>a8 (λh2=> ?_) λh2=>az (λh3=> ?_) λh3=>az (λh4=> ?_) λh4=>⟨s,rfl,by omega,λbk=> ?_,λbC=> ?_⟩
 ·exact fq hp (me λh=>h.1 (by simpa using h1))
 ·exact fq hp (me λh=>by omega)
 ·exact fq hp (me λh=>h.2.2.1 (by simpa using h3))
 ·exact fq hp (me λh=>h.2.2.2.1 (by simpa using h4))
 ·exact fq hp (me λh=>bk h.2.2.2.2)
 exact fq hp (kY ⟨by simpa using h1,by omega,by simpa using h3,by simpa using h4,bC⟩))
theorem Xt:FD X 15 yy:=FD.mk (H:=[(42,mN)]) (hk:=[(2,ah (aL 15 2) gSe)]) (by kernel_rfl) (.cons sY .nil) (.cons (qcT sY) .nil) (by
 intro ps R ae hh;obtain⟨s,rfl,rfl,hs,hp⟩:=hh
 (rw[<-Xs];delta ZV ZW Zq Z1O ZX kc Z3 r5 Z1T)
 exact⟨s,rfl,hs,λ_=>hp,λhm=>⟨s,rfl,rfl,fq hp (by simp[bQ,hm,sW hm])⟩⟩)
theorem gQ(l:List (List UInt8)):l.all bQ=true↔dG l:=by simp[dG]
theorem Bp{s:List UInt8}(h: ∀r,s≠47::r):dO s=(71,[]):=by
 unfold dO;split
 next r=>exact absurd rfl (h r)
 rfl
theorem vQ(r:List UInt8):dO (47::r)=if r=[] then(0,[]) else if(splitBy 47 r).all bQ=true then(if 20<(splitBy 47 r).length then(2,[]) else(0,splitBy 47 r)) else(70,[]):=rfl
theorem Rm:FD X 43 lN:=FD.mk (H:=[(69,Rc),(70,yg)]) (hk:=[(8,ah (aL 43 8) gSp)]) (by kernel_rfl) (.cons qcP (.cons KP .nil)) (.cons qcV .nil) (by
 intro ps R ae hh;obtain⟨s,rfl,rfl,hs,hp⟩:=hh
 (rw[<-Rk];delta Re Oo ZE Z1W Z1Q ZX kc Zm Zu sT KU Z3 ZZ Z1X ZY ZK Z1V Zq ZV ZW Rj Z1Z)
 refine⟨s,[47],rfl,rfl,?_⟩;by_cases hc: ∃r,s=47::r
 ·obtain⟨r,rfl⟩:=hc;have e1:Lib.hasPrefix (47::r) [47]=true:=by simp[Lib.hasPrefix]
  have e2:Lib.trimPrefix (47::r) [47]=r:=by simp[Lib.trimPrefix,Lib.hasPrefix]
  rw[vQ] at hp;simp at hs;refine jo (by rw[e1];rfl) ?_;rw[e2];refine az (λh=>hp 0 0 [] (by rw[zaq (by simpa using h)]) rfl) λh=> ?_;have hr:r≠[]:=by simpa using h
  rw[zap hr] at hp;have CD:r.count 47<=r.length:=List.count_le_length;refine⟨r,[47],rfl,rfl,⟨by omega,by simp,by rw[pN,lL,Lib.count_one],by rw[Lib.count_one];omega⟩,λl hl=> ?_⟩;rw[pN] at hl;subst hl;refine⟨_,_,_,_,rfl,⟨rfl,rfl,by rw[lL];omega,λx hx=>by have:=nQ 47 r x hx;omega⟩,λbk=> ?_,λbC=>a8 (λh3=> ?_) λh3=> ?_⟩
  ·exact hp 0 70 [] (by rw[zap (by rw[gQ];exact bk)]) rfl
  ·exact hp 0 2 [] (by rw[zaq ((gQ _).2 bC),zaq (by omega)]) rfl
  exact hp _ _ _ (by rw[zaq ((gQ _).2 bC),zap (by omega)]) rfl
 have bk: ∀r,s≠47::r:=λr e=>hc ⟨r,e⟩;have e1:Lib.hasPrefix s [47]=false:=by
  cases s with
  |nil=>rfl
  |cons b t=>have hb:(47:UInt8)≠b:=λe=>bk t (by rw[e]);simp[Lib.hasPrefix,List.isPrefixOf,hb]
 exact gh (by rw[e1];rfl) (hp 0 71 [] (Bp bk) rfl))
theorem FW:FD X 7 lN:=FD.mk (H:=[]) (hk:=[(8,ah (aL 7 8) gSr)]) (by kernel_rfl) .nil (.cons (qcX Xt) .nil) (by
 intro ps R ae hh;obtain⟨s,rfl,rfl,hs,hp⟩:=hh
 (rw[<-Rl];delta Zu Re Oo ZE Z1W Z1Q ZX kc ZF ZV r5 Z20 qV lq On Z1V Z3 ZK Rj)
 refine az (λh=> ?_) λh=>az (λh2=> ?_) λh2=> ?_
 ·have e:s=[47]:=by simpa using h
  subst e;exact hp 0 0 [] rfl rfl
 ·have e:s=[]:=by simpa using h2
  subst e;exact hp 0 71 [] rfl rfl
 obtain⟨b,r,rfl⟩: ∃b r,s=b::r:=by cases s with |nil=>simp at h2 |cons b r=>exact⟨b,r,rfl⟩
 refine aP (by simp) (lK (λh3=> ?_) λh3=> ?_)
 ·exact hp 0 71 [] (Bp λr' e=>by simp at e;rw[e.1] at h3;exact h3 rfl) rfl
 have hb:b=47:=zbY.1 (by rw[show(47:UInt8).toNat=47 from rfl];simp at h3;omega);subst hb;have hr:r≠[]:=λe=>by subst e;simp at h
 rw[vQ,zap hr] at hp;refine⟨_,_,rfl,⟨rfl,by simp,hs⟩,λm o bk=> ?_,λm hm bC=>a8 (λh3=> ?_) λh3=> ?_⟩
 all_goals simp only[zb6,zbn] at*
 ·exact hp 0 70 [] (by rw[zap (by rw[gQ];exact bk)]) rfl
 ·exact hp 0 2 [] (by rw[zaq ((gQ _).2 bC),zaq (by omega)]) rfl
 exact hp _ _ _ (by rw[zaq ((gQ _).2 bC),zap (by omega)]) hm)
theorem KY: ∀l:List (List UInt8),l≠[]->cE l=yr l
 | [],h=>absurd rfl h
 | [x],_=>by simp[cE,yr,join_one]
 |x::y::l,_=>by have ih:=KY (y::l) (by simp);rw[yr,yu];rw[yr] at ih;rw[<-ih];simp[cE]
theorem yz{t r i:Int}:ez t r i=[]↔aY t r i=false:=by
 unfold ez;split
 next h=>simp[h,eU]
 rename_i h;simpa using h
theorem Rn:FD X 101 I3:=FD.mk (H:=[(42,mN),(113,Bl)]) (hk:=[]) (by kernel_rfl) (.cons sY (.cons Xm .nil)) .nil (by
 intro ps R ae hh;obtain⟨s,t,r,i,rfl,rfl,hp⟩:=hh
 (rw[<-Rf];delta Z3 ZK Zr ZX ZF ZO Z1R Zm Zx ZM Z1Q Zq ZV ZW)
 unfold k9 at hp;refine⟨s,rfl,rfl,az (λh=> ?_) λh=>⟨t,r,i,rfl,rfl,az (λh2=> ?_) λh2=> ?_⟩⟩
 ·rw[zap (by simpa using h)] at hp;exact hp
 ·have h2:aY t r i=false:=yz.1 (by simpa using h2);rw[zaq (by simpa using h),zap (by simp[h2])] at hp;exact hp
 have hn:bR s=true:=by simpa using h
 have hi:aY t r i=true:=by
  cases hi:aY t r i with
  |true=>rfl
  |false=>rw[yz.2 hi] at h2;simp at h2
 rw[zaq hn,zaq hi] at hp;have hl:=I2 t r i;simp only[bR,zal] at hn;refine aP (by omega) (aP (by simp;omega) ?_);rw[ez,zaq hi];simpa using hp)
end
def fu(n:Nat):List UInt8:=if n<128 then [UInt8.ofNat n] else UInt8.ofNat (n%128+128)::fu (n/128)
def bW(i:Nat):List UInt8->Int×Nat×List UInt8
 | []=>(10,0,[])
 |b::r=>if b.toNat<128 then(if b.toNat=0/\0<i then(11,0,[]) else(0,b.toNat,r)) else if i=8 then(11,0,[]) else
  (if(bW (i+1) r).1=0 then(0,b.toNat-128+128*(bW (i+1) r).2.1,(bW (i+1) r).2.2) else bW (i+1) r)
abbrev u8R(c:List UInt8):Obj:= .arr 5 false (c.map bD)
abbrev puH(c:Option (List UInt8))(n:Int):S:=match c with
 |none=>⟨20,[(0,.d .dS),(1,.d (.int .u64 n))],[]⟩
 |some c=>⟨20,[(0,.sl 0 0 c.length),(1,.d (.int .u64 n))],[(0,⟨0,none,u8R c⟩)]⟩
abbrev Ro(s:List UInt8)(n i:Int):S:=⟨52,[(0,sD s),(2,iD n),(5,iD i)],[]⟩
def Rp:bh:=λps R ae=> ∃n:Int,ps=[.d .dS,.d (.int .u64 n)]/\R=[]/\(0<=n/\n<9223372036854775808)/\ ∀c k,c=fu n.toNat->k=c.length->ae (.sl 0 0 k,[(0,⟨0,none,u8R c⟩)])
def Z23(n:Int):List (Nat×P):=[(1,P.d (D.int IntKind.u64 n))]
def Z24(n:Int):S:=S.mk 20 ((0,P.d D.dS)::Z23 n) []
def Z22(n:Int):List D:=[D.int .u8 (IntKind.wrap IntKind.u8 (↑(BitVec.toNat (BitVec.ofInt 8 (IntKind.wrap IntKind.u8 n)|||BitVec.ofInt 8 (128:Int))):Int))]
def Z21(n:Int):List (Nat×P):=[(1,P.d (D.int IntKind.u64 (Int.fdiv n ((2:Int)^7))))]
theorem qcY(n:Int)(ae:PX×S->Prop):(bif decide (n>=(128:Int)) then ae (PX.normal,S.mk 20 ((0,P.sl 0 0 1)::Z21 n) [(0,En.mk 0 none (Obj.arr (5:TypeId) false (Z22 n)))]) else ae (PX.exit 0,Z24 n))=(aC [] [] 46 1 (puH none n)) ae:=by kernel_rfl
def Z27(c:List UInt8):En:=En.mk 0 none (Obj.arr (5:TypeId) false (List.map bD c))
def Oq(c:List UInt8):List D:=List.take (ZX c) (List.map bD c)
def Ot(c:List UInt8):Bool:=Nat.ble (ZX c) (List.length (List.map bD c))
theorem qcZ(c:List UInt8)(n:Int)(ae:PX×S->Prop):(bif decide (n>=(128:Int)) then ob (Ot c&&aJ (ZX c+List.length (Z22 n)) 1) (ae (PX.normal,S.mk 20 ((0,P.sl 0 0 (ZX c+List.length (Z22 n)))::Z21 n) [(0,En.mk 0 none (Obj.arr (5:TypeId) false (Oq c++Z22 n)))])) else ae (PX.exit 0,S.mk 20 ((0,P.sl 0 0 (ZX c))::Z23 n) [(0,Z27 c)]))=(aC [] [] 46 1 (puH (some c) n)) ae:=by kernel_rfl
def Z2a(i:Int):Int:=(2:Int)^min (Int.toNat ((7:Int)*i)) 64
def Z29(i:Int):Bool:=decide (Z5<=(7:Int)*i/\(7:Int)*i<=Z6)
def Z28(s:List UInt8)(i:Int):Int:=IntKind.wrap IntKind.u8 (↑(BitVec.toNat (BitVec.ofInt 8 (qe s i)&&&BitVec.ofInt 8 (127:Int))):Int)
theorem qc0(s:List UInt8)(n i:Int)(ae:PX×S->Prop):(bif i==lq s then ae (PX.ret,S.mk 52 [r5 s,(2,P.d Z3),Z1k,(4,P.d (D.int .i64 (10:Int))),yj i] []) else ob (Hq i s) (bif decide (qe s i<(128:Int)) then ae (PX.exit 0,S.mk 52 [r5 s,Zy n,yj i] []) else bif i==(8:Int) then ae (PX.ret,S.mk 52 [r5 s,(2,P.d Z3),Z1k,(4,P.d (D.int .i64 (11:Int))),yj i] []) else ob (Hq i s) (ob (decide (Z5<=Z28 s i/\Z28 s i<=Z6)) (ob (Z29 i) (ob (decide ((0:Int)<=(7:Int)*i)) (ob (decide (Z5<=Z28 s i*Z2a i/\Z28 s i*Z2a i<=Z6)) (ob (Zd i) (ae (PX.normal,S.mk 52 (r5 s::(2,P.d (D.int .i64 (IntKind.wrap IntKind.i64 (↑(BitVec.toNat (BitVec.ofInt 64 n |||BitVec.ofInt 64 (Z28 s i*Z2a i))):Int))))::Zi i) [])))))))))=(aC [] [] 22 2 (Ro s n i)) ae:=by kernel_rfl
def qc1:S->K (PX×S):=λs ae=> ∃n,s=puH none n/\(0<=n/\n<9223372036854775808)/\(n<128->ae (.exit 0,puH none n))/\ ∀c m,m<128->c++[UInt8.ofNat m.toNat]=fu n.toNat->0<=m->c.length<10->ae (.exit 0,puH (some c) m)
def Z2c(ft:Int):List D:=[D.int .u8 (IntKind.wrap IntKind.u8 ft)]
def Z2b(ft:Int):Prop:=(0:Int)<=ft/\ft<(9223372036854775808:Int)
theorem qfZ(n:Int)(ae:P×List (Nat×En)->Prop):(∃(ft:Int),Z24 n=Z24 ft/\Z2b ft/\(ft<(128:Int)->ae (P.sl 0 0 1,[(0,En.mk 0 none (Obj.arr (5:TypeId) false (Z2c ft)))]))/\ ∀(c:List UInt8) (m:Int),m<(128:Int)->c++[UInt8.ofNat (Zb m)]=fu (Zb ft)->(0:Int)<=m->ZX c<10->ob (Ot c&&aJ (ZX c+List.length (Z2c m)) 1) (ae (P.sl 0 0 (ZX c+List.length (Z2c m)),[(0,En.mk 0 none (Obj.arr (5:TypeId) false (Oq c++Z2c m)))])))=(aK [] [(1,ah (aL 46 1) qc1)] 46 [.d .dS,.d (.int .u64 n)] []) ae:=by kernel_rfl
theorem qf0(n:Int)(ae:P×List (Nat×En)->Prop):(bif VC n then Z1R ae else∃(ft:Int),[P.d D.dS,P.d (D.int IntKind.u64 (IntKind.wrap IntKind.u64 n))]=[P.d D.dS,P.d (D.int IntKind.u64 ft)]/\Zq/\Z2b ft/\ ∀(c:List UInt8) (k:Nat),c=fu (Zb ft)->k=ZX c->ob (eQ (List.take k (List.map bD c))) (ae (P.bI (P.d (D.str (bytesOf (List.take k (List.map bD c))))::ZK),[])))=(aK [(46,Rp)] [] 17 [iD n] []) ae:=by kernel_rfl
theorem Xu(s:List UInt8)(ae:P×List (Nat×En)->Prop):(∃(n:Int),[P.d D.dS,P.d (D.int IntKind.u64 (IntKind.wrap IntKind.u64 (lq s)))]=[P.d D.dS,P.d (D.int IntKind.u64 n)]/\Zq/\Z2b n/\ ∀(c:List UInt8) (k:Nat),c=fu (Zb n)->k=ZX c->ob (eQ (List.take k (List.map bD c))) (ob (decide (List.length (bytesOf (List.take k (List.map bD c)))+ZX s<=Zr)) (ae (P.d (D.str (bytesOf (List.take k (List.map bD c))++s)),[]))))=(aK [(46,Rp)] [] 19 [sD s] []) ae:=by kernel_rfl
theorem nT{n:Nat}(h:n<128):fu n=[UInt8.ofNat n]:=by rw[fu,zaq h]
theorem sZ{n:Nat}(h: ¬n<128):fu n=UInt8.ofNat (n%128+128)::fu (n/128):=by rw[fu,zap h]
theorem Rq(k:Nat): ∀n,n<128^k->(fu n).length<=max k 1:=by
 induction k with
 |zero=>intro n h;rw[nT (by simp at h;omega)];simp
 |succ k ih=>
  intro n h;by_cases hn:n<128
  ·rw[nT hn];simp only[zaU];omega
  rw[sZ hn];have:=ih (n/128) (by rw[zcI] at h;omega);have hk:0<k:=by
   rcases Nat.eq_zero_or_pos k with rfl |hk
   ·simp at h;omega
   exact hk
  simp only[zam];omega
theorem FX(n:Nat):0<(fu n).length:=by
 by_cases h:n<128
 ·rw[nT h];simp
 rw[sZ h];simp
theorem s5{n:Nat}(h:n<9223372036854775808):(fu n).length<=9:=by have:=Rq 9 n (by rw[show 128^9=9223372036854775808 from rfl];exact h);omega
theorem wrap_u8(n:Int):IntKind.wrap .u8 n=n%256:=by simp only[IntKind.wrap,IntKind.bits,IntKind.signed];rfl
theorem wrap_u64{n:Int}(h:0<=n)(h2:n<18446744073709551616):IntKind.wrap .u64 n=n:=by
 have e:IntKind.wrap .u64 n=n%18446744073709551616:=by simp only[IntKind.wrap,IntKind.bits,IntKind.signed];rfl
 rw[e];omega
theorem yA{m:Int}(h0:0<=m)(h1:m<128):D.int .u8 (IntKind.wrap .u8 m)=bD (UInt8.ofNat m.toNat):=by rw[wrap_u8];simp only[bD,D.int.injEq,zcM];simp only[zbL];omega
theorem Xv: ∀k:Fin 256,(BitVec.ofInt 8 (k.val:Int)|||BitVec.ofInt 8 (128:Int)).toNat=k.val%128+128:=by decide
theorem FY{m:Int}(h0:0<=m):D.int .u8 (IntKind.wrap .u8 (↑(BitVec.toNat (BitVec.ofInt 8 (IntKind.wrap .u8 m)|||BitVec.ofInt 8 (128:Int))):Int))=bD (UInt8.ofNat (m.toNat%128+128)):=by
 have hk:m.toNat%256<256:=zcL _ (by omega);have e:IntKind.wrap .u8 m=((⟨m.toNat%256,hk⟩:Fin 256).val:Int):=by rw[wrap_u8];simp only;omega
 rw[e,Xv,wrap_u8];simp only[bD,D.int.injEq,zcM];simp only[zbL];omega
theorem KZ{m:Int}(h0:0<=m):Int.fdiv m ((2:Int)^7)=((m.toNat/128:Nat):Int):=by rw[Int.fdiv_eq_ediv_of_nonneg _ (by decide)];have:(2:Int)^7=128:=rfl;rw[this];omega
abbrev cOf(c:Option (List UInt8)):List UInt8:=c.getD []
section
variable{X:XF}
theorem Xw:LD X 46 1 (ah (aL 46 1) qc1):=LD.par (H:=[]) (hk:=[]) (by kernel_rfl) (by kernel_rfl) .nil .nil
 (A:=Int) (B:=Option (List UInt8)×Int) (λ_ b=>puH b.1 b.2)
 (λa b=>(0<=a/\a<9223372036854775808)/\0<=b.2/\cOf b.1++fu b.2.toNat=fu a.toNat/\(b.1=none->b.2=a))
 (λ_ b=>b.2.toNat)
 (λa x=> ∃c m,x=(.exit 0,puH c m)/\m<128/\0<=m/\cOf c++fu m.toNat=fu a.toNat/\(c=none->m=a))
 (by
  rintro a ⟨c,m⟩ ⟨ha,h0,he,hn⟩;dsimp only at*
  have hlen:=congrArg List.length he;have h9:=s5 (n:=a.toNat) (by omega);have hp:=FX m.toNat;rw[zaj] at hlen;cases c with
  |none=>
   (rw[<-qcY];delta Z23 Z24 Z22 Z21)
   refine a8 (λh=> ?_) λh=>⟨none,m,rfl,by omega,h0,he,hn⟩
   refine⟨_,?_,(some [UInt8.ofNat (m.toNat%128+128)],((m.toNat/128:Nat):Int)),?_,⟨ha,by dsimp only;omega,?_,λh=>by cases h⟩,rfl⟩
   ·dsimp only;omega
   ·rw[FY h0,KZ h0];rfl
   dsimp only;rw[<-he,sZ (n:=m.toNat) (by omega)];rfl
  |some c=>
   (rw[<-qcZ];delta Z27 Z23 ZX Oq Z21 Z22 Ot)
   refine a8 (λh=> ?_) λh=>⟨some c,m,rfl,by omega,h0,he,hn⟩
   simp only[cOf,zby] at he hlen;refine ao (vM (by simp;omega) (by simp;omega) _ (by simp)) ?_;refine⟨_,?_,(some (c++[UInt8.ofNat (m.toNat%128+128)]),((m.toNat/128:Nat):Int)),?_,⟨ha,by dsimp only;omega,?_,λh=>by cases h⟩,rfl⟩
   ·dsimp only;omega
   ·rw[FY h0,KZ h0,zan (by simp)];simp only[puH,u8R,zaG,zaO,zb8,zaj,zam,zay]
   dsimp only[cOf,Option.getD_some];rw[<-he,sZ (n:=m.toNat) (by omega),zaF];rfl)
 (by
  rintro s ae ⟨n,rfl,hn,h1,h2⟩;refine⟨n,(none,n),rfl,⟨hn,hn.1,rfl,λ_=>rfl⟩,?_⟩;rintro x ⟨c,m,rfl,h3,h4,h5,h6⟩;cases c with
  |none=>have:=h6 rfl;subst this;exact h1 h3
  |some c=>rw[nT (n:=m.toNat) (by omega)] at h5;have h9:=s5 (n:=n.toNat) (by omega);have hl:=congrArg List.length h5;simp at hl;exact h2 c m h3 h5 h4 (by omega))
theorem qa6:FD X 46 Rp:=FD.mk (H:=[]) (hk:=[(1,ah (aL 46 1) qc1)]) (by kernel_rfl) .nil (.cons Xw .nil) (by
 intro ps R ae hh;obtain⟨n,rfl,rfl,hn,hp⟩:=hh
 (rw[<-qfZ];delta ZX Oq Ot Zb Z2c Z2b Z23 Z24)
 refine⟨n,rfl,hn,λh=> ?_,λc m h1 h2 h3 h4=> ?_⟩
 ·rw[yA hn.1 h];exact hp [UInt8.ofNat n.toNat] 1 (by rw[nT (by omega)]) rfl
 rw[yA h3 h1,zan (by simp)];refine ao (vM (by simp;omega) (by simp;omega) _ (by simp)) ?_;have:=hp (c++[UInt8.ofNat m.toNat]) (c.length+1) h2 (by simp);simp only[u8R,zaG,zaO,zb8] at this;exact this)
def qf1:bh:=λps R ae=> ∃n:Int,ps=[iD n]/\R=[]/\(0<=n/\n<9223372036854775808)/\ae (.bI [sD (fu n.toNat),iD 0],[])
def Rr:bh:=λps R ae=> ∃s,ps=[sD s]/\R=[]/\s.length<=2000000/\ae (sD (fu s.length++s),[])
theorem Bq(c:List UInt8){k:Nat}(hk:k=c.length):eQ (List.take k (List.map bD c))=true/\bytesOf (List.take k (List.map bD c))=c:=by
 subst hk;rw[zan (by simp)]
 induction c with
 |nil=>exact⟨rfl,rfl⟩
 |cons b c ih=>
  refine⟨?_,?_⟩
  ·simp only[zaO,eQ,bD];exact ih.1
  simp only[zaO,bytesOf,bD];rw[ih.2];simp[D.aj]
theorem qf2:FD X 17 qf1:=FD.mk (H:=[(46,Rp)]) (hk:=[]) (by kernel_rfl) (.cons qa6 .nil) .nil (by
 intro ps R ae hh;obtain⟨n,rfl,rfl,hn,hp⟩:=hh
 (rw[<-qf0];delta Z3 ZK ZX Zb Z2b Zq ZF ZO Z1R VC)
 refine a8 (λh=>by omega) λ_=>⟨n,by rw[wrap_u64 hn.1 (by omega)],rfl,hn,λc k hc hk=> ?_⟩
 obtain⟨h1,h2⟩:=Bq c hk;rw[h1,h2,hc];exact hp)
theorem Xx:FD X 19 Rr:=FD.mk (H:=[(46,Rp)]) (hk:=[]) (by kernel_rfl) (.cons qa6 .nil) .nil (by
 intro ps R ae hh;obtain⟨s,rfl,rfl,hs,hp⟩:=hh
 (rw[<-Xu];delta Zr ZX Zb Z2b Zq lq)
 refine⟨s.length,by rw[wrap_u64 (by omega) (by omega)],rfl,⟨by omega,by omega⟩,λc k hc hk=> ?_⟩;obtain⟨h1,h2⟩:=Bq c hk;rw[h1,h2,hc,show((s.length:Int)).toNat=s.length from rfl];have:=s5 (n:=s.length) (by omega);exact aP (by omega) hp)
end
def I4(s:List UInt8)(n i:Int):Prop:=(0<=i/\i<=8/\i.toNat<s.length)/\(0<=n/\n.toNat<2^(7*i.toNat))/\(s.getD i.toNat 0).toNat<128/\
 bW 0 s=(if(s.getD i.toNat 0).toNat=0/\0<i.toNat then(11,0,[]) else(0,n.toNat+(s.getD i.toNat 0).toNat*2^(7*i.toNat),s.drop (i.toNat+1)))
def qc2:S->K (PX×S):=λst ae=> ∃s,st=Ro s 0 0/\s.length<=2000000/\(∀e i,bW 0 s=(e,0,[])->ae (.ret,⟨52,[(0,sD s),(2,iD 0),(3,sD []),(4,iD e),(5,iD i)],[]⟩))/\
 ∀(n i:Int),I4 s n i->ae (.exit 0,Ro s n i)
def FZ:bh:=λps R ae=> ∃s,ps=[sD s]/\R=[]/\s.length<=2000000/\ ∀e n r,bW 0 s=(e,n,r)->ae (.bI [iD n,sD r,iD e],[])
def I5:bh:=λps R ae=> ∃s,ps=[sD s]/\R=[]/\s.length<=2000000/\ae (jU (Lib.validD s),[])
def I6:bh:=λps R ae=> ∃s,ps=[sD s]/\R=[]/\s.length<=2000000/\ae (iD (Lib.runeCount ⟨⟨s⟩⟩),[])
def Z2e(i:Int)(bF:List UInt8)(ae:P×List (Nat×En)->Prop)(n:Int):Prop:=ob (Hq i bF) (ob (decide (Z5<=qe bF i/\qe bF i<=Z6)) (ob (Z29 i) (ob (decide ((0:Int)<=(7:Int)*i)) (ob (decide (Z5<=qe bF i*Z2a i/\qe bF i*Z2a i<=Z6)) (ob (Zd i) (ob (decide ((0:Int)<=i+(1:Int)/\i+(1:Int)<=lq bF)) (ae (P.bI (P.d (D.int .i64 (IntKind.wrap IntKind.i64 (↑(BitVec.toNat (BitVec.ofInt 64 n |||BitVec.ofInt 64 (qe bF i*Z2a i))):Int)))::P.d (D.str (List.drop (Int.toNat (i+(1:Int))) (List.take (ZX bF) bF)))::ZK),[]))))))))
def Z2d(bF:List UInt8):S:=S.mk 52 (r5 bF::(2,P.d Z3)::ZB) []
theorem qc3(s:List UInt8)(ae:P×List (Nat×En)->Prop):(∃(bF:List UInt8),Z2d s=Z2d bF/\kc bF/\(∀(e _:Int),bW 0 bF=(e,0,[])->ae (P.bI (P.d Z3::P.d ZO::Zo e),[]))/\ ∀(n i:Int),I4 bF n i->ob (Hq i bF) (bif qe bF i==(0:Int) then bif Zk i then ae (P.bI [P.d Z3,P.d ZO,P.d (D.int .i64 (11:Int))],[]) else Z2e i bF ae n else Z2e i bF ae n))=(aK [] [(2,ah (aL 22 2) qc2)] 22 [sD s] []) ae:=by kernel_rfl
theorem Xy(s:List UInt8)(ae:P×List (Nat×En)->Prop):(∃(bF:List UInt8),ZW s=ZW bF/\Zq/\kc bF/\ ∀(e:Int) (n:Nat) (r:List UInt8),bW 0 bF=(e,n,r)->bif e !=(0:Int) then ae (P.bI (P.d ZO::P.d ZO::Zo e),[]) else bif decide ((↑n:Int)>lq r) then ae (P.bI [P.d ZO,P.d ZO,P.d (D.int .i64 (10:Int))],[]) else ob (decide ((0:Int)<=(↑n:Int)/\(↑n:Int)<=lq r)) (ob (decide ((0:Int)<=(↑n:Int)/\(↑n:Int)<=lq r)) (ae (P.bI (P.d (D.str (List.drop 0 (List.take n r)))::P.d (D.str (List.drop n (List.take (ZX r) r)))::ZK),[]))))=(aK [(22,FZ)] [] 48 [sD s] []) ae:=by kernel_rfl
def Z2f:List P:=[P.d (D.int .i64 (60:Int))]
theorem qf3(s:List UInt8)(ae:P×List (Nat×En)->Prop):(∃(bF:List UInt8),ZW s=ZW bF/\Zq/\kc bF/\bif !Lib.validD bF then ae (P.bI (P.d Z3::Z2f),[]) else∃(qT:List UInt8),ZW s=ZW qT/\Zq/\kc qT/\ae (P.bI (P.d (D.int .i64 (↑(Lib.runeCount (ByteArray.mk (Array.mk qT))):Int))::ZK),[]))=(aK [(72,I5),(73,I6)] [] 44 [sD s] []) ae:=by kernel_rfl
theorem wrap_i64{n:Int}(h:0<=n)(h2:n<9223372036854775808):IntKind.wrap .i64 n=n:=by
 have e:IntKind.wrap .i64 n=if decide (n%18446744073709551616>=9223372036854775808)=true then n%18446744073709551616-18446744073709551616 else n%18446744073709551616:=by simp only[IntKind.wrap,IntKind.bits,IntKind.signed,zbf];rfl
 rw[e,zap (by simp;omega)];omega
theorem qf4{n b k:Nat}(hn:n<2^k)(hb:n+b*2^k<9223372036854775808):IntKind.wrap .i64 (↑(BitVec.toNat (BitVec.ofInt 64 (n:Int)|||BitVec.ofInt 64 ((b:Int)*(2:Int)^k))):Int)=((n+b*2^k:Nat):Int):=by
 have e1:((b:Int)*(2:Int)^k)=((b*2^k:Nat):Int):=by simp
 rw[e1,BitVec.ofInt_natCast,BitVec.ofInt_natCast,BitVec.toNat_or,BitVec.toNat_ofNat,BitVec.toNat_ofNat,zcA (by omega),zcA (by omega)];have e2:n |||b*2^k=n+b*2^k:=by rw[Nat.or_comm,zbK b,<-Nat.two_pow_add_eq_or_of_lt hn b,Nat.add_comm]
 rw[e2,wrap_i64 (by omega) (by omega)]
theorem Xz: ∀k:Fin 256,IntKind.wrap .u8 (↑(BitVec.toNat (BitVec.ofInt 8 ((k.val:Nat):Int)&&&BitVec.ofInt 8 (127:Int))):Int)=((k.val%128:Nat):Int):=by
 intro k;rw[wrap_u8];have: ∀k:Fin 256,(BitVec.ofInt 8 ((k.val:Nat):Int)&&&BitVec.ofInt 8 (127:Int)).toNat=k.val%128:=by decide
 rw[this];omega
theorem Rs(b:UInt8):IntKind.wrap .u8 (↑(BitVec.toNat (BitVec.ofInt 8 (↑(UInt8.toNat b):Int)&&&BitVec.ofInt 8 (127:Int))):Int)=((b.toNat%128:Nat):Int):=
 Xz ⟨b.toNat,b.toNat_lt⟩
theorem qc4{i:Nat}(h:i<=8):2^(7*i)<=72057594037927936:=by have:2^(7*i)<=2^56:=zcO (by omega) (by omega);exact this
theorem Nd(i:Nat)(s:List UInt8):(bW i s).1≠0->(bW i s).2=(0,[]):=by
 induction s generalizing i with
 |nil=>intro _;rfl
 |cons b r ih=>
  unfold bW;split
  ·split
   ·intro _;rfl
   intro h;exact absurd rfl h
  split
  ·intro _;rfl
  split
  ·intro h;exact absurd rfl h
  exact ih (i+1)
def comb(n k:Nat)(r:Int×Nat×List UInt8):Int×Nat×List UInt8:=if r.1=0 then(0,n+2^k*r.2.1,r.2.2) else r
theorem F4{n k:Nat}{r:Int×Nat×List UInt8}(h:r.1≠0):comb n k r=r:=zap h
theorem ux{s:List UInt8}{i:Nat}(h:i<s.length):s.drop i=s.getD i 0::s.drop (i+1):=by rw[za9 h];simp[zab,h]
theorem K0{i:Int}(h0:0<=i)(h8:i<=8):min (Int.toNat ((7:Int)*i)) 64=7*i.toNat:=by omega
section
variable{X:XF}
theorem XA:LD X 22 2 (ah (aL 22 2) qc2):=LD.par (H:=[]) (hk:=[]) (by kernel_rfl) (by kernel_rfl) .nil .nil
 (A:=List UInt8) (B:=Int×Int) (λs b=>Ro s b.1 b.2)
 (λs b=>s.length<=2000000/\(0<=b.2/\b.2<=8/\b.2.toNat<=s.length)/\(0<=b.1/\b.1.toNat<2^(7*b.2.toNat))/\bW 0 s=comb b.1.toNat (7*b.2.toNat) (bW b.2.toNat (s.drop b.2.toNat)))
 (λs b=>(s.length-b.2).toNat)
 (λs x=>(∃e i,bW 0 s=(e,0,[])/\x=(.ret,⟨52,[(0,sD s),(2,iD 0),(3,sD []),(4,iD e),(5,iD i)],[]⟩))\/ ∃n i,I4 s n i/\x=(.exit 0,Ro s n i))
 (by
  rintro s ⟨n,i⟩ ⟨hl,⟨lx,hi8,cj⟩,⟨Vu,Oj⟩,he⟩;dsimp only at*
  (rw[<-qc0];delta Zh Zi Z6 Z5 Zd Z2a Z29 Zb qe Z28 Zm Zy ZX lq Hq yj ZO Z1k Z3 ZV r5)
  refine az (λh=> ?_) λh=> ?_
  ·have e:i.toNat=s.length:=by simp at h;omega
   refine .inl ⟨10,i,?_,rfl⟩;rw[he,e,List.drop_length];rfl
  have bz:i.toNat<s.length:=by simp at h;omega
  have hb:=(s.getD i.toNat 0).toNat_lt;refine aP ⟨lx,by omega⟩ (a8 (λh2=> ?_) λh2=>az (λh3=> ?_) λh3=>aP ⟨lx,by omega⟩ ?_)
  ·refine .inr ⟨n,i,⟨⟨lx,hi8,bz⟩,⟨Vu,Oj⟩,by omega,?_⟩,rfl⟩;rw[he,ux bz];simp only[bW];rw[zaq (by omega)];split
   ·rfl
   simp only[comb,zbg,zbK]
  ·refine .inl ⟨11,i,?_,rfl⟩;have e8:i=8:=by simpa using h3
   rw[he,ux bz];simp only[bW];rw[zap (by omega),zaq (by omega)];rfl
  have cU:i≠8:=by simpa using h3
  have hp:=qc4 (i:=i.toNat) (by omega);have Qw:2^(7*(i.toNat+1))=128*2^(7*i.toNat):=by rw[show 7*(i.toNat+1)=7*i.toNat+7 by omega,Nat.pow_add];omega
  have hp3:=qc4 (i:=i.toNat+1) (by omega);have hm:(s.getD i.toNat 0).toNat%128*2^(7*i.toNat)<=127*2^(7*i.toNat):=zao _ (by omega);rw[Rs,K0 lx hi8];have ec:((((s.getD i.toNat 0).toNat%128:Nat):Int)*(2:Int)^(7*i.toNat))=(((s.getD i.toNat 0).toNat%128*2^(7*i.toNat):Nat):Int):=by simp
  refine aP (by omega) (aP (by omega) (aP (by omega) (aP (by rw[ec];omega) (ao (gB (by omega) (by omega)) ?_))));obtain⟨m,rfl⟩: ∃m:Nat,n=m:=⟨n.toNat,by omega⟩
  simp only[zbc] at Oj he;rw[qf4 Oj (by omega)];refine⟨_,?_,(((m+(s.getD i.toNat 0).toNat%128*2^(7*i.toNat):Nat):Int),i+1),rfl,⟨hl,⟨by dsimp only;omega,by dsimp only;omega,by dsimp only;omega⟩,⟨by dsimp only;omega,?_⟩,?_⟩,rfl⟩
  ·dsimp only;omega
  ·dsimp only;rw[show(i+1).toNat=i.toNat+1 by omega,Qw,zbc];omega
  dsimp only;rw[he,show(i+1).toNat=i.toNat+1 by omega,ux bz,zbc]
  conv=>lhs;unfold bW
  rw[zap (by omega),zap (by omega)];have emod:(s.getD i.toNat 0).toNat%128=(s.getD i.toNat 0).toNat-128:=by omega
  rw[emod];by_cases hz:(bW (i.toNat+1) (s.drop (i.toNat+1))).1=0
  ·rw[zaq hz];unfold comb;rw[zaq rfl,zaq hz,Qw];simp only[zaL,zcM,zdd];rw[zdf,zbH,zbK (2^(7*i.toNat)) ((s.getD i.toNat 0).toNat-128),<-Nat.mul_assoc,zbK (2^(7*i.toNat)) 128]
  rw[zap hz,F4 hz,F4 hz])
 (by
  rintro st ae ⟨s,rfl,hl,h1,h2⟩;refine⟨s,(0,0),rfl,⟨hl,⟨by decide,by decide,by simp⟩,⟨by decide,by simp⟩,?_⟩,?_⟩
  ·simp only[Int.toNat_zero,zbn,comb];split
   ·rename_i h;have:bW 0 s=(0,(bW 0 s).2.1,(bW 0 s).2.2):=by rw[<-h]
    rw[this];simp
   rfl
  rintro x (⟨e,i,h3,rfl⟩| ⟨n,i,h3,rfl⟩)
  ·exact h1 e i h3
  exact h2 n i h3)
theorem Ru:FD X 22 FZ:=FD.mk (H:=[]) (hk:=[(2,ah (aL 22 2) qc2)]) (by kernel_rfl) .nil (.cons XA .nil) (by
 intro ps R ae hh;obtain⟨s,rfl,rfl,hs,hp⟩:=hh
 (rw[<-qc3];delta Z3 ZK ZX lq Z6 Z5 Zd Z2a Z29 Zb qe Hq Z2e Zk Zm Zo ZO kc ZB ZV r5 Z2d)
 refine⟨s,rfl,hs,λe i h=>hp e 0 [] h,λn i hE=> ?_⟩;obtain⟨⟨lx,hi8,bz⟩,⟨Vu,Oj⟩,hb,he⟩:=hE;have hpw:=qc4 (i:=i.toNat) (by omega);have hm:(s.getD i.toNat 0).toNat*2^(7*i.toNat)<=127*2^(7*i.toNat):=zao _ (by omega);have ec:(((s.getD i.toNat 0).toNat:Int)*(2:Int)^(7*i.toNat))=(((s.getD i.toNat 0).toNat*2^(7*i.toNat):Nat):Int):=by simp
 obtain⟨m,rfl⟩: ∃m:Nat,n=m:=⟨n.toNat,by omega⟩
 simp only[zbc] at Oj he;have fin: ¬((s.getD i.toNat 0).toNat=0/\0<i.toNat)-> ∀(Z:Prop),(ae (.bI [iD ((m+(s.getD i.toNat 0).toNat*2^(7*i.toNat):Nat):Int),sD (s.drop (i.toNat+1)),iD 0],[])->Z)->Z:=λbk Z hZ=>hZ (hp 0 _ _ (by rw[he,zap bk]));rw[K0 lx hi8];refine aP ⟨lx,by omega⟩ (az (λh0=>a8 (λh1=> ?_) λh1=> ?_) λh0=> ?_)
 ·exact hp 11 0 [] (by rw[he,zaq ⟨by simpa using h0,by omega⟩])
 all_goals
  refine fin (λh=> ?_) _ λdA=> ?_
  ·first
   |omega
   | (rw[h.1] at h0;simp at h0)
  refine aP ⟨lx,by omega⟩ (aP (by omega) (aP (by omega) (aP (by omega) (aP (by rw[ec];omega) (ao (gB (by omega) (by omega)) (aP (by omega) ?_))))));rw[qf4 Oj (by omega),zag,show(i+1).toNat=i.toNat+1 by omega];exact dA)
def eB(s:List UInt8):Int×List UInt8×List UInt8:=
 if(bW 0 s).1≠0 then((bW 0 s).1,[],[]) else if(bW 0 s).2.2.length<(bW 0 s).2.1 then(10,[],[]) else(0,(bW 0 s).2.2.take (bW 0 s).2.1,(bW 0 s).2.2.drop (bW 0 s).2.1)
def I7:bh:=λps R ae=> ∃s,ps=[sD s]/\R=[]/\s.length<=2000000/\ ∀e t r,eB s=(e,t,r)->ae (.bI [sD t,sD r,iD e],[])
theorem XB:FD X 48 I7:=FD.mk (H:=[(22,FZ)]) (hk:=[]) (by kernel_rfl) (.cons Ru .nil) .nil (by
 intro ps R ae hh;obtain⟨s,rfl,rfl,hs,hp⟩:=hh
 (rw[<-Xy];delta Z3 ZK ZX lq Zm Zo ZO kc Zq ZV ZW)
 refine⟨s,rfl,rfl,hs,λe n r he=>lK (λh=> ?_) λh=>a8 (λh2=> ?_) λh2=> ?_⟩
 ·exact hp _ _ _ (by unfold eB;rw[zaq (by rw[he];exact h)];rw[he])
 ·exact hp _ _ _ (by unfold eB;rw[zap (by rw[he];simpa using h),zaq (by rw[he];dsimp only;omega)])
 refine aP (by omega) (aP (by omega) ?_);rw[zbn,zag];exact hp _ _ _ (by unfold eB;rw[zap (by rw[he];simpa using h),zap (by rw[he];dsimp only;omega),he]))
def qc5:bh:=λps R ae=> ∃s,ps=[sD s]/\R=[]/\s.length<=2000000/\ ∀n e,e=(if Lib.validD s=true then 0 else 60)->ae (.bI [iD n,iD e],[])
theorem XC:FD X 72 I5:=FD.qq Tryz.func72 (by kernel_rfl) (by kernel_rfl) (by rintro ps R ae ⟨s,rfl,rfl,hs,hp⟩;exact⟨_,zaq (by omega),hp⟩)
theorem XD:FD X 73 I6:=FD.qq Tryz.func73 (by kernel_rfl) (by kernel_rfl) (by rintro ps R ae ⟨s,rfl,rfl,hs,hp⟩;exact⟨_,zaq (by omega),hp⟩)
theorem qf5:FD X 44 qc5:=FD.mk (H:=[(72,I5),(73,I6)]) (hk:=[]) (by kernel_rfl) (.cons XC (.cons XD .nil)) .nil (by
 intro ps R ae hh;obtain⟨s,rfl,rfl,hs,hp⟩:=hh
 (rw[<-qf3];delta Z3 ZK Z2f ZX kc Zq ZV ZW)
 refine⟨s,rfl,rfl,hs,az (λh=> ?_) λh=>⟨s,rfl,rfl,hs,?_⟩⟩
 ·exact hp _ _ (by rw[zap (by simpa using h)])
 exact hp _ _ (by rw[zaq (by simpa using h)]))
end
abbrev cg:=List UInt8×Bool×List UInt8
def ke(e:cg):D:= .agg [.str e.1,.bool e.2.1,.str e.2.2]
abbrev Ou(l:List cg):P:= .d (.sl 3 (l.map ke))
def I8:bh:=λps R ae=> ∃s c,ps=[sD s,sD c]/\R=[]/\s.length<=2000000/\ae (iD (Lib.lastIndex s c),[])
abbrev chH(l:List cg)(get:D->Option D)(n:Int)(last:List UInt8)(m k:Int):S:=⟨87,[(3,.mp 0 0),(4,sD last),(17,Ou l),(18,iD m),(19,iD k)],[(0,⟨0,none,.map 9 get n false⟩)]⟩
def mO(l:List cg)(k:Nat)(p:List UInt8):Bool:=p==[]|| (l.take k).any (λe=>e.2.1&&e.1==p)
def nU(l:List cg)(k:Nat):List UInt8:=if k=0 then [] else(l.getD (k-1) ([],false,[])).1
def XE(p:List UInt8):List UInt8:=p.take (max 0 (Lib.lastIndex p [47])).toNat
def hY(l:List cg)(i:Nat)(e:cg):Bool:=
 (dO e.1).1==0&&Lib.validD e.2.2&& !((dO e.1).2==[])&&mO l i (XE e.1)&& !(Op.bytesLess e.1 (nU l i)||e.1==nU l i)&&(!e.2.1 ||e.2.2==[])
def gD(l:List cg):Prop:= ∀i,i<l.length->hY l i (l.getD i ([],false,[]))=true
def SmE(l:List cg):Prop:=l.length<=2000000/\ ∀e∈l,e.1.length<=2000000/\e.2.2.length<=2000000
def I9(get:D->Option D)(f:List UInt8->Bool):Prop:= ∀p,(get (.str p)).isSome=f p/\oH (get (.str p)) (.agg [])= .agg []
def gCh:S->K (PX×S):=λs ae=> ∃l get n last m k,s=chH l get n last m k/\((k=0/\last=[]/\m=(l.map ke).length/\SmE l)/\I9 get λp=>p==[])/\(¬gD l->ae (.ret,⟨87,[(2,iD 80)],[]⟩))/\(gD l->ae (.exit 0,⟨87,[],[]⟩))
def C8:bh:=λps R ae=> ∃l,ps=[Ou l]/\R=[]/\SmE l/\ ∀e,((gD l->e=0)/\(¬gD l->e=80))->ae (iD e,[])
def VD:P:=P.d (D.int .i64 (80:Int))
def K1(ae:P×List (Nat×En)->Prop):Prop:=ae (VD,[])
def Z2i(get:D->Option D)(n:Int):List (Nat×En):=[(0,En.mk 0 none (Obj.map 9 get n false))]
def Ja(ar:List cg):Int:=(↑(List.length (List.map ke ar)):Int)
def r6(ar:List cg):P:=P.d (D.sl 3 (List.map ke ar))
def Z2g:Nat×P:=(3,P.mp 0 0)
theorem XG(l:List cg)(ae:P×List (Nat×En)->Prop):(∃(ar:List cg) (get:D->Option D) (n:Int) (last:List UInt8) (m:Int) (k:Int),S.mk 87 [Z2g,(4,P.d ZO),(17,r6 l),(18,P.d (D.int .i64 (Ja l))),(19,P.d Z3)] [(0,En.mk 0 none (Obj.map 9 (λ(k':D)=>bif D.tY (D.str (Array.toList (ByteArray.data (ByteArray.mk #[])))) k' then some (D.agg []) else(λ(_:D)=>none) k') (1:Int) false))]=S.mk 87 [Z2g,(4,ZV last),(17,r6 ar),(18,P.d (Zm m)),(19,P.d (Zm k))] (Z2i get n)/\((k=(0:Int)/\last=[]/\m=Ja ar/\SmE ar)/\I9 get λ(p:List UInt8)=>p==[])/\(¬gD ar->K1 ae)/\(gD ar->Z4 ae))=(aK [] [(3,ah (aL 16 3) gCh)] 16 [Ou l] []) ae:=by kernel_rfl
def DQ(l:List cg)(k:Int):List UInt8:=D.cm (D.ax (D.nth (List.map ke l) (Zb k)) 0)
def Z2s(l:List cg)(k:Int)(m:Int):List (Nat×P):=[Z2g,(4,P.d (D.str (DQ l k))),(17,r6 l),(18,P.d (Zm m)),(19,P.d (Zh k))]
def Z2q(l:List cg)(k:Int):Bool:=D.eY (D.ax (D.nth (List.map ke l) (Zb k)) 1)
def Z2t(l:List cg)(k:Int)(ae:PX×S->Prop)(m:Int)(get:D->Option D)(n:Int):Prop:=bif Z2q l k then ob (Zd k) (ae (PX.normal,S.mk 87 (Z2s l k m) [(0,En.mk 0 none (Obj.map 9 (λ(k':D)=>bif D.tY (D.str (DQ l k)) k' then some (D.agg []) else get k') (bif Option.isSome (get (D.str (DQ l k))) then n else n+(1:Int)) false))])) else ob (Zd k) (ae (PX.normal,S.mk 87 (Z2s l k m) (Z2i get n)))
def Z2p(ae:PX×S->Prop):Prop:=ae (PX.ret,S.mk 87 [(2,VD)] [])
def Z2r(l:List cg)(k:Int):List UInt8:=D.cm (D.ax (D.nth (List.map ke l) (Zb k)) 2)
noncomputable def XH(l:List cg)(k:Int):Bool:=cT PR (33:TypeId) (D.nth (List.map ke l) (Zb k))
def Z2m(k:Int)(l:List cg):Bool:=decide ((0:Int)<=k/\k<Ja l)
theorem qf6(l:List cg)(get:D->Option D)(n:Int)(last:List UInt8)(m k:Int)(ae:PX×S->Prop):(bif decide (k<m) then ob (Z2m k l) (ob (XH l k) (∃(s:List UInt8),[P.d (D.str (DQ l k))]=ZW s/\Zq/\kc s/\ ∀(ft:Nat) (e:Int) (ar:List (List UInt8)),dO s=(e,ar)->ft=List.length ar-> ∃(s:List UInt8),[P.d (D.str (Z2r l k))]=ZW s/\Zq/\kc s/\ ∀(_ uy:Int),(uy=if Lib.validD s=true then(0:Int) else(60:Int))-> ∃(s:List UInt8) (c:List UInt8),P.d (D.str (DQ l k))::Z1Z=ZV s::ZW c/\Zq/\kc s/\ob (decide ((0:Int)<=max (0:Int) (Lib.lastIndex s c)/\max (0:Int) (Lib.lastIndex s c)<=(↑(List.length (DQ l k)):Int))) (ob (cT PR (116:TypeId) (oH (get (D.str (List.drop 0 (List.take (Int.toNat (max (0:Int) (Lib.lastIndex s c))) (DQ l k))))) (D.agg []))) (bif e !=(0:Int) then Z2p ae else bif uy !=(0:Int) then Z2p ae else bif (↑ft:Int)==(0:Int) then Z2p ae else bif !Option.isSome (get (D.str (List.drop 0 (List.take (Int.toNat (max (0:Int) (Lib.lastIndex s c))) (DQ l k))))) then Z2p ae else bif Op.bytesLess (DQ l k) last ||DQ l k==last then Z2p ae else bif Z2q l k then bif !Z2r l k==[] then Z2p ae else Z2t l k ae m get n else Z2t l k ae m get n)))) else ae (PX.exit 0,S.mk 87 [] []))=(aC [(43,lN),(44,qc5),(45,I8)] [] 16 3 (chH l get n last m k)) ae:=by kernel_rfl
theorem yB{l:List cg}{i:Nat}(h:i<l.length):D.nth (l.map ke) i=ke (l.getD i ([],false,[])):=by rw[aG ke l i h];simp[zab,h]
theorem Rv(e:cg):cT PR 33 (ke e)=true:=by obtain⟨a,b,c⟩:=e;kernel_rfl
theorem qh7:cT PR 116 (.agg [])=true:=by kernel_rfl
theorem XI(s:List UInt8):Lib.lastIndex s [47]<=s.length:=by
 unfold Lib.lastIndex;split
 ·rcases Lib.lastOcc_spec s [47] (s.length-[(47:UInt8)].length+1) with⟨h,_⟩| ⟨i,h1,h2,_⟩
  ·rw[h];omega
  rename_i h3;rw[h2];simp at h1 h3;omega
 omega
theorem K2(a b:List UInt8):D.tY (.str a) (.str b)=(a==b):=rfl
theorem Jb{l:List cg}{k:Nat}(h:k<l.length)(p:List UInt8):mO l (k+1) p=(mO l k p || ((l.getD k ([],false,[])).2.1&&(l.getD k ([],false,[])).1==p)):=by unfold mO;rw[zbo,zac h,zcc];simp only[zab,zac h,zby,zcW,zcX,zc6,zcY,zcZ]
theorem F5(l:List cg)(k:Nat):nU l (k+1)=(l.getD k ([],false,[])).1:=by simp[nU]
section
variable{X:XF}
theorem XJ:FD X 45 I8:=FD.qq Tryz.func45 (by kernel_rfl) (by kernel_rfl) (by rintro ps R ae ⟨s,c,rfl,rfl,hs,hp⟩;exact⟨_,zaq (by omega),hp⟩)
theorem qc6:LD X 16 3 (ah (aL 16 3) gCh):=LD.par (H:=[(43,lN),(44,qc5),(45,I8)]) (hk:=[]) (by kernel_rfl) (by kernel_rfl) (.cons Rm (.cons qf5 (.cons XJ .nil))) .nil
 (A:=List cg×Int) (B:=(D->Option D)×Int×List UInt8×Int) (λa b=>chH a.1 b.1 b.2.1 b.2.2.1 a.2 b.2.2.2)
 (λa b=>(a.2=a.1.length/\SmE a.1)/\(0<=b.2.2.2/\b.2.2.2.toNat<=a.1.length)/\I9 b.1 (mO a.1 b.2.2.2.toNat)/\b.2.2.1=nU a.1 b.2.2.2.toNat/\ ∀i,i<b.2.2.2.toNat->hY a.1 i (a.1.getD i ([],false,[]))=true)
 (λa b=>(a.1.length-b.2.2.2).toNat)
 (λa x=>(gD a.1/\x=(.exit 0,⟨87,[],[]⟩))\/(¬gD a.1/\x=(.ret,⟨87,[(2,iD 80)],[]⟩)))
 (by
  rintro⟨l,m⟩ ⟨get,n,last,k⟩ ⟨⟨hm,hS⟩,⟨kq,r4⟩,hG,oi,gy⟩;dsimp only at*
  (rw[<-qf6];delta Z2i Zb DQ Zh Zm r6 Z2g Z2s Z6 Z5 Zd Z2q Z2t VD Z2p ZV Rj Z1Z Z2r ZX kc Zq ZW XH Ja Z2m)
  simp only[zaa];refine a8 (λh=> ?_) λh=> ?_
  ·have hk:k.toNat<l.length:=by omega
   rw[yB hk];have b9:l.getD k.toNat ([],false,[])∈l:=by simp[zab,hk]
   have Wa:=Jb hk;have hls:=F5 l k.toNat;have qc7:(k+1).toNat=k.toNat+1:=by omega
   have qa7:hY l k.toNat (l.getD k.toNat ([],false,[]))=true-> ∀i,i<k.toNat+1->hY l i (l.getD i ([],false,[]))=true:=λh1 i hi=>by
    by_cases hik:i=k.toNat
    ·rw[hik];exact h1
    exact gy i (by omega)
   have qf7:hY l k.toNat (l.getD k.toNat ([],false,[]))=false-> ¬gD l:=λh1 hc=>by have:=hc k.toNat hk;rw[h1] at this;cases this
   obtain⟨oK,Wc⟩:=hS.2 _ b9;have hS1:=hS.1;generalize l.getD k.toNat ([],false,[])=e at b9 Wa hls qa7 qf7 oK Wc;have v0:D.cm (D.ax (ke e) 0)=e.1:=rfl;have v1:D.eY (D.ax (ke e) 1)=e.2.1:=rfl;have v2:D.cm (D.ax (ke e) 2)=e.2.2:=rfl;rw[v0,v1,v2];have hli:max 0 (Lib.lastIndex e.1 [47])<=(e.1.length:Int):=by have:=XI e.1;omega
   refine aP ⟨kq,by omega⟩ (ao (Rv e) ⟨_,rfl,rfl,oK,λn1 er names ri Oj=>⟨_,rfl,rfl,Wc,λn2 e1 qK=>⟨_,_,rfl,rfl,oK,aP ⟨by omega,hli⟩ ?_⟩⟩⟩);have hup:List.drop 0 (List.take (Int.toNat (max 0 (Lib.lastIndex e.1 [47]))) e.1)=XE e.1:=rfl;rw[hup];obtain⟨g1,g2⟩:=hG (XE e.1);have hg2:(match get (D.str (XE e.1)) with |some x=>x |none=>D.agg [])= .agg []:=by rw[<-g2];cases get (D.str (XE e.1))<;>rfl
   refine ao (by rw[g2];exact qh7) ?_;have bad:hY l k.toNat e=false->(¬gD l/\(PX.ret,S.mk 87 [(2,iD 80)] [])=(PX.ret,S.mk 87 [(2,iD 80)] [])):=λh1=>⟨qf7 h1,rfl⟩
   have qiZ:er≠0->(dO e.1).1≠0:=λh1=>by rw[ri];exact h1
   refine lK (λh1=> .inr (bad ?_)) λh1=>lK (λh2=> .inr (bad ?_)) λh2=>az (λh3=> .inr (bad ?_)) λh3=>az (λh4=> .inr (bad ?_)) λh4=>az (λh5=> .inr (bad ?_)) λh5=> ?_
   ·simp[hY,ri,h1]
   ·have:Lib.validD e.2.2=false:=by
     cases hv:Lib.validD e.2.2 with
     |false=>rfl
     |true=>rw[hv] at qK;exact absurd qK h2
    simp[hY,this]
   ·have:names=[]:=by apply zax;simp at h3;omega
    simp[hY,ri,this]
   ·rw[g1] at h4;simp at h4;simp[hY,h4]
   ·rw[oi] at h5;simp only[hY,h5];simp
   have ok1:(!e.2.1 ||e.2.2==[])=true->hY l k.toNat e=true:=λh6=>by
    have hv:Lib.validD e.2.2=true:=by
     cases hv:Lib.validD e.2.2 with
     |true=>rfl
     |false=>rw[hv] at qK;simp at qK;omega
    have zW:names≠[]:=λh7=>by subst h7;simp at Oj;subst Oj;simp at h3
    rw[g1] at h4;rw[oi] at h5;simp only[hY,ri,h1,hv,h5,h6];simp at h4;simp[h4,zW]
   have step: ∀(get':D->Option D) (n':Int),hY l k.toNat e=true->I9 get' (mO l (k.toNat+1))-> ∃m',m'<(l.length-k).toNat/\ ∃b':(D->Option D)×Int×List UInt8×Int,chH l get' n' e.1 m (k+1)=chH l b'.1 b'.2.1 b'.2.2.1 m b'.2.2.2/\
     ((m=l.length/\SmE l)/\(0<=b'.2.2.2/\b'.2.2.2.toNat<=l.length)/\I9 b'.1 (mO l b'.2.2.2.toNat)/\b'.2.2.1=nU l b'.2.2.2.toNat/\ ∀i,i<b'.2.2.2.toNat->hY l i (l.getD i ([],false,[]))=true)/\m'=(l.length-b'.2.2.2).toNat:=λget' n' h6 h7=>
    ⟨_,(by dsimp only;omega),(get',n',e.1,k+1),rfl,⟨⟨hm,hS⟩,⟨by dsimp only;omega,by dsimp only;omega⟩,by dsimp only;rw[qc7];exact h7,by dsimp only;rw[qc7,hls],by dsimp only;rw[qc7];exact qa7 h6⟩,rfl⟩
   have Jc:e.2.1=true->I9 (λ(k':D)=>bif D.tY (D.str e.1) k' then some (D.agg []) else get k') (mO l (k.toNat+1)):=λh6 p=>by
    obtain⟨q1,q2⟩:=hG p;rw[Wa,h6];simp only[K2,zbf];cases hp:e.1==p with
    |true=>simp[oH]
    |false=>simp[q1];exact q2
   have qf8:e.2.1=false->I9 get (mO l (k.toNat+1)):=λh6 p=>by obtain⟨q1,q2⟩:=hG p;rw[Wa,h6];simp[q1];exact q2
   refine az (λh6=>az (λh7=> .inr (bad ?_)) λh7=>az (λh8=>ao (gB (by omega) (by omega)) (step _ _ (ok1 ?_) (Jc h6))) λh8=> ?_) λh6=>az (λh8=> ?_) λh8=>ao (gB (by omega) (by omega)) (step _ _ (ok1 ?_) (qf8 h6))
   ·simp only[hY,h6];simp at h7;simp[h7]
   ·simp at h7;simp[h7]
   ·rw[h6] at h8;cases h8
   ·rw[h6] at h8;cases h8
   simp[h6]
  refine .inl ⟨λi hi=>gy i (by omega),rfl⟩)
 (by
  rintro st ae ⟨l,get,n,last,m,k,rfl,⟨⟨rfl,rfl,hm,hS⟩,hG⟩,h1,h2⟩;refine⟨(l,m),(get,n,[],0),rfl,⟨⟨by simpa using hm,hS⟩,⟨zbI 0,by simp⟩,λp=> ?_,rfl,λi hi=>by simp at hi⟩,?_⟩
  ·have:=hG p;simpa [mO] using this
  rintro x (⟨h3,rfl⟩| ⟨h3,rfl⟩)
  ·exact h2 h3
  exact h1 h3)
theorem K3:FD X 16 C8:=FD.mk (H:=[]) (hk:=[(3,ah (aL 16 3) gCh)]) (by kernel_rfl) .nil (.cons qc6 .nil) (by
 intro ps R ae hh;obtain⟨l,rfl,rfl,hS,hp⟩:=hh
 (rw[<-XG];delta Z3 Z4 VD K1 Z2i Zm ZV Ja r6 ZO Z2g)
 refine⟨l,_,1,[],_,0,rfl,⟨⟨rfl,rfl,rfl,hS⟩,λp=> ?_⟩,λh=>hp 80 ⟨λh'=>absurd h' h,λ_=>rfl⟩,λh=>hp 0 ⟨λ_=>rfl,λh'=>absurd h h'⟩⟩;simp only[K2];cases p with
 |nil=>exact⟨rfl,rfl⟩
 |cons b r=>exact⟨rfl,rfl⟩)
end
abbrev bO(t0 t1:Option Nat)(p:P)(c:List UInt8):List (Nat×En):=[(0,⟨0,t0,.box 67 [p,.sl 1 0 c.length]⟩),(1,⟨0,t1,u8R c⟩)]
abbrev bN:P:= .d .ni
abbrev bS:P:= .ref 0 0 0
def hCC:bh:=λps R ae=> ∃p c,ps=[bS]/\R=bO (some 0) (some 1) p c/\(p=bN\/p=bS)/\ae (.bI [],bO (some 0) (some 1) bS c)
def hWS:bh:=λps R ae=> ∃p c s,ps=[bS,sD s]/\R=bO (some 0) (some 1) p c/\(p=bN\/p=bS)/\(c.length<=100000000/\s.length<=100000000)/\ ∀c' n,c'=c++s->ae (.bI [iD n,.d .oY],bO (some 0) none bS c')
def hWB:bh:=λps R ae=> ∃p c b,ps=[bS,.d (.int .u8 b)]/\R=bO (some 0) (some 1) p c/\(p=bN\/p=bS)/\(c.length<=100000000/\0<=b/\b<256)/\ ∀c',c'=c++[UInt8.ofNat b.toNat]->ae (.d .oY,bO (some 0) none bS c')
def qf9:bh:=λps R ae=> ∃c,ps=[bS]/\R=bO (some 0) (some 1) bS c/\c≠[]/\ae (sD c,[(0,⟨0,some 0,.box 67 [bS,.sl 1 0 c.length]⟩),(1,⟨0,some 1,.gone⟩)])
def dP:P:=P.ref 0 0 0
def Jd(p:P):Prop:=p=bN\/p=bS
def F6(oA:List UInt8):List (Nat×En):=[(1,En.mk 0 (some 1) (Obj.arr (5:TypeId) false (List.map bD oA)))]
def DR(oA:List UInt8):List P:=[P.sl 1 0 (ZX oA)]
def Z2B(c:List UInt8):List (Nat×En):=(0,En.mk 0 (some 0) (Obj.box (67:TypeId) (P.d D.ni::DR c)))::F6 c
def Je:List P:=[dP]
theorem qga(c s:List UInt8)(ae:P×List (Nat×En)->Prop):(∃(p:P) (oA:List UInt8),Je=Je/\Z2B c=(0,En.mk 0 (some 0) (Obj.box (67:TypeId) (p::DR oA)))::F6 oA/\Jd p/\ob (Ot oA&&aJ (ZX oA+List.length (List.map bD s)) 1) (ae (P.bI [P.d (D.int .i64 (lq s)),P.d D.oY],[(0,En.mk 0 (some 0) (Obj.box (67:TypeId) [dP,P.sl 1 0 (ZX oA+List.length (List.map bD s))])),(1,En.mk 0 none (Obj.arr (5:TypeId) false (Oq oA++List.map bD s)))])))=(aK [(47,hCC)] [] 18 [bS,sD s] (bO (some 0) (some 1) bN c)) ae:=by kernel_rfl
def Ov(c:List UInt8):List (Nat×En):=(0,En.mk 0 (some 0) (Obj.box (67:TypeId) (dP::DR c)))::F6 c
theorem qgb(c s:List UInt8)(ae:P×List (Nat×En)->Prop):(∃(p:P) (oA:List UInt8),Je=Je/\Ov c=(0,En.mk 0 (some 0) (Obj.box (67:TypeId) (p::DR oA)))::F6 oA/\Jd p/\ob (Ot oA&&aJ (ZX oA+List.length (List.map bD s)) 1) (ae (P.bI [P.d (D.int .i64 (lq s)),P.d D.oY],[(0,En.mk 0 (some 0) (Obj.box (67:TypeId) [dP,P.sl 1 0 (ZX oA+List.length (List.map bD s))])),(1,En.mk 0 none (Obj.arr (5:TypeId) false (Oq oA++List.map bD s)))])))=(aK [(47,hCC)] [] 18 [bS,sD s] (bO (some 0) (some 1) bS c)) ae:=by kernel_rfl
theorem qgc(c:List UInt8)(b:Int)(ae:P×List (Nat×En)->Prop):(∃(p:P) (oA:List UInt8),Je=Je/\Z2B c=(0,En.mk 0 (some 0) (Obj.box (67:TypeId) (p::DR oA)))::F6 oA/\Jd p/\ob (Ot oA&&aJ (ZX oA+List.length [D.int .u8 b]) 1) (ae (P.d D.oY,[(0,En.mk 0 (some 0) (Obj.box (67:TypeId) [dP,P.sl 1 0 (ZX oA+List.length [D.int .u8 b])])),(1,En.mk 0 none (Obj.arr (5:TypeId) false (Oq oA++[D.int .u8 b])))])))=(aK [(47,hCC)] [] 20 [bS,.d (.int .u8 b)] (bO (some 0) (some 1) bN c)) ae:=by kernel_rfl
theorem qgd(c:List UInt8)(b:Int)(ae:P×List (Nat×En)->Prop):(∃(p:P) (oA:List UInt8),Je=Je/\Ov c=(0,En.mk 0 (some 0) (Obj.box (67:TypeId) (p::DR oA)))::F6 oA/\Jd p/\ob (Ot oA&&aJ (ZX oA+List.length [D.int .u8 b]) 1) (ae (P.d D.oY,[(0,En.mk 0 (some 0) (Obj.box (67:TypeId) [dP,P.sl 1 0 (ZX oA+List.length [D.int .u8 b])])),(1,En.mk 0 none (Obj.arr (5:TypeId) false (Oq oA++[D.int .u8 b])))])))=(aK [(47,hCC)] [] 20 [bS,.d (.int .u8 b)] (bO (some 0) (some 1) bS c)) ae:=by kernel_rfl
def jN(e:cg):List UInt8:=fu e.1.length++e.1++(if e.2.1=true then [1] else 0::(fu e.2.2.length++e.2.2))
def F7(l:List cg):Prop:=l.length<=2000/\ ∀e∈l,e.1.length<=10000/\e.2.2.length<=10000
abbrev Rw(l:List cg)(c:List UInt8)(m k:Int):S:=⟨43,[(5,bS),(23,Ou l),(24,iD m),(25,iD k)],bO none none bS c⟩
def qc8:S->K (PX×S):=λs ae=> ∃l c m k,s=Rw l c m k/\(k=0/\m=(l.map ke).length/\F7 l/\c.length<=100)/\ ∀c',c'=c++l.flatMap jN->ae (.exit 0,⟨43,[(5,bS)],bO none none bS c'⟩)
def Rx:bh:=λps R ae=> ∃l,ps=[Ou l]/\R=[]/\F7 l/\ ∀s e,((gD l->e=0/\s=fu l.length++l.flatMap jN)/\(¬gD l->e=80/\s=[]))->ae (.bI [sD s,iD e],[])
abbrev hsE:List (FuncId×bh):=[(16,C8),(17,qf1),(18,hWS),(20,hWB),(19,Rr),(21,qf9)]
def Z2G(c':List UInt8):List (Nat×En):=[(0,En.mk 0 none (Obj.box (67:TypeId) (dP::DR c'))),(1,Z27 c')]
def s6:Nat×P:=(5,dP)
def Z2H(k:Int)(ae:PX×S->Prop)(l:List cg)(m:Int)(c':List UInt8):Prop:=ob (Zd k) (ae (PX.normal,S.mk 43 [s6,(23,r6 l),(24,P.d (Zm m)),(25,P.d (Zh k))] (Z2G c')))
def Z2E(oA:List UInt8)(bF:List UInt8):Prop:=ZX oA<=100000000/\ZX bF<=100000000
def Z2I(s:List UInt8):List P:=[dP,P.d (D.str (fu (ZX s)++s))]
theorem qc9(l:List cg)(c:List UInt8)(m k:Int)(ae:PX×S->Prop):(bif decide (k<m) then ob (Z2m k l) (ob (XH l k) (∃(s:List UInt8),[P.d (D.str (DQ l k))]=ZW s/\Zq/\kc s/\ ∃(p:P) (oA:List UInt8) (bF:List UInt8),Z2I s=dP::ZW bF/\Ov c=(0,En.mk 0 (some 0) (Obj.box (67:TypeId) (p::DR oA)))::F6 oA/\Jd p/\Z2E oA bF/\ ∀(c':List UInt8) (_:Int),c'=oA++bF->bif Z2q l k then∃(p:P) (c:List UInt8) (b:Int),[dP,P.d (D.int .u8 (1:Int))]=[dP,P.d (D.int .u8 b)]/\Ov c'=(0,En.mk 0 (some 0) (Obj.box (67:TypeId) (p::DR c)))::F6 c/\Jd p/\(ZX c<=100000000/\(0:Int)<=b/\b<(256:Int))/\ ∀(c':List UInt8),c'=c++[UInt8.ofNat (Zb b)]->Z2H k ae l m c' else∃(p:P) (c:List UInt8) (b:Int),[dP,P.d (D.int .u8 (0:Int))]=[dP,P.d (D.int .u8 b)]/\Ov c'=(0,En.mk 0 (some 0) (Obj.box (67:TypeId) (p::DR c)))::F6 c/\Jd p/\(ZX c<=100000000/\(0:Int)<=b/\b<(256:Int))/\ ∀(c':List UInt8),c'=c++[UInt8.ofNat (Zb b)]-> ∃(s:List UInt8),[P.d (D.str (Z2r l k))]=ZW s/\Zq/\kc s/\ ∃(p:P) (c:List UInt8) (qT:List UInt8),Z2I s=dP::ZW qT/\Ov c'=(0,En.mk 0 (some 0) (Obj.box (67:TypeId) (p::DR c)))::F6 c/\Jd p/\Z2E c qT/\ ∀(c':List UInt8) (_:Int),c'=c++qT->Z2H k ae l m c')) else ae (PX.exit 0,S.mk 43 [s6] (Z2G c)))=(aC hsE [] 8 8 (Rw l c m k)) ae:=by kernel_rfl
def rI:P:=P.sl 1 0 0
theorem qge(l:List cg)(ae:P×List (Nat×En)->Prop):(∃(ar:List cg),[r6 l]=[r6 ar]/\Zq/\SmE ar/\ ∀(e:Int),(gD ar->e=(0:Int))/\(¬gD ar->e=(80:Int))->bif e !=(0:Int) then ae (P.bI (P.d ZO::Zo e),[]) else∃(n:Int),[P.d (D.int .i64 (Ja l))]=Zo n/\Zq/\Z2b n/\ ∃(p:P) (c:List UInt8) (s:List UInt8),[dP,P.d (D.str (fu (Zb n)))]=dP::ZW s/\[(0,En.mk 0 (some 0) (Obj.box (67:TypeId) [P.d D.ni,rI])),(1,En.mk 0 (some 1) (Obj.arr (5:TypeId) false []))]=(0,En.mk 0 (some 0) (Obj.box (67:TypeId) (p::DR c)))::F6 c/\Jd p/\Z2E c s/\ ∀(c':List UInt8) (_:Int),c'=c++s-> ∃(jz:List cg) (c:List UInt8) (m:Int) (k:Int),S.mk 43 [s6,(23,r6 l),(24,P.d (D.int .i64 (Ja l))),(25,P.d Z3)] (Z2G c')=S.mk 43 [s6,(23,r6 jz),(24,P.d (Zm m)),(25,P.d (Zm k))] (Z2G c)/\(k=(0:Int)/\m=Ja jz/\F7 jz/\ZX c<=100)/\ ∀(c':List UInt8),c'=c++List.flatMap jN jz-> ∃(c:List UInt8),Je=Je/\Ov c'=Ov c/\c≠[]/\ae (P.bI (ZV c::ZK),[]))=(aK hsE [(8,ah (aL 8 8) qc8)] 8 [Ou l] []) ae:=by kernel_rfl
theorem K4(c s:List UInt8):List.take c.length (List.map bD c)++List.map bD s=List.map bD (c++s):=by rw[zan (by simp),zaG]
theorem qgf{b:Int}(h0:0<=b)(h1:b<256):D.int .u8 b=bD (UInt8.ofNat b.toNat):=by simp only[bD,D.int.injEq,zcM];simp only[zbL];omega
section
variable{X:XF}
theorem qgg:FD X 47 hCC:=FD.qq Tryz.func47 (by kernel_rfl) (by kernel_rfl) (by
 rintro ps R ae ⟨p,c,rfl,rfl,Nf,hp⟩;rcases Nf with rfl |rfl
 ·exact⟨_,rfl,hp⟩
 exact⟨_,rfl,hp⟩)
theorem qgh:FD X 21 qf9:=FD.qq Tryz.func21 (by kernel_rfl) (by kernel_rfl) (by
 rintro ps R ae ⟨c,rfl,rfl,cU,hp⟩;refine⟨_,?_,hp⟩;have hl:0<c.length:=zbm.2 cU;have e1:WX ((c.map bD).take c.length)=some c:=by rw[zan (by simp)];exact KH c
 have e2:(Nat.beq c.length c.length&&Nat.blt 0 c.length)=true:=by simp[Nat.blt_eq,hl]
 have e3:QE [.ref 0 0 0] (bO (some 0) (some 1) bS c)=(match WX (List.take c.length (List.map bD c)) with
  |some l=>if(Nat.beq l.length c.length&&Nat.blt 0 c.length)=true then some (.d (.str l),[(0,⟨0,some 0,.box 67 [bS,.sl 1 0 c.length]⟩),(1,⟨0,some 1,.gone⟩)]) else none
  |none=>none):=rfl
 show QE [.ref 0 0 0] (bO (some 0) (some 1) bS c)=_;rw[e3,e1];exact zaq e2)
theorem qh8:FD X 18 hWS:=FD.mk (H:=[(47,hCC)]) (hk:=[]) (by kernel_rfl) (.cons qgg .nil) .nil (by
 intro ps R ae hh;obtain⟨p,c,s,rfl,rfl,Nf,⟨hc,hs⟩,hp⟩:=hh;have dA: ∀n,ae (.bI [iD n,.d .oY],[(0,⟨0,some 0,.box 67 [bS,.sl 1 0 (c.length+(List.map bD s).length)]⟩),(1,⟨0,none,.arr 5 false (List.take c.length (List.map bD c)++List.map bD s)⟩)]):=λn=>by rw[K4,zaa];have:=hp (c++s) n rfl;simpa only[bO,u8R,zaj] using this
 rcases Nf with rfl |rfl
 ·(rw[<-qga];delta ZX Oq dP lq Ot Jd F6 DR Z2B Je)
  exact⟨_,c,rfl,rfl,.inl rfl,ao (vM (by simp;omega) (by simp;omega) _ (by simp)) (dA _)⟩
 ·(rw[<-qgb];delta ZX Oq dP lq Ot Jd F6 DR Ov Je)
  exact⟨_,c,rfl,rfl,.inr rfl,ao (vM (by simp;omega) (by simp;omega) _ (by simp)) (dA _)⟩)
theorem qh9:FD X 20 hWB:=FD.mk (H:=[(47,hCC)]) (hk:=[]) (by kernel_rfl) (.cons qgg .nil) .nil (by
 intro ps R ae hh;obtain⟨p,c,b,rfl,rfl,Nf,⟨hc,wC,ji⟩,hp⟩:=hh;have dA:ae (.d .oY,[(0,⟨0,some 0,.box 67 [bS,.sl 1 0 (c.length+[D.int .u8 b].length)]⟩),(1,⟨0,none,.arr 5 false (List.take c.length (List.map bD c)++[D.int .u8 b])⟩)]):=by rw[qgf wC ji];have e:=K4 c [UInt8.ofNat b.toNat];simp only[zaO,zb8] at e;rw[e];have:=hp (c++[UInt8.ofNat b.toNat]) rfl;simp only[bO,u8R,zaj,zam,zay] at this⊢;exact this
 rcases Nf with rfl |rfl
 ·(rw[<-qgc];delta ZX Oq dP Ot Jd F6 DR Z2B Je)
  exact⟨_,c,rfl,rfl,.inl rfl,ao (vM (by simp;omega) (by simp;omega) _ (by simp)) dA⟩
 ·(rw[<-qgd];delta ZX Oq dP Ot Jd F6 DR Ov Je)
  exact⟨_,c,rfl,rfl,.inr rfl,ao (vM (by simp;omega) (by simp;omega) _ (by simp)) dA⟩)
theorem Ry{e:cg}(h:e.1.length<=10000/\e.2.2.length<=10000):(jN e).length<=20020:=by
 have h1:=s5 (n:=e.1.length) (by omega);have h2:=s5 (n:=e.2.2.length) (by omega);unfold jN;split
 ·simp;omega
 simp;omega
theorem K5(l:List cg)(h: ∀e∈l,e.1.length<=10000/\e.2.2.length<=10000):(l.flatMap jN).length<=l.length*20020:=by
 induction l with
 |nil=>simp
 |cons e l ih=>have h1:=Ry (h e (by simp));have h2:=ih (λx hx=>h x (by simp[hx]));simp only[zbB,zaj,zam];omega
theorem Ng{l:List cg}{k:Nat}(h:k<l.length):(l.take (k+1)).flatMap jN=(l.take k).flatMap jN++jN (l.getD k ([],false,[])):=by rw[zbo,zac h,zbu];simp[zab,h]
theorem qgi:HD X hsE:= .cons K3 (.cons qf2 (.cons qh8 (.cons qh9 (.cons Xx (.cons qgh .nil)))))
theorem XK:LD X 8 8 (ah (aL 8 8) qc8):=LD.par (H:=hsE) (hk:=[]) (by kernel_rfl) (by kernel_rfl) qgi .nil
 (A:=List cg×Int×List UInt8) (B:=List UInt8×Int) (λa b=>Rw a.1 b.1 a.2.1 b.2)
 (λa b=>(a.2.1=a.1.length/\F7 a.1/\a.2.2.length<=100)/\(0<=b.2/\b.2.toNat<=a.1.length)/\b.1=a.2.2++(a.1.take b.2.toNat).flatMap jN)
 (λa b=>(a.1.length-b.2).toNat)
 (λa x=>x=(.exit 0,⟨43,[(5,bS)],bO none none bS (a.2.2++a.1.flatMap jN)⟩))
 (by
  rintro⟨l,m,c0⟩ ⟨c,k⟩ ⟨⟨hm,hS,hc0⟩,⟨kq,r4⟩,hc⟩;dsimp only at*
  (rw[<-qc9];delta Z27 ZX DR dP Z2G s6 Zb Z2r Zh Zm r6 Z6 Z5 Zd Z2H Z2q Z2E Jd F6 Ov Z2I kc Zq ZV ZW DQ XH Ja Z2m)
  simp only[zaa];refine a8 (λh=> ?_) λh=> ?_
  ·have hk:k.toNat<l.length:=by omega
   rw[yB hk];have htf:=Ng hk;have b9:l.getD k.toNat ([],false,[])∈l:=by simp[zab,hk]
   obtain⟨oK,Wc⟩:=hS.2 _ b9;have AA:=K5 (l.take k.toNat) (λe he=>hS.2 e (za3 he));have H9:c.length<=50000000:=by rw[hc,zaj];have:=hS.1;rw[zat,zbW (by omega)] at AA;omega
   have hS1:=hS.1;generalize l.getD k.toNat ([],false,[])=e at htf oK Wc;have v0:D.cm (D.ax (ke e) 0)=e.1:=rfl;have v1:D.eY (D.ax (ke e) 1)=e.2.1:=rfl;have v2:D.cm (D.ax (ke e) 2)=e.2.2:=rfl;rw[v0,v1,v2];have n1:=s5 (n:=e.1.length) (by omega);have n2:=s5 (n:=e.2.2.length) (by omega);have step: ∀c',c'=c++jN e-> ∃m',m'<(l.length-k).toNat/\ ∃b':List UInt8×Int,Rw l c' m (k+1)=Rw l b'.1 m b'.2/\
     ((m=l.length/\F7 l/\c0.length<=100)/\(0<=b'.2/\b'.2.toNat<=l.length)/\b'.1=c0++(l.take b'.2.toNat).flatMap jN)/\m'=(l.length-b'.2).toNat:=λc' zm=>
    ⟨_,(by dsimp only;omega),(c',k+1),rfl,⟨⟨hm,hS,hc0⟩,⟨by dsimp only;omega,by dsimp only;omega⟩,by dsimp only;rw[show(k+1).toNat=k.toNat+1 by omega,htf,zm,hc,zaF]⟩,rfl⟩
   refine aP ⟨kq,by omega⟩ (ao (Rv e) ⟨_,rfl,rfl,by omega,_,c,_,rfl,rfl,.inr rfl,⟨by omega,by simp;omega⟩,λc1 _ h1=>az (λhd=> ?_) λhd=> ?_⟩)
   ·have l1:c1.length<=100000000:=by rw[h1];simp;omega
    refine⟨_,c1,1,rfl,rfl,.inr rfl,⟨l1,by decide,by decide⟩,λc2 h2=>ao (gB (by omega) (by omega)) (step c2 ?_)⟩;rw[h2,h1,jN,zaq hd];simp
   have l1:c1.length<=60000000:=by rw[h1];simp;omega
   refine⟨_,c1,0,rfl,rfl,.inr rfl,⟨by omega,by decide,by decide⟩,λc2 h2=>⟨_,rfl,rfl,by omega,_,c2,_,rfl,rfl,.inr rfl,⟨by rw[h2];simp;omega,by simp;omega⟩,λc3 _ h3=>ao (gB (by omega) (by omega)) (step c3 ?_)⟩⟩;rw[h3,h2,h1,jN,zap (by rw[hd];simp)];simp
  have:k.toNat=l.length:=by omega
  rw[this,zag] at hc;subst hc;rfl)
 (by rintro st ae ⟨l,c,m,k,rfl,⟨rfl,hm,hS,hc⟩,hp⟩;refine⟨(l,m,c),(c,0),rfl,⟨⟨by simpa using hm,hS,hc⟩,⟨zbI 0,by simp⟩,by simp⟩,?_⟩;rintro x rfl;exact hp _ rfl)
theorem F7.e{l:List cg}(h:F7 l):SmE l:=⟨by have:=h.1;omega,λe he=>by have:=h.2 e he;omega⟩
theorem qa8:FD X 8 Rx:=FD.mk (H:=hsE) (hk:=[(8,ah (aL 8 8) qc8)]) (by kernel_rfl) qgi (.cons XK .nil) (by
 intro ps R ae hh;obtain⟨l,rfl,rfl,hS,hp⟩:=hh;have hS1:=hS.1
 (rw[<-qge];delta Z3 ZK ZV F6 ZX DR dP Ov Je Zm Z27 Z2G s6 Z2E Jd rI ZW Zb Z2b Ja Zo ZO Zq r6)
 refine⟨l,rfl,rfl,hS.e,λe he=>lK (λh=> ?_) λh=> ?_⟩
 ·have bk: ¬gD l:=λhc=>h (he.1 hc);exact hp [] e ⟨λhc=>absurd hc bk,λhc=>⟨he.2 hc,rfl⟩⟩
 have bC:gD l:=zaK λhc=>by rw[he.2 hc] at h;cases h
 have h9:=s5 (n:=l.length) (by omega);have qcB:=FX l.length;refine⟨_,rfl,rfl,⟨by omega,by simp;omega⟩,bN,[],_,rfl,rfl,.inl rfl,⟨by simp,by simp;omega⟩,λc1 _ h1=>⟨l,c1,_,0,rfl,⟨rfl,rfl,hS,by rw[h1];simp;omega⟩,λc2 h2=>⟨c2,rfl,rfl,?_,hp c2 0 ⟨λ_=>⟨rfl,?_⟩,λhc=>absurd bC hc⟩⟩⟩⟩
 ·intro h0;have:=congrArg List.length h2;rw[h0,h1] at this;simp at this;omega
 rw[h2,h1];simp)
end
def yC(s:List UInt8):Option (cg×List UInt8):=
 match eB s with
 | (e,p,r)=>if e≠0 then none else match r with
  | []=>none
  |b::r'=>if b.toNat=1 then some ((p,true,[]),r') else if b.toNat=0 then(if(eB r').1=0 then some ((p,false,(eB r').2.1),(eB r').2.2) else none) else none
def Rz:bh:=λps R ae=> ∃s,ps=[sD s]/\R=[]/\s.length<=2000000/\(∀e r,yC s=some (e,r)->ae (.bI [.d (ke e),sD r,jU true],[]))/\(yC s=none-> ∀e r,ae (.bI [.d (ke e),sD r,jU false],[]))
def Z2L(ae:P×List (Nat×En)->Prop):Prop:=ae (P.bI (P.d (D.agg [ZO,Z0,ZO])::P.d ZO::IP),[])
theorem qda(s:List UInt8)(ae:P×List (Nat×En)->Prop):(∃(bF:List UInt8),ZW s=ZW bF/\Zq/\kc bF/\ ∀(e:Int) (t r:List UInt8),eB bF=(e,t,r)->bif e !=(0:Int) then Z2L ae else bif r==[] then Z2L ae else ob (On r) (bif decide (qV r>(1:Int)) then Z2L ae else ob (On r) (ob (Z1v r) (bif qV r==(1:Int) then ae (P.bI (P.d (D.agg [D.str t,D.bool (qV r==(1:Int)),ZO])::P.d (D.str (List.drop 1 (List.take (ZX r) r)))::z8),[]) else∃(s:List UInt8),Z1z r=ZW s/\Zq/\kc s/\ ∀(e:Int) (kZ fR:List UInt8),eB s=(e,kZ,fR)->ae (P.bI [P.d (D.agg [D.str t,D.bool (qV r==(1:Int)),D.str kZ]),ZV fR,P.d (D.bool (e==(0:Int)))],[])))))=(aK [(48,I7)] [] 23 [sD s] []) ae:=by kernel_rfl
def mP:Nat->List UInt8->Option (List cg×List UInt8)
 |0,s=>some ([],s)
 |n+1,s=>match yC s with
  |none=>none
  |some (e,r)=>match mP n r with |some (l,r')=>some (e::l,r')|none=>none
abbrev deH(n:Int)(s:List UInt8)(o:List cg)(b:Bool):S:=⟨51,[(4,iD n),(5,sD s),(7,.sl 0 0 o.length),(8,jU b)],[(0,⟨0,none,.arr 33 false (o.map ke)⟩)]⟩
def gDe:S->K (PX×S):=λst ae=> ∃n s b,st=deH n s [] b/\(s.length<=2000000/\0<=n)/\(b=true->(mP n.toNat s=none-> ∀(r:List UInt8) (o:List cg),o.length<=2000000->ae (.exit 0,⟨51,[(5,sD r),(7,.sl 0 0 o.length),(8,jU false)],[(0,⟨0,none,.arr 33 false (o.map ke)⟩)]⟩))/\ ∀(o:List cg) (r:List UInt8),mP n.toNat s=some (o,r)->ae (.exit 0,⟨51,[(5,sD r),(7,.sl 0 0 o.length),(8,jU true)],[(0,⟨0,none,.arr 33 false (o.map ke)⟩)]⟩))/\
 (b=false->ae (.exit 0,⟨51,[(5,sD s),(7,.sl 0 0 0),(8,jU false)],[(0,⟨0,none,.arr 33 false []⟩)]⟩))
def K6(o:List cg):List (Nat×En):=[(0,En.mk 0 none (Obj.arr (33:TypeId) false (List.map ke o)))]
def fX(b:Bool):P:=P.d (D.bool b)
def qW(o:List cg):Nat:=List.length o
def XL(r:List UInt8):Nat×P:=(5,ZV r)
def Z2T(ae:PX×S->Prop)(s:List UInt8)(o:List cg)(b:Bool):Prop:=ae (PX.exit 0,S.mk 51 [XL s,(7,P.sl 0 0 (qW o)),(8,fX b)] (K6 o))
def RA(o:List cg):List D:=List.take (qW o) (List.map ke o)
def Z2O(e:cg):List D:=[D.agg [D.str (Prod.fst e),D.bool (Prod.fst (Prod.snd e)),D.str (Prod.snd (Prod.snd e))]]
def Z2N(o:List cg):Bool:=Nat.ble (qW o) (List.length (List.map ke o))
theorem qgj(n:Int)(s:List UInt8)(o:List cg)(b:Bool)(ae:PX×S->Prop):(bif b then bif decide ((↑(qW o):Int)<n) then∃(bF:List UInt8),ZW s=ZW bF/\Zq/\kc bF/\(∀(e:cg) (r:List UInt8),yC bF=some (e,r)->ob (Z2N o&&aJ (qW o+List.length (Z2O e)) 40) (ae (PX.normal,S.mk 51 [ml n,XL r,(7,P.sl 0 0 (qW o+List.length (Z2O e))),(8,ZC)] [(0,En.mk 0 none (Obj.arr (33:TypeId) false (RA o++Z2O e)))])))/\(yC bF=none-> ∀(_:cg) (r:List UInt8),ae (PX.exit 0,S.mk 51 [XL r,(7,P.sl 0 0 (qW o)),(8,P.d Z0)] (K6 o))) else Z2T ae s o b else Z2T ae s o b)=(aC [(23,Rz)] [] 9 3 (deH n s o b)) ae:=by kernel_rfl
def Z2X(o:List cg):List P:=[P.d (D.sl 3 (RA o))]
def Z2U:En:=En.mk 0 none (Obj.arr (33:TypeId) false [])
def Z2V:List (Nat×En):=[(0,Z2U)]
def Z2W(ae:P×List (Nat×En)->Prop):Prop:=ae (P.bI [ZE,VD],Z2V)
theorem qia(s:List UInt8)(ae:P×List (Nat×En)->Prop):(∃(bF:List UInt8),ZW s=ZW bF/\Zq/\kc bF/\ ∀(e:Int) (n:Nat) (r:List UInt8),bW 0 bF=(e,n,r)-> ∃(ft:Int) (s:List UInt8) (b:Bool),S.mk 51 [(4,P.d (Z1w n)),XL r,(7,ZE),(8,P.d (D.bool (e==(0:Int))))] Z2V=S.mk 51 [ml ft,XL s,(7,ZE),(8,fX b)] Z2V/\(kc s/\(0:Int)<=ft)/\(b=true->(mP (Zb ft) s=none-> ∀(_:List UInt8) (o:List cg),qW o<=2000000->Z2W ae)/\ ∀(o:List cg) (r:List UInt8),mP (Zb ft) s=some (o,r)->bif !r==[] then Z2W ae else∃(l:List cg),Z2X o=[r6 l]/\Zq/\SmE l/\ ∀(e:Int),(gD l->e=(0:Int))/\(¬gD l->e=(80:Int))->bif e !=(0:Int) then Z2W ae else ae (P.bI (P.sl 0 0 (qW o)::ZK),[(0,En.mk 0 none (Obj.arr (33:TypeId) true (List.map ke o)))]))/\(b=false->Z2W ae))=(aK [(22,FZ),(16,C8)] [(3,ah (aL 9 3) gDe)] 9 [sD s] []) ae:=by kernel_rfl
theorem uz(s:List UInt8): ∀i,(bW i s).1=0->(bW i s).2.2.length<s.length:=by
 induction s with
 |nil=>intro i h;cases h
 |cons b r ih=>
  intro i;unfold bW;split
  ·split
   ·intro h;cases h
   intro _;simp
  split
  ·intro h;cases h
  split
  next h=>intro _;have:=ih (i+1) h;simp only[zam];omega
  rename_i h;intro h2;exact absurd h2 h
theorem rJ{s:List UInt8}(h:(eB s).1=0):(eB s).2.2.length<s.length/\(eB s).2.1.length+(eB s).2.2.length<s.length:=by
 unfold eB at h⊢;split
 next h1=>rw[zaq h1] at h;exact absurd h h1
 rename_i h1;rw[zap h1] at h;split
 next h2=>rw[zaq h2] at h;cases h
 rename_i h2;have:=uz s 0 (zaK h1);simp only[zat,za0];omega
theorem F8{s r:List UInt8}{e:cg}(h:yC s=some (e,r)):r.length<s.length/\e.1.length+e.2.2.length<s.length:=by
 unfold yC at h;have hb:= @rJ s;generalize eB s=x at h hb;obtain⟨a,p,q⟩:=x;simp only at h hb;split at h
 ·cases h
 rename_i ha;have hb:=hb (zaK ha);split at h
 ·cases h
 rename_i b q';simp only[zam] at hb;split at h
 ·cases h;simp only[zay];omega
 split at h
 ·split at h
  next h3=>have dM:=rJ h3;cases h;dsimp only;omega
  cases h
 cases h
theorem RB(n:Nat): ∀(s:List UInt8) (l:List cg) (r:List UInt8),mP n s=some (l,r)->l.length+r.length<=s.length/\l.length=n/\ ∀e∈l,e.1.length+e.2.2.length<=s.length:=by
 induction n with
 |zero=>intro s l r h;cases h;simp
 |succ n ih=>
  intro s l r h;unfold mP at h;split at h
  ·cases h
  rename_i e r1 h1;have ht:=F8 h1;split at h
  next l' r' h2=>
   cases h;obtain⟨a1,a2,a3⟩:=ih r1 l' r h2;refine⟨by simp only[zam];omega,by simp[a2],λx hx=> ?_⟩;rcases zas.1 hx with rfl |hx
   ·omega
   have:=a3 x hx;omega
  cases h
section
variable{X:XF}
theorem qdb:FD X 23 Rz:=FD.mk (H:=[(48,I7)]) (hk:=[]) (by kernel_rfl) (.cons XB .nil) .nil (by
 intro ps R ae hh;obtain⟨s,rfl,rfl,hs,h1,h2⟩:=hh
 (rw[<-qda];delta ZV ZX Z1z ZC z8 ZO lq Z1v qV On Z0 IP Z2L kc Zq ZW)
 refine⟨s,rfl,rfl,hs,λa p q hx=> ?_⟩;have hlen:= @rJ s;unfold yC at h1 h2;rw[hx] at h1 h2 hlen;simp only at h1 h2 hlen;refine lK (λha=> ?_) λha=> ?_
 ·rw[zaq ha] at h2;exact h2 rfl ([],false,[]) []
 rw[zap (by simpa using ha)] at h1 h2;have hlen:=hlen ha;cases q with
 |nil=>exact h2 rfl ([],false,[]) []
 |cons b r=>
  simp only[zam] at hlen;have hb:=b.toNat_lt;have g0:List.getD (b::r) 0 (0:UInt8)=b:=rfl;have tk:List.drop 1 (List.take (b::r).length (b::r))=r:=by rw[zag];rfl
  rw[g0,tk];refine jo (by simp) (aP (by simp) (a8 (λh3=> ?_) λh3=>aP (by simp) (aP (by simp only[zam];omega) (az (λh4=> ?_) λh4=>⟨r,rfl,rfl,by omega,λe2 t2 r2 z6=> ?_⟩))))
  ·simp only at h2;rw[zap (by omega),zap (by omega)] at h2;exact h2 rfl ([],false,[]) []
  ·have ji:b.toNat=1:=by simp at h4;omega
   simp only at h1;rw[zaq ji] at h1;rw[ji];exact h1 _ _ rfl
  have wC:b.toNat=0:=by simp at h4;omega
  simp only at h1 h2;rw[zap (by omega),zaq wC,z6] at h1 h2;rw[wC];simp only at h1 h2;by_cases he:e2=0
  ·subst he;exact h1 _ _ rfl
  rw[zap he] at h2;have:((e2==0):Bool)=false:=by simpa using he
  rw[this];exact h2 rfl (p,false,t2) r2)
theorem Nh{s:List UInt8}(n:Nat)(h:yC s=none):mP (n+1) s=none:=by unfold mP;rw[h]
theorem qdc:LD X 9 3 (ah (aL 9 3) gDe):=LD.par (H:=[(23,Rz)]) (hk:=[]) (by kernel_rfl) (by kernel_rfl) (.cons qdb .nil) .nil
 (A:=Int×List UInt8×Bool) (B:=List UInt8×List cg) (λa b=>deH a.1 b.1 b.2 a.2.2)
 (λa b=>(a.2.1.length<=2000000/\0<=a.1)/\(a.2.2=true->b.2.length<=a.1.toNat/\b.2.length+b.1.length<=a.2.1.length/\mP a.1.toNat a.2.1=(match mP (a.1.toNat-b.2.length) b.1 with |some (l,r)=>some (b.2++l,r)|none=>none))/\(a.2.2=false->b.1=a.2.1/\b.2=[]))
 (λ_ b=>b.1.length)
 (λa x=>(a.2.2=true/\ ∃o r,mP a.1.toNat a.2.1=some (o,r)/\x=(.exit 0,⟨51,[(5,sD r),(7,.sl 0 0 o.length),(8,jU true)],[(0,⟨0,none,.arr 33 false (o.map ke)⟩)]⟩))\/
  (a.2.2=true/\ ∃(r:List UInt8) (o:List cg),mP a.1.toNat a.2.1=none/\o.length<=2000000/\x=(.exit 0,⟨51,[(5,sD r),(7,.sl 0 0 o.length),(8,jU false)],[(0,⟨0,none,.arr 33 false (o.map ke)⟩)]⟩))\/
  (a.2.2=false/\x=(.exit 0,⟨51,[(5,sD a.2.1),(7,.sl 0 0 0),(8,jU false)],[(0,⟨0,none,.arr 33 false []⟩)]⟩)))
 (by
  rintro⟨n,s0,b⟩ ⟨s,o⟩ ⟨⟨ML,Vu⟩,hT,hF⟩;dsimp only at*
  (rw[<-qgj];delta K6 fX qW ZV XL Z2T Z0 RA ZC Zm ml Z2O Z2N ZX kc Zq ZW)
  cases b with
  |false=>obtain⟨rfl,rfl⟩:=hF rfl;exact jo rfl (.inr (.inr ⟨rfl,rfl⟩))
  |true=>
   obtain⟨nb,Hm,hd⟩:=hT rfl;refine gh rfl (a8 (λh=> ?_) λh=> ?_)
   ·obtain⟨m,hm⟩: ∃m,n.toNat-o.length=m+1:=⟨n.toNat-o.length-1,by omega⟩
    rw[hm] at hd;refine⟨s,rfl,rfl,by omega,λe r he=> ?_,λhe e r=> ?_⟩
    ·have ht:=F8 he;refine ao (vM (by simp;omega) (by simp;omega) _ (by simp)) ⟨_,?_,(r,o++[e]),?_,⟨⟨ML,Vu⟩,λ_=>⟨?_,?_,?_⟩,λh=>by cases h⟩,rfl⟩
     ·dsimp only;omega
     ·rw[zan (by simp)];simp only[deH,zaG,zaO,zb8,zaj,zam,zay];rfl
     ·simp;omega
     ·simp;omega
     dsimp only;rw[hd,show n.toNat-(o++[e]).length=m by simp;omega];simp only[mP,he];cases mP m r with
     |none=>rfl
     |some x=>simp
    refine .inr (.inl ⟨rfl,r,o,?_,by omega,rfl⟩);rw[hd,Nh m he]
   refine .inl ⟨rfl,o,s,?_,rfl⟩;rw[hd,show n.toNat-o.length=0 by omega];simp[mP])
 (by
  rintro st ae ⟨n,s,b,rfl,⟨hs,hn⟩,h1,h2⟩;refine⟨(n,s,b),(s,[]),rfl,⟨⟨hs,hn⟩,λ_=>⟨by simp,by simp,?_⟩,λ_=>⟨rfl,rfl⟩⟩,?_⟩
  ·simp only[zay,Nat.sub_zero,zaT];cases mP n.toNat s with
   |none=>rfl
   |some x=>rfl
  rintro x (⟨hb,o,r,hd,rfl⟩| ⟨hb,r,o,hd,ho,rfl⟩| ⟨hb,rfl⟩)
  ·exact(h1 hb).2 o r hd
  ·exact(h1 hb).1 hd r o ho
  exact h2 hb)
def rK(s:List UInt8)(l:List cg):Prop:=(bW 0 s).1=0/\mP (bW 0 s).2.1 (bW 0 s).2.2=some (l,[])/\gD l
def RC:bh:=λps R ae=> ∃s,ps=[sD s]/\R=[]/\s.length<=2000000/\(∀l,rK s l->ae (.bI [.sl 0 0 l.length,iD 0],[(0,⟨0,none,.arr 33 true (l.map ke)⟩)]))/\((∀l,¬rK s l)->ae (.bI [.sl 0 0 0,iD 80],[(0,⟨0,none,.arr 33 false []⟩)]))
theorem qa9:FD X 9 RC:=FD.mk (H:=[(22,FZ),(16,C8)]) (hk:=[(3,ah (aL 9 3) gDe)]) (by kernel_rfl) (.cons Ru (.cons K3 .nil)) (.cons qdc .nil) (by
 intro ps R ae hh;obtain⟨s,rfl,rfl,hs,h1,h2⟩:=hh
 (rw[<-qia];delta Z3 ZK r6 qW RA Z2X Z2U Z2V VD ZE Z2W Zb fX Zm ml ZV XL Z1w ZX kc Zq ZW)
 refine⟨s,rfl,rfl,hs,λe n r ht=>⟨n,r,e==0,rfl,⟨?_,by omega⟩,λhb=>⟨λhd r' o _=> ?_,λo r' hd=> ?_⟩,λhb=> ?_⟩⟩
 ·by_cases h0:(bW 0 s).1=0
  ·have:=uz s 0 h0;rw[ht] at this;dsimp only at this;omega
  have:=Nd 0 s h0;rw[ht] at this;simp only[zaL] at this;rw[this.2];simp
 ·refine h2 λl hl=> ?_;have:=hl.2.1;rw[ht] at this;simp only[zbc] at hd;rw[hd] at this;cases this
 ·simp only[zbc] at hd;obtain⟨d1,d2,d3⟩:=RB n r o r' hd;have hrl:r.length<=2000000:=by have:=uz s 0 (by rw[ht];simpa using hb);rw[ht] at this;dsimp only at this;omega
  have uniq: ∀l,rK s l->l=o/\r'=[]:=λl hl=>by have:=hl.2.1;rw[ht] at this;dsimp only at this;rw[hd] at this;cases this;exact⟨rfl,rfl⟩
  refine az (λh=>h2 λl hl=> ?_) λh=> ?_
  ·have:=(uniq l hl).2;rw[this] at h;cases h
  have hr:r'=[]:=by simpa using h
  subst hr;refine⟨o,by rw[zan (by simp)],rfl,⟨by omega,λx hx=>by have:=d3 x hx;omega⟩,λe1 qK=>lK (λh3=>h2 λl hl=> ?_) λh3=> ?_⟩
  ·obtain⟨rfl,_⟩:=uniq l hl;exact h3 (qK.1 hl.2.2)
  have hc:gD o:=zaK λhc=>by rw[qK.2 hc] at h3;cases h3
  exact h1 o ⟨by rw[ht];simpa using hb,by rw[ht];exact hd,hc⟩
 refine h2 λl hl=> ?_;have:=hl.1;rw[ht] at this;dsimp only at this;rw[this] at hb;cases hb)
end
def Jf(s:List UInt8):Prop:=(Lib.decodeL s).1=65533/\(Lib.decodeL s).2=1
def Jg:bh:=λps R ae=> ∃s,ps=[sD s]/\R=[]/\(s≠[]/\s.length<=2000000)/\(Jf s-> ∀c n,ae (.bI [iD c,iD n,jU false],[]))/\(¬Jf s-> ∀(c:Int) (n:Int),n=(Lib.decodeL s).2->1<=n->n.toNat<=s.length->ae (.bI [iD c,iD n,jU true],[]))
def Z3f(s:List UInt8):Int:=(↑(UInt8.toNat (List.getD s 3 (0:UInt8))):Int)
def F9(s:List UInt8):Int:=(↑(UInt8.toNat (List.getD s 2 (0:UInt8))):Int)
def DS(s:List UInt8):Int:=(↑(UInt8.toNat (List.getD s 1 (0:UInt8))):Int)
def Z3d(s:List UInt8):Int:=(qV s-(240:Int))*(64:Int)
def Z3e(s:List UInt8):Int:=(Z3d s+DS s-(128:Int))*(64:Int)
def Z3g(s:List UInt8):Int:=(Z3e s+F9 s-(128:Int))*(64:Int)
def Z3h(s:List UInt8):Int:=Z3g s+Z3f s-(128:Int)
def Z3i(ae:P×List (Nat×En)->Prop)(s:List UInt8):Prop:=ae (P.bI (P.d (D.int .i64 (Z3h s))::P.d (D.int .i64 (4:Int))::z8),[])
def Z38(s:List UInt8):Bool:=decide ((0:Int)<=(1:Int)+(1:Int)/\(1:Int)+(1:Int)<lq s)
def Z33(s:List UInt8):Bool:=decide (DS s>=(192:Int))
def Z32(s:List UInt8):Bool:=decide (DS s<(128:Int))
def Z31(s:List UInt8):Bool:=decide (Z5<=DS s/\DS s<=Z6)
def Z2Z(s:List UInt8):Bool:=decide ((0:Int)<=(1:Int)/\(1:Int)<lq s)
def vR(ae:P×List (Nat×En)->Prop):Prop:=ae (P.bI (P.d Z3::P.d Z3::IP),[])
def Z3j(s:List UInt8)(ae:P×List (Nat×En)->Prop):Prop:=bif decide (qV s>=(240:Int)) then bif decide (qV s<(245:Int)) then ob (decide (Z5<=qV s-(240:Int)/\qV s-(240:Int)<=Z6)) (bif decide (lq s<(4:Int)) then vR ae else ob (Z2Z s) (ob (Z31 s) (bif Z32 s then vR ae else bif Z33 s then vR ae else ob (decide (Z5<=Z3d s/\Z3d s<=Z6)) (ob (decide (Z5<=Z3d s+DS s/\Z3d s+DS s<=Z6)) (ob (decide (Z5<=Z3d s+DS s-(128:Int)/\Z3d s+DS s-(128:Int)<=Z6)) (ob (Z38 s) (ob (decide (Z5<=F9 s/\F9 s<=Z6)) (bif decide (F9 s<(128:Int)) then vR ae else bif decide (F9 s>=(192:Int)) then vR ae else ob (decide (Z5<=Z3e s/\Z3e s<=Z6)) (ob (decide (Z5<=Z3e s+F9 s/\Z3e s+F9 s<=Z6)) (ob (decide (Z5<=Z3e s+F9 s-(128:Int)/\Z3e s+F9 s-(128:Int)<=Z6)) (ob (decide ((0:Int)<=(1:Int)+(1:Int)+(1:Int)/\(1:Int)+(1:Int)+(1:Int)<lq s)) (ob (decide (Z5<=Z3f s/\Z3f s<=Z6)) (bif decide (Z3f s<(128:Int)) then vR ae else bif decide (Z3f s>=(192:Int)) then vR ae else ob (decide (Z5<=Z3g s/\Z3g s<=Z6)) (ob (decide (Z5<=Z3g s+Z3f s/\Z3g s+Z3f s<=Z6)) (ob (decide (Z5<=Z3h s/\Z3h s<=Z6)) (bif decide (Z3h s<(65536:Int)) then vR ae else bif decide (Z3h s>(1114111:Int)) then vR ae else bif decide (Z3h s>=(55296:Int)) then bif decide (Z3h s<(57344:Int)) then vR ae else Z3i ae s else Z3i ae s)))))))))))))))) else vR ae else vR ae
def Z37(s:List UInt8):Int:=(qV s-(224:Int))*(64:Int)
def Z3a(s:List UInt8):Int:=(Z37 s+DS s-(128:Int))*(64:Int)
def Z3b(s:List UInt8):Int:=Z3a s+F9 s-(128:Int)
def Z3c(ae:P×List (Nat×En)->Prop)(s:List UInt8):Prop:=ae (P.bI (P.d (D.int .i64 (Z3b s))::P.d (D.int .i64 (3:Int))::z8),[])
def Z3k(s:List UInt8)(ae:P×List (Nat×En)->Prop):Prop:=bif decide (qV s>=(224:Int)) then bif decide (qV s<(240:Int)) then ob (decide (Z5<=qV s-(224:Int)/\qV s-(224:Int)<=Z6)) (bif decide (lq s<(3:Int)) then vR ae else ob (Z2Z s) (ob (Z31 s) (bif Z32 s then vR ae else bif Z33 s then vR ae else ob (decide (Z5<=Z37 s/\Z37 s<=Z6)) (ob (decide (Z5<=Z37 s+DS s/\Z37 s+DS s<=Z6)) (ob (decide (Z5<=Z37 s+DS s-(128:Int)/\Z37 s+DS s-(128:Int)<=Z6)) (ob (Z38 s) (ob (decide (Z5<=F9 s/\F9 s<=Z6)) (bif decide (F9 s<(128:Int)) then vR ae else bif decide (F9 s>=(192:Int)) then vR ae else ob (decide (Z5<=Z3a s/\Z3a s<=Z6)) (ob (decide (Z5<=Z3a s+F9 s/\Z3a s+F9 s<=Z6)) (ob (decide (Z5<=Z3b s/\Z3b s<=Z6)) (bif decide (Z3b s<(2048:Int)) then vR ae else bif decide (Z3b s>(1114111:Int)) then vR ae else bif decide (Z3b s>=(55296:Int)) then bif decide (Z3b s<(57344:Int)) then vR ae else Z3c ae s else Z3c ae s))))))))))) else Z3j s ae else Z3j s ae
def Z34(s:List UInt8):Int:=(qV s-(192:Int))*(64:Int)
def Z35(s:List UInt8):Int:=Z34 s+DS s-(128:Int)
def Z36(ae:P×List (Nat×En)->Prop)(s:List UInt8):Prop:=ae (P.bI (P.d (D.int .i64 (Z35 s))::P.d (D.int .i64 (2:Int))::z8),[])
theorem XM(s:List UInt8)(ae:P×List (Nat×En)->Prop):(ob (On s) (ob (decide (Z5<=qV s/\qV s<=Z6)) (bif decide (qV s<(128:Int)) then ae (P.bI (P.d (D.int .i64 (qV s))::ZF::z8),[]) else bif decide (qV s>=(194:Int)) then bif decide (qV s<(224:Int)) then ob (decide (Z5<=qV s-(192:Int)/\qV s-(192:Int)<=Z6)) (bif decide (lq s<(2:Int)) then vR ae else ob (Z2Z s) (ob (Z31 s) (bif Z32 s then vR ae else bif Z33 s then vR ae else ob (decide (Z5<=Z34 s/\Z34 s<=Z6)) (ob (decide (Z5<=Z34 s+DS s/\Z34 s+DS s<=Z6)) (ob (decide (Z5<=Z35 s/\Z35 s<=Z6)) (bif decide (Z35 s>(1114111:Int)) then vR ae else bif decide (Z35 s>=(55296:Int)) then bif decide (Z35 s<(57344:Int)) then vR ae else Z36 ae s else Z36 ae s)))))) else Z3k s ae else Z3k s ae)))=(aK [] [] 114 [sD s] []) ae:=by kernel_rfl
abbrev rsH(s:List UInt8)(o:List (List UInt8)):S:=⟨29,[(0,sD s),(4,.sl 0 0 o.length)],[(0,⟨0,none,.arr 9 false (o.map D.str)⟩)]⟩
def XO(bF:List UInt8):Prop:=Lib.validD bF=true
def XP(bF:List UInt8):Prop:=Lib.validD bF=false
def Z3l(bF:List UInt8):S:=S.mk 29 [r5 bF,(4,ZE)] Oo
def Z3o(o:List (List UInt8))(n:Int)(s:List UInt8):Nat:=List.length o+List.length [D.str (List.drop 0 (List.take (Zb n) s))]
theorem qgk(s:List UInt8)(o:List (List UInt8))(ae:PX×S->Prop):(bif decide (lq s>(0:Int)) then∃(bF:List UInt8),ZW s=ZW bF/\Zq/\(bF≠[]/\kc bF)/\(Jf bF-> ∀(_ _:Int),ae (PX.ret,S.mk 29 [(2,ZE),(3,P.d (D.int .i64 (60:Int))),(4,P.sl 1 0 (List.length o))] (Z1L o)))/\(¬Jf bF-> ∀(_ n:Int),n=(↑(Prod.snd (Lib.decodeL bF)):Int)->(1:Int)<=n->Zb n<=ZX bF->ob (Z1E n s) (ob (Nat.ble (List.length o) (KO o)&&aJ (Z3o o n s) 16) (ob (Z1E n s) (ae (PX.normal,S.mk 29 [(0,P.d (D.str (List.drop (Zb n) (List.take (ZX s) s)))),(4,P.sl 0 0 (Z3o o n s))] [(0,En.mk 0 none (Obj.arr (9:TypeId) false (List.take (List.length o) (sT o)++[D.str (List.drop 0 (List.take (Zb n) s))])))]))))) else ae (PX.exit 0,S.mk 29 [(4,Z1X o)] (KU o)))=(aC [(114,Jg)] [] 102 2 (rsH s o)) ae:=by kernel_rfl
def Ga(n b0 b1 b2 b3:Nat):Nat×Nat:=
 if b0<128 then(b0,1) else
 if b0/32=6/\1<n/\b1/64=2 then(if 128<=(b0%32)*64+b1%64 then((b0%32)*64+b1%64,2) else(65533,1)) else
 if b0/16=14/\(1<n/\b1/64=2)/\2<n/\b2/64=2 then(if 2048<=(b0%16)*4096+(b1%64)*64+b2%64/\((b0%16)*4096+(b1%64)*64+b2%64<55296\/57344<=(b0%16)*4096+(b1%64)*64+b2%64/\(b0%16)*4096+(b1%64)*64+b2%64<=1114111) then((b0%16)*4096+(b1%64)*64+b2%64,3) else(65533,1)) else
 if b0/8=30/\(1<n/\b1/64=2)/\(2<n/\b2/64=2)/\3<n/\b3/64=2 then(if 65536<=(b0%8)*262144+(b1%64)*4096+(b2%64)*64+b3%64/\((b0%8)*262144+(b1%64)*4096+(b2%64)*64+b3%64<55296\/57344<=(b0%8)*262144+(b1%64)*4096+(b2%64)*64+b3%64/\(b0%8)*262144+(b1%64)*4096+(b2%64)*64+b3%64<=1114111) then((b0%8)*262144+(b1%64)*4096+(b2%64)*64+b3%64,4) else(65533,1)) else(65533,1)
theorem RD(s:List UInt8)(k:Nat):(ByteArray.mk s.toArray).get! k=s.getD k 0:=by
 show s.toArray.getD k 0=_;simp[Array.getD,zab];split
 next h=>simp[h]
 rename_i h;simp[zbj (by omega:s.length<=k)]
theorem Ni(s:List UInt8):Lib.decodeL s=Ga s.length (s.getD 0 0).toNat (s.getD 1 0).toNat (s.getD 2 0).toNat (s.getD 3 0).toNat:=by
 have hs:(ByteArray.mk s.toArray).size=s.length:=rfl;have hv: ∀c:Nat,Utf8.valid (c:Int)=decide (c<55296\/57344<=c/\c<=1114111):=λc=>by unfold Utf8.valid;rw[zbh];simp only[za1,zad,zal];omega
 unfold Lib.decodeL Utf8.decode Ga;simp only[RD,zaI,hs,hv,zad,zbp,zal,ge_iff_le,Utf8.runeError,and_assoc]
section
variable{X:XF}
theorem XQ:FD X 114 Jg:=FD.mk (H:=[]) (hk:=[]) (by kernel_rfl) .nil .nil (by
 intro ps R ae hh;obtain⟨s,rfl,rfl,⟨cU,hs⟩,h1,h2⟩:=hh
 (rw[<-XM];delta ZC z8 Z3f F9 DS qV Z3d Z3e Z3g Z3h Z3i ZX lq Z38 Z33 Z32 Z6 Z5 Z31 Z2Z Z0 IP Z3 vR Z3j Z37 Z3a Z3b Z3c Z3k Z34 Z35 Z36 ZF On)
 have qcB:0<s.length:=zbm.2 cU;unfold Jf at h1 h2;rw[Ni] at h1 h2;have wC:=(s.getD 0 0).toNat_lt;have ji:=(s.getD 1 0).toNat_lt;have dM:=(s.getD 2 0).toNat_lt;have VE:=(s.getD 3 0).toNat_lt;generalize (s.getD 0 0).toNat=b0 at wC h1 h2;generalize (s.getD 1 0).toNat=b1 at ji h1 h2;generalize (s.getD 2 0).toNat=b2 at dM h1 h2;generalize (s.getD 3 0).toNat=b3 at VE h1 h2;generalize s.length=n at qcB hs h1 h2;have bad:Ga n b0 b1 b2 b3=(65533,1)->ae (.bI [iD 0,iD 0,jU false],[]):=λh=>h1 (by rw[h];exact⟨rfl,rfl⟩) 0 0;have qgl:b0<128-> ∀c,ae (.bI [iD c,iD 1,jU true],[]):=λh c=>by
  have e:Ga n b0 b1 b2 b3=(b0,1):=by unfold Ga;rw[zaq h]
  rw[e] at h2;exact h2 (λh=>by have:=h.1;simp only at this;omega) c 1 rfl (by omega) (by omega)
 have qdd: ∀c (k:Int),(Ga n b0 b1 b2 b3).2=k.toNat->2<=k->k.toNat<=n->ae (.bI [iD c,iD k,jU true],[]):=λc k h3 h4 h5=>h2 (λh=>by rw[h3] at h;omega) c k (by omega) (by omega) h5;clear h1 h2
 repeat' (first |refine aP (by omega) ?_ |refine a8 (λh=> ?_) (λh=> ?_))
 all_goals first
  | (refine bad ?_;unfold Ga;(repeat' split);all_goals first |rfl | (exfalso;omega))
  |exact qgl (by omega) _
  | (refine qdd _ _ ?_ (by omega) (by omega);unfold Ga;(repeat' split);all_goals first |rfl | (exfalso;omega)))
end
def Gb(x y:Int):Int:=if x<y then-1 else if x>y then 1 else 0
def orI(x y:Int):Int:=if x≠0 then x else y
def Gc(t r t' r':Int):Int:=orI (Gb t t') (Gb r r')
def qX(t r i t' r' i':Int):Int:=orI (Gc t r t' r') (Gb i i')
def uA(t r t' r':Int):Bool:=decide (t<t'\/t=t'/\r<r')
abbrev itD(t r i:Int)(p:List UInt8)(d b:Bool):D:= .agg [.int .i64 t,.int .i64 r,.int .i64 i,.str p,.bool d,.bool b]
theorem RE(t r t' r':Int)(ae:P×List (Nat×En)->Prop):(bif decide (t<t') then ae (P.d (D.bool true),[]) else bif t==t' then ae (P.d (D.bool (decide (r<r'))),[]) else ae (P.d (D.bool false),[]))=(aK [] [] 79 [.d (stD t r),.d (stD t' r')] []) ae:=by kernel_rfl
def wQ:bh:=λps R ae=> ∃t r t' r',ps=[.d (stD t r),.d (stD t' r')]/\R=[]/\ae (.d (.bool (uA t r t' r')),[])
def qde:bh:=λps R ae=> ∃t r t' r',ps=[.d (stD t r),.d (stD t' r')]/\R=[]/\ae (.d (.int .i64 (Gc t r t' r')),[])
def iN:bh:=λps R ae=> ∃t r i t' r' i',ps=[.d (Ho t r i),.d (Ho t' r' i')]/\R=[]/\ae (.d (.int .i64 (qX t r i t' r' i')),[])
def r7(ae:P×List (Nat×En)->Prop):Prop:=ae (QY,[])
def Z3p(kZ:Int)(fR:Int)(Gd:Int)(Ge:Int):List P:=[P.d (D.agg (Zm kZ::Zx fR)),P.d (D.agg (Zm Gd::Zx Ge))]
theorem qdf(t r t' r':Int)(ae:P×List (Nat×En)->Prop):(∃(kZ:Int) (fR:Int) (Gd:Int) (Ge:Int),Z3p t r t' r'=Z3p kZ fR Gd Ge/\Zq/\bif uA kZ fR Gd Ge then r7 ae else∃(t_2:Int) (Gf:Int) (qgm:Int) (qgn:Int),Z3p t' r' t r=Z3p t_2 Gf qgm qgn/\Zq/\bif uA t_2 Gf qgm qgn then ae (ZF,[]) else Z4 ae)=(aK [(79,wQ)] [] 81 [.d (stD t r),.d (stD t' r')] []) ae:=by kernel_rfl
theorem RG(t r i t' r' i':Int)(ae:P×List (Nat×En)->Prop):(∃(kZ:Int) (fR:Int) (Gd:Int) (Ge:Int),Z3p t r t' r'=Z3p kZ fR Gd Ge/\Zq/\bif Gc kZ fR Gd Ge !=(0:Int) then ae (P.d (D.int .i64 (Gc kZ fR Gd Ge)),[]) else bif decide (i<i') then r7 ae else bif decide (i>i') then ae (ZF,[]) else Z4 ae)=(aK [(81,qde)] [] 55 [.d (Ho t r i),.d (Ho t' r' i')] []) ae:=by kernel_rfl
theorem RH{ae:P×List (Nat×En)->Prop}{k:IntKind}{a b:Int}{R:List (Nat×En)}(hp:ae (P.d (D.int k a),R))(h:a=b):ae (P.d (D.int k b),R):=h▸hp
theorem yD{ae:P×List (Nat×En)->Prop}{a b:Bool}{R:List (Nat×En)}(hp:ae (P.d (D.bool a),R))(h:a=b):ae (P.d (D.bool b),R):=h▸hp
theorem XR: ∀ps R ae,wQ ps R ae->aK [] [] 79 ps R ae:=by
 intro ps R ae hh;obtain⟨t,r,t',r',rfl,rfl,hp⟩:=hh;rw[<-RE];refine az (λh=> ?_) λh=>az (λh'=> ?_) λh'=> ?_
 ·exact yD hp (by
   have h:t<t':=by simpa using h
   simp[uA,h])
 ·exact yD hp (by
   have h':t=t':=by simpa using h'
   simp[uA,h'])
 exact yD hp (by
  have h: ¬t<t':=by simpa using h
  have h': ¬t=t':=by simpa using h'
  simp[uA,h'];omega)
section
variable{X:XF}
theorem Gg:FD X 79 wQ:=FD.mk (H:=[]) (by kernel_rfl) .nil .nil XR
theorem qdg:FD X 81 qde:=FD.mk (H:=[(79,wQ)]) (by kernel_rfl) (.cons Gg .nil) .nil (by
 intro ps R ae hh;obtain⟨t,r,t',r',rfl,rfl,hp⟩:=hh
 (rw[<-qdf];delta Z3 Z4 ZF QY r7 Zq Zm Zx Z3p)
 refine⟨_,_,_,_,rfl,rfl,az (λh=> ?_) λh=>⟨_,_,_,_,rfl,rfl,az (λh'=> ?_) λh'=> ?_⟩⟩
 all_goals exact RH hp (by simp only[uA,zal,zaM] at*;simp only[Gc,orI,Gb];(repeat' split)<;>omega))
theorem la:FD X 55 iN:=FD.mk (H:=[(81,qde)]) (by kernel_rfl) (.cons qdg .nil) .nil (by
 intro ps R ae hh;obtain⟨t,r,i,t',r',i',rfl,rfl,hp⟩:=hh
 (rw[<-RG];delta Z3 Z4 ZF QY r7 Zq Zm Zx Z3p)
 refine⟨_,_,_,_,rfl,rfl,az (λh=> ?_) λh=>az (λh'=> ?_) λh'=>az (λh''=> ?_) λh''=> ?_⟩
 all_goals exact RH hp (by simp only[bne_iff_ne,bne_eq_false_iff_eq,ne_eq,zal,zaM] at*;simp only[qX,orI,Gb];(repeat' split)<;>omega))
end
abbrev aq:=Int×Int×Int
def cb(x:aq):D:= .agg [.int .i64 x.1,.int .i64 x.2.1,.int .i64 x.2.2]
abbrev da(l:List aq):P:= .d (.sl 3 (l.map cb))
abbrev Pl:=aq×aq×List UInt8×Bool
def eV(p:Pl):D:= .agg [.int .i64 p.1.1,.int .i64 p.1.2.1,.int .i64 p.1.2.2,.int .i64 p.2.1.1,.int .i64 p.2.1.2.1,.int .i64 p.2.1.2.2,.str p.2.2.1,.bool p.2.2.2]
abbrev eC(l:List Pl):P:= .d (.sl 8 (l.map eV))
def qu(p:Pl):Bool:=aY p.1.1 p.1.2.1 p.1.2.2&&bR p.2.2.1
def dz(T:List Pl)(x:aq):Option Pl:=T.find? λp=>p.1==x
def Jh(T:List Pl)(p:Pl):List Pl:=if(dz T p.1).isSome then T else if qu p then T++[p] else T
def ly(l:List Pl):List Pl:=l.foldl Jh []
theorem ia(p:Pl):cT PR 93 (eV p)=true:=by obtain⟨⟨a,b,c⟩,⟨d,e,f⟩,g,h⟩:=p;kernel_rfl
theorem mQ(x:aq):cT PR 50 (cb x)=true:=by obtain⟨a,b,c⟩:=x;kernel_rfl
def s7:Pl:=((0,0,0),(0,0,0),[],false)
theorem iO{l:List Pl}{i:Nat}(h:i<l.length):D.nth (l.map eV) i=eV (l.getD i s7):=by rw[aG eV l i h];simp[zab,h]
theorem qdh{l:List aq}{i:Nat}(h:i<l.length):D.nth (l.map cb) i=cb (l.getD i (0,0,0)):=by rw[aG cb l i h];simp[zab,h]
theorem Ji{α β:Type}(f:β->α->β)(b:β)(l:List α)(d:α)(k:Nat)(h:k<l.length):(l.take (k+1)).foldl f b=f ((l.take k).foldl f b) (l.getD k d):=by rw[zbo,zac h,zbd];simp[zab,h]
section
variable{X:XF}
end
def XS(T:List Pl):Nat->aq->List aq->Option (List aq)
 |0,_,_=>none
 |n+1,x,out=>match dz T x with
  |none=>none
  |some p=>if 0<out.length/\p.2.2.2=false then none else if p.2.1=(0,0,0) then some (out++[x]) else XS T n p.2.1 (out++[x])
def wy(T:List Pl)(x:aq):Option (List aq):=XS T (T.length+1) x []
def lz(x y:aq):Bool:=decide (x.1<y.1\/x.1=y.1/\(x.2.1<y.2.1\/x.2.1=y.2.1/\x.2.2<y.2.2))
theorem ib(x y:aq):qX x.1 x.2.1 x.2.2 y.1 y.2.1 y.2.2<0↔lz x y=true:=by
 unfold lz;simp only[zal,qX,Gc,orI,Gb]
 (repeat' split)<;>omega
structure K7{α:Type}(lt:α->α->Bool):Prop where
 irr: ∀x,lt x x=false
 tr: ∀x y z,lt x y=true->lt y z=true->lt x z=true
 q9: ∀x y,lt x y=false->lt y x=false->x=y
theorem RI:K7 lz where
 irr x:=by simp[lz]
 tr x y z:=by simp only[lz,zal];omega
 q9 x y:=by
  simp only[lz,zaM];intro h1 h2;obtain⟨a,b,c⟩:=x;obtain⟨d,e,f⟩:=y;simp only at h1 h2;have:a=d:=by omega
  have:b=e:=by omega
  have:c=f:=by omega
  subst_vars
  rfl
theorem K7.asymm{α:Type}{lt:α->α->Bool}(h:K7 lt){x y:α}(h1:lt x y=true):lt y x=false:=by
 cases h2:lt y x with
 |false=>rfl
 |true=>have:=h.tr _ _ _ h1 h2;rw[h.irr] at this;cases this
theorem K7.ntr{α:Type}{lt:α->α->Bool}(h:K7 lt){x y z:α}(h1:lt x y=false)(h2:lt y z=false):lt x z=false:=by
 cases h3:lt x z with
 |false=>rfl
 |true=>
  cases h4:lt y x with
  |true=>rw[h.tr _ _ _ h4 h3] at h2;cases h2
  |false=>have:=h.q9 _ _ h1 h4;subst this;rw[h3] at h2;cases h2
theorem mf: ∀x,Op.bytesLess x []=false
 | []=>rfl
 |_::_=>rfl
theorem ic(a b:UInt8)(r s:List UInt8):Op.bytesLess (a::r) (b::s)=(decide (a<b)||a==b&&Op.bytesLess r s):=rfl
theorem jd: ∀x,Op.bytesLess x x=false
 | []=>rfl
 |a::r=>by rw[ic,jd r];simp[UInt8.lt_irrefl]
theorem qY: ∀x y,Op.bytesLess x y=false->Op.bytesLess y x=false->x=y
 | [],[],_,_=>rfl
 | [],_::_,h,_=>by cases h
 |_::_,[],_,h=>by cases h
 |a::r,b::s,h1,h2=>by rw[ic] at h1 h2;simp only[zcN,zaM,Bool.and_eq_false_imp,zbp] at h1 h2;have:a=b:=UInt8.le_antisymm (UInt8.not_lt.1 h2.1) (UInt8.not_lt.1 h1.1);subst this;rw[qY r s (h1.2 rfl) (h2.2 rfl)]
theorem s8: ∀x y z,Op.bytesLess x y=true->Op.bytesLess y z=true->Op.bytesLess x z=true
 |_,y,[],_,h=>by rw[mf] at h;cases h
 |x,[],_::_,h,_=>by rw[mf] at h;cases h
 | [],_::_,_::_,_,_=>rfl
 |a::r,b::s,c::t,h1,h2=>by
  rw[ic] at h1 h2⊢;simp only[za1,zal,zad,zbp] at h1 h2⊢;rcases h1 with h1 | ⟨rfl,h1⟩
  ·rcases h2 with h2 | ⟨rfl,h2⟩
   ·exact .inl (UInt8.lt_trans h1 h2)
   exact .inl h1
  rcases h2 with h2 | ⟨rfl,h2⟩
  ·exact .inl h2
  exact .inr ⟨rfl,s8 r s t h1 h2⟩
theorem K8:K7 Op.bytesLess:=⟨jd,s8,qY⟩
section
variable{α:Type}(lt:α->α->Bool)
def nV(a:α):List α->List α
 | []=>[a]
 |b::r=>if lt a b then b::nV a r else a::b::r
def ct(o:List α)(a:α):List α:=(nV lt a o.reverse).reverse
def cc(l:List α):List α:=l.foldl (ct lt) []
variable{lt}
theorem uB(a:α): ∀l,(nV lt a l).Perm (a::l)
 | []=> .refl _
 |b::r=>by
  unfold nV;split
  ·exact((uB a r).cons b).trans (.swap a b r)
  exact .refl _
theorem gR(o:List α)(a:α):(ct lt o a).Perm (o++[a]):=by unfold ct;refine(zc3 _).trans ((uB a _).trans ?_);exact((zc3 o).cons a).trans (List.perm_append_comm (l₁:=[a]) (l₂:=o))
theorem yE: ∀(l o:List α),(l.foldl (ct lt) o).Perm (o++l)
 | [],o=>by simp
 |a::r,o=>by refine(yE r _).trans ?_;exact((gR o a).append_right r).trans (by simp)
theorem cI(l:List α):(cc lt l).Perm l:=by simpa [cc] using yE (lt:=lt) l []
theorem K9(h:K7 lt)(a:α): ∀l,l.Pairwise (λx y=>lt x y=false)->(nV lt a l).Pairwise (λx y=>lt x y=false)
 | [],_=>by simp[nV]
 |b::r,hp=>by
  unfold nV;have Ol:=zc0.1 hp;split
  next hl=>
   refine zc0.2 ⟨λy hy=> ?_,K9 h a r Ol.2⟩;rcases zas.1 ((uB a r).mem_iff.1 hy) with rfl |hy
   ·exact h.asymm hl
   exact Ol.1 _ hy
  rename_i hl;have hl:lt a b=false:=by simpa using hl
  refine zc0.2 ⟨λy hy=> ?_,hp⟩;rcases zas.1 hy with rfl |hy
  ·exact hl
  exact h.ntr hl (Ol.1 _ hy)
theorem La(h:K7 lt){o:List α}(a:α)(hp:o.Pairwise (λx y=>lt y x=false)):(ct lt o a).Pairwise (λx y=>lt y x=false):=by unfold ct;rw[zcJ];exact K9 h a _ (by rw[zcJ];exact hp)
theorem Gh(h:K7 lt): ∀(l o:List α),o.Pairwise (λx y=>lt y x=false)->(l.foldl (ct lt) o).Pairwise (λx y=>lt y x=false)
 | [],_,hp=>hp
 |a::r,_,hp=>Gh h r _ (La h a hp)
theorem Gj(h:K7 lt)(l:List α):(cc lt l).Pairwise (λx y=>lt y x=false):=Gh h l [] .nil
end
theorem Jj{α β:Type}{lt:β->β->Bool}(h:K7 lt)(key:α->β){a b:List α}(hk: ∀x∈a,∀y∈a,key x=key y->x=y)(hp:a.Perm b)
  (ha:a.Pairwise (λx y=>lt (key y) (key x)=false)) (hb:b.Pairwise (λx y=>lt (key y) (key x)=false)):a=b:=
 List.Perm.eq_of_pairwise (le:=λx y=>lt (key y) (key x)=false) (λx y hx hy h1 h2=>hk x hx y (hp.mem_iff.2 hy) (h.q9 _ _ h2 h1)) ha hb hp
theorem Gk{α β:Type}{lt:β->β->Bool}(key:α->β)(a:α): ∀l:List α,(nV (λx y=>lt (key x) (key y)) a l).map key=nV lt (key a) (l.map key)
 | []=>rfl
 |b::r=>by
  simp only[nV,zaO];split
  ·simp[Gk key a r]
  simp
theorem RJ{α β:Type}{lt:β->β->Bool}(key:α->β)(o:List α)(a:α):(ct (λx y=>lt (key x) (key y)) o a).map key=ct lt (o.map key) (key a):=by unfold ct;rw[zcC,Gk,zcC]
theorem Br{α β:Type}{lt:β->β->Bool}(key:α->β): ∀l o:List α,(l.foldl (ct (λx y=>lt (key x) (key y))) o).map key=(l.map key).foldl (ct lt) (o.map key)
 | [],_=>rfl
 |a::r,o=>by simp only[za4,zaO];rw[Br key r,RJ]
theorem uC{α β:Type}{lt:β->β->Bool}(h:K7 lt)(key:α->β)(l:List α):(cc (λx y=>lt (key x) (key y)) l).Pairwise (λx y=>lt (key y) (key x)=false):=by have e:(cc (λx y=>lt (key x) (key y)) l).map key=cc lt (l.map key):=Br key l [];have:=Gj h (l.map key);rw[<-e,List.pairwise_map] at this;exact this
abbrev aD:aq:=(0,0,0)
inductive Up(T:List Pl):aq->List aq->Prop
 |top {x:aq} {p:Pl} (h:dz T x=some p) (h0:p.2.1=aD):Up T x [x]
 |step {x:aq} {p q:Pl} {w:List aq} (h:dz T x=some p) (h0:p.2.1≠aD) (hq:dz T p.2.1=some q) (hd:q.2.2.2=true) (hw:Up T p.2.1 w):Up T x (x::w)
section
variable{T:List Pl}
theorem du{x:aq}{p:Pl}(h:dz T x=some p):p∈T/\p.1=x:=by unfold dz at h;exact⟨List.mem_of_find?_eq_some h,by simpa using List.find?_some h⟩
theorem Up.one{x:aq}{w:List aq}(h:Up T x w): ∀{w'},Up T x w'->w=w':=by
 induction h with
 |top h h0=>
  intro w' h';cases h' with
  |top=>rfl
  |step h1 h2=>rw[h] at h1;cases h1;exact absurd h0 h2
 |step h h0 hq hd hw ih=>
  intro w' h';cases h' with
  |top h1 h2=>rw[h] at h1;cases h1;exact absurd h2 h0
  |step h1 h2 _ _ h5=>rw[h] at h1;cases h1;rw[ih h5]
theorem Up.hd{x:aq}{w:List aq}(h:Up T x w): ∃r,w=x::r:=by
 cases h with
 |top=>exact⟨_,rfl⟩
 |step=>exact⟨_,rfl⟩
theorem Up.at{x:aq}{w:List aq}(h:Up T x w): ∃p,dz T x=some p:=by
 cases h with
 |top h=>exact⟨_,h⟩
 |step h=>exact⟨_,h⟩
theorem Up.sub{x:aq}{w:List aq}(h:Up T x w): ∀u∈w,∃w',Up T u w'/\w'.length<=w.length/\ ∃v,w=v++w':=by
 induction h with
 |top h h0=>intro u hu;simp at hu;subst hu;exact⟨_,.top h h0,by simp,[],rfl⟩
 | @step x p q w h h0 hq hd hw ih=>
  intro u hu;rcases zas.1 hu with rfl |hu
  ·exact⟨_,.step h h0 hq hd hw,zai _,[],rfl⟩
  obtain⟨w',h1,h2,v,h3⟩:=ih u hu;exact⟨w',h1,by simp;omega,x::v,by rw[h3];rfl⟩
theorem Up.nodup{x:aq}{w:List aq}(h:Up T x w):w.Nodup:=by
 induction h with
 |top=>simp
 | @step x p q w h h0 hq hd hw ih=>refine za8.2 ⟨λhx=> ?_,ih⟩;obtain⟨w',h1,h2,_⟩:=hw.sub x hx;have:=h1.one (.step h h0 hq hd hw);rw[this] at h2;simp at h2;omega
theorem Up.len{x:aq}{w:List aq}(h:Up T x w):w.length<=T.length:=by
 have:w⊆T.map (·.1):=λu hu=>by obtain⟨w',h1,_⟩:=h.sub u hu;obtain⟨p,hp⟩:=h1.at;obtain⟨h2,h3⟩:=du hp;exact zaX.2 ⟨p,h2,h3⟩
 simpa using h.nodup.length_le_of_subset this
theorem RL: ∀(n:Nat) (x:aq) (out l:List aq),XS T n x out=some l->(∀p,0<out.length->dz T x=some p->p.2.2.2=true)-> ∃w,l=out++w/\Up T x w
 |0,_,_,_,h,_=>by cases h
 |n+1,x,out,l,h,hd=>by
  unfold XS at h;cases hp:dz T x with
  |none=>rw[hp] at h;cases h
  |some p=>
   rw[hp] at h;simp only at h;split at h
   ·cases h
   split at h
   ·cases h;exact⟨[x],rfl,.top hp (by assumption)⟩
   rename_i h0 h1;cases hq:dz T p.2.1 with
   |none=>
    cases n with
    |zero=>cases h
    |succ n=>unfold XS at h;rw[hq] at h;cases h
   |some q=>
    have Jc:q.2.2.2=true:=by
     cases n with
     |zero=>cases h
     |succ n=>
      unfold XS at h;rw[hq] at h;simp only at h;split at h
      ·cases h
      rename_i hh;cases hqd:q.2.2.2 with
      |true=>rfl
      |false=>exact absurd ⟨by simp,hqd⟩ hh
    obtain⟨w,e,hw⟩:=RL n p.2.1 (out++[x]) l h λp' _ Ol=>by rw[hq] at Ol;cases Ol;exact Jc
    exact⟨x::w,by rw[e];simp,.step hp h1 hq Jc hw⟩
theorem qdi{x:aq}{w:List aq}(h:Up T x w): ∀(n:Nat) (out:List aq),w.length<=n->(∀p,0<out.length->dz T x=some p->p.2.2.2=true)->XS T n x out=some (out++w):=by
 induction h with
 | @top x p h h0=>
  intro n out hn hd;cases n with
  |zero=>simp at hn
  |succ n=>unfold XS;simp only[h];rw[zap (λhh=>by have:=hd p hh.1 h;rw[hh.2] at this;cases this),zaq h0]
 | @step x p q w h h0 hq Ws hw ih=>
  intro n out hn hd;cases n with
  |zero=>simp at hn
  |succ n=>unfold XS;simp only[h];rw[zap (λhh=>by have:=hd p hh.1 h;rw[hh.2] at this;cases this),zap h0];rw[ih n (out++[x]) (by simp at hn;omega) λp' _ Ol=>by rw[hq] at Ol;cases Ol;exact Ws];simp
theorem C9{x:aq}{w:List aq}:wy T x=some w↔Up T x w:=by
 constructor
 ·intro h;obtain⟨w',e,hw⟩:=RL _ _ _ _ h (λ_ h=>by simp at h);rw[e];exact hw
 intro h;have:=qdi h (T.length+1) [] (by have:=h.len;omega) (λ_ h=>by simp at h);rw[zaT] at this;exact this
def s9(T:List Pl):Nat->aq->Bool
 |0,_=>false
 |n+1,x=>match dz T x with
  |none=>false
  |some p=>if p.2.1=aD then true else match dz T p.2.1 with
   |none=>false
   |some q=>if q.2.2.2=false then false else s9 T n p.2.1
def lb(T:List Pl)(x:aq):Bool:=s9 T (T.length+1) x
theorem Gl: ∀(n:Nat) (x:aq),s9 T n x=true-> ∃w,Up T x w
 |0,_,h=>by cases h
 |n+1,x,h=>by
  unfold s9 at h;cases hp:dz T x with
  |none=>rw[hp] at h;cases h
  |some p=>
   rw[hp] at h;simp only at h;split at h
   ·exact⟨_,.top hp (by assumption)⟩
   rename_i h0;cases hq:dz T p.2.1 with
   |none=>rw[hq] at h;cases h
   |some q=>
    rw[hq] at h;simp only at h;split at h
    ·cases h
    rename_i hd;obtain⟨w,hw⟩:=Gl n _ h;exact⟨_,.step hp h0 hq (by simpa using hd) hw⟩
theorem RM{x:aq}{w:List aq}(h:Up T x w): ∀n,w.length<=n->s9 T n x=true:=by
 induction h with
 | @top x p h h0=>
  intro n hn;cases n with
  |zero=>simp at hn
  |succ n=>unfold s9;simp only[h];rw[zaq h0]
 | @step x p q w h h0 hq hd hw ih=>
  intro n hn;cases n with
  |zero=>simp at hn
  |succ n=>unfold s9;simp only[h,hq];rw[zap h0,zap (by rw[hd];simp)];exact ih n (by simp at hn;omega)
theorem yF{x:aq}:lb T x=true↔ ∃w,Up T x w:=
 ⟨Gl _ _,λ⟨_,h⟩=>RM h _ (by have:=h.len;omega)⟩
def lO(T:List Pl):Nat->aq->aq->Bool
 |0,_,_=>true
 |n+1,x,up=>if x=up then true else match dz T x with
  |none=>false
  |some p=>lO T n p.2.1 up
def within(T:List Pl)(x up:aq):Bool:=lO T (T.length+1) x up
theorem Jk{x:aq}{w:List aq}(h:Up T x w){up:aq}(hu:up≠aD)(h00:dz T aD=none): ∀n,w.length<n->lO T n x up=decide (up∈w):=by
 induction h with
 | @top x p h h0=>
  intro n hn
  match n,hn with
  |n+2,_=>
   unfold lO;simp only[h];split
   next e=>simp[e]
   rename_i e;unfold lO;rw[h0,zap (λh=>hu h.symm)];simp only[h00];simpa using λh:up=x=>e h.symm
  |1,hn=>simp at hn
 | @step x p q w h h0 hq hd hw ih=>
  intro n hn;cases n with
  |zero=>simp at hn
  |succ n=>
   unfold lO;simp only[h];split
   next e=>simp[e]
   rename_i e;rw[ih n (by simp at hn;omega)];have:up≠x:=λh=>e h.symm;simp[this]
def marked(T:List Pl)(live:List aq)(z:aq):Bool:=live.any λx=>match wy T x with |some w=>w.contains z |none=>false
theorem rL{live:List aq}{z:aq}:marked T live z=true↔ ∃x∈live,∃w,Up T x w/\z∈w:=by
 unfold marked;rw[zbG];constructor
 ·rintro⟨x,hx,h⟩;cases hw:wy T x with
  |none=>rw[hw] at h;cases h
  |some w=>rw[hw] at h;exact⟨x,hx,w,C9.1 hw,by simpa using h⟩
 rintro⟨x,hx,w,hw,hz⟩;exact⟨x,hx,by rw[C9.2 hw];simpa using hz⟩
def aQ(T:List Pl)(live:List aq):List Pl:=T.filter λp=>marked T live p.1
theorem ky{live:List aq}{z:aq}(h:marked T live z=true): ∃w,Up T z w/\ ∀u∈w,marked T live u=true:=by obtain⟨x,hx,w,hw,hz⟩:=rL.1 h;obtain⟨w',h1,_,v,h3⟩:=hw.sub z hz;exact⟨w',h1,λu hu=>rL.2 ⟨x,hx,w,hw,by rw[h3];exact zbk _ hu⟩⟩
def mkF(S:List aq):List aq->List aq
 | []=>S
 |u::r=>if u∈S then S else mkF (S++[u]) r
def UpC(T:List Pl)(S:List aq):Prop:= ∀z∈S,∃w,Up T z w/\ ∀u∈w,u∈S
theorem XT{x:aq}{w:List aq}(h:Up T x w): ∀{S:List aq},(∀u∈w,u∈S-> ∀w',Up T u w'-> ∀z∈w',z∈S)-> ∀z,z∈mkF S w↔z∈S\/z∈w:=by
 induction h with
 | @top x p h h0=>
  intro S hC z;unfold mkF;split
  next hx=>exact⟨.inl,λh=>h.elim id λhz=>by simp at hz;exact hz▸hx⟩
  simp[mkF]
 | @step x p q w h h0 hq hd hw ih=>
  intro S hC z;unfold mkF;split
  next hx=>exact⟨.inl,λhz=>hz.elim id λhz=>hC x (by simp) hx _ (.step h h0 hq hd hw) z hz⟩
  rename_i hx;have hn:=(Up.step h h0 hq hd hw).nodup;have hxw:x∉w:=(za8.1 hn).1;rw[ih (λu hu hS w' pJ z hz=>by
   have hS':u∈S:=by
    rcases zaB.1 hS with h |h
    ·exact h
    simp at h;subst h;exact absurd hu hxw
   exact zbe _ (hC u (by simp[hu]) hS' w' pJ z hz))]
  simp[or_assoc]
theorem UpC.in{S:List aq}(h:UpC T S){z:aq}(hz:z∈S){w:List aq}(hw:Up T z w): ∀u∈w,u∈S:=by obtain⟨w',h1,h2⟩:=h z hz;rw[hw.one h1];exact h2
theorem UpC.mk{x:aq}{w:List aq}(h:Up T x w){S:List aq}(hS:UpC T S):UpC T (mkF S w)/\ ∀z,z∈mkF S w↔z∈S\/z∈w:=by
 have hm:=XT h (S:=S) λu _ hu w' pJ=>hS.in hu pJ;refine⟨λz hz=> ?_,hm⟩;rcases(hm z).1 hz with hz |hz
 ·obtain⟨w',h1,h2⟩:=hS z hz;exact⟨w',h1,λu hu=>(hm u).2 (.inl (h2 u hu))⟩
 obtain⟨w',h1,_,v,h3⟩:=h.sub z hz;exact⟨w',h1,λu hu=>(hm u).2 (.inr (by rw[h3];exact zbk _ hu))⟩
def RN(T:List Pl)(live:List aq):List aq:=(aQ T live).map (·.1)
def Uq(T:List Pl):Prop:=(T.map (·.1)).Nodup
theorem tc(hu:Uq T){p:Pl}(hp:p∈T):dz T p.1=some p:=by
 unfold dz;unfold Uq at hu
 induction T with
 |nil=>cases hp
 |cons a r ih=>
  rw[zaO,za8] at hu;rw[List.find?_cons];rcases zas.1 hp with rfl |hp
  ·simp
  have:(a.1==p.1)=false:=by simp only[zbQ,ne_eq];exact λe=>hu.1 (e▸zbt hp)
  rw[this];exact ih hu.2 hp
theorem vS(hu:Uq T)(live:List aq):(RN T live).Nodup:=
 List.Nodup.sublist (zco.map _) hu
end
abbrev aO:=Int×Int
structure bs where
 kind:Int
 node:aq
 parent:aq
 name:List UInt8
 dir:Bool
 db:List aO
 after:aq
 elem:aq
 text:List UInt8
 elems:List aq
structure av where
 s:aO
 n:Int
 deps:List Int
 lA:aO
 ops:List bs
abbrev r8(a b:aO):Bool:=uA a.1 a.2 b.1 b.2
abbrev RO(a:aO):Bool:=C0 a.1 a.2
abbrev rgX(x:aq):Bool:=aY x.1 x.2.1 x.2.2
abbrev Nj(x:aq):aO:=(x.1,x.2.1)
def rM(n:Nat)(f:Nat->Bool):Bool:=(List.range n).all f
theorem Gm{n:Nat}{f:Nat->Bool}:rM n f=true↔ ∀i,i<n->f i=true:=by simp[rM]
theorem RP{n i:Nat}{f:Nat->Bool}(hi:i<n)(h:f i=false):rM n f=false:=by
 cases hh:rM n f with
 |false=>rfl
 |true=>rw[Gm.1 hh i hi] at h;cases h
theorem Da{n:Nat}{f:Nat->Bool}(h: ∀i,i<n->f i=true):rM n f=true:=Gm.2 h
def cJ(s:aO)(k:Int)(x:aq):Bool:=rgX x&&(r8 (Nj x) s ||Nj x==s&&decide (x.2.2<k))
def rN(s:aO)(k:Int)(x:aq):Bool:=x==aD ||cJ s k x
def wm(s:aO)(l:List aO)(i:Nat):Bool:=RO (l.getD i (0,0))&& !r8 s (l.getD i (0,0))&&(i==0 ||r8 (l.getD (i-1) (0,0)) (l.getD i (0,0)))
def tf(s:aO)(l:List aO):Bool:=rM l.length (wm s l)&&decide (l.length<=200)
def RQ(s:aO)(k:Int)(l:List aq)(i:Nat):Bool:=cJ s k (l.getD i aD)&&(i==0 ||lz (l.getD (i-1) aD) (l.getD i aD))
def Db(s:aO)(k:Int)(l:List aq):Bool:=rM l.length (RQ s k l)&&decide (1<=l.length/\l.length<=2000)
def mR(o:bs)(place dir db run elems:Bool):Bool:=
 (place ||o.parent==aD&&o.name==[])&&(dir || !o.dir)&&(db ||o.db.length==0)&&(run ||o.after==aD&&o.elem==aD&&o.text==[])&&(elems ||o.elems.length==0)
def jr(o:bs):Bool:=mR o (o.kind==0 ||o.kind==1) (o.kind==0) (o.kind==2) (o.kind==3) (o.kind==4)
def Gn(s:List UInt8):Int:=Lib.runeCount ⟨⟨s⟩⟩
def ti(s:List UInt8):Bool:=Lib.validD s&&decide (1<=Gn s/\Gn s<=2000)
def mS(s:aO)(k:Int)(o:bs):Option Int:=
 if jr o=false then none
 else if o.kind=0 then(if o.node=(s.1,s.2,k)/\rN s k o.parent=true/\bR o.name=true then some 1 else none)
 else if o.kind=1 then(if cJ s k o.node=true/\rN s k o.parent=true/\bR o.name=true then some 0 else none)
 else if o.kind=2 then(if cJ s k o.node=true/\tf s o.db=true then some 0 else none)
 else if o.kind=3 then(if cJ s k o.node=true/\rN s k o.after=true/\o.elem=(s.1,s.2,k)/\ti o.text=true then some (Gn o.text) else none)
 else if o.kind=4 then(if cJ s k o.node=true/\Db s k o.elems=true then some 0 else none)
 else none
def nW(s:aO):Int->List bs->Bool
 |_,[]=>true
 |k,o::r=>match mS s k o with |some n=>nW s (k+n) r |none=>false
def hdG(g:av):Bool:=RO g.s&&decide (1<=g.n/\g.n<=1099511627776)&&dN g.deps&&(e7 g.deps g.s.2==g.n-1)
def dC(g:av):Bool:=hdG g&&(if g.lA≠(0,0) then RO g.lA&&r8 g.lA g.s&&g.ops.length==0 else decide (1<=g.ops.length/\g.ops.length<=200)&&nW g.s 0 g.ops)
def Dc:Nat->List UInt8->List (List UInt8)
 |0,_=>[]
 |n+1,s=>if s=[] then [] else s.take (Lib.decodeL s).2::Dc n (s.drop (Lib.decodeL s).2)
def Gp(s:List UInt8):List (List UInt8):=Dc s.length s
theorem tj{s:List UInt8}(h:s≠[]):1<=(Lib.decodeL s).2:=by refine Lib.decode_width_pos ⟨s.toArray⟩ 0 ?_;exact zbm.2 h
theorem uD: ∀(n m:Nat) (s:List UInt8),s.length<=n->s.length<=m->Dc n s=Dc m s
 |0,0,_,_,_=>rfl
 |0,m+1,s,h,_=>by have:s=[]:=zax (by omega);subst this;rfl
 |n+1,0,s,_,h=>by have:s=[]:=zax (by omega);subst this;rfl
 |n+1,m+1,s,h1,h2=>by
  unfold Dc;split
  ·rfl
  rename_i cU;have:=tj cU;have hl:0<s.length:=zbm.2 cU;rw[uD n m _ (by rw[za0];omega) (by rw[za0];omega)]
theorem XU:Gp []=[]:=rfl
theorem yG{s:List UInt8}(h:s≠[]):Gp s=s.take (Lib.decodeL s).2::Gp (s.drop (Lib.decodeL s).2):=by have hl:0<s.length:=zbm.2 h;have:=tj h;unfold Gp;rw[uD s.length ((s.length-1)+1) s (zai _) (by omega)];show(if s=[] then [] else _)=_;rw[zap h];rw[uD (s.length-1) (s.drop (Lib.decodeL s).2).length _ (by rw[za0];omega) (zai _)]
theorem XV{s:List UInt8}(h:s≠[]):Lib.runeCount ⟨s.toArray⟩=1+Lib.runeCount ⟨(s.drop (Lib.decodeL s).2).toArray⟩:=by
 have hl:0<s.length:=zbm.2 h;have hp:=tj h;have hle:=Lib.decodeL_le s h;have hs:(ByteArray.mk s.toArray).size=s.length:=rfl;have e1:Lib.runeCount ⟨s.toArray⟩=Lib.runeCountFrom ⟨s.toArray⟩ ((s.length-1)+1) 0:=by unfold Lib.runeCount;exact Lib.fuel_enough _ _ _ _ (by omega) (by omega)
 rw[e1];unfold Lib.runeCountFrom;rw[zaq (by rw[hs];exact hl)];have ex:(ByteArray.mk (s.drop (Lib.decodeL s).2).toArray)=(ByteArray.mk s.toArray).extract (Lib.decodeL s).2 (ByteArray.mk s.toArray).size:=by apply ByteArray.ext;simp[ByteArray.data_extract,hs];rw[<-za0,zag]
 have e2:Lib.runeCount ⟨(s.drop (Lib.decodeL s).2).toArray⟩=Lib.runeCountFrom ⟨s.toArray⟩ (s.length-(Lib.decodeL s).2) (Lib.decodeL s).2:=by
  unfold Lib.runeCount;have hz:(ByteArray.mk (s.drop (Lib.decodeL s).2).toArray).size=s.length-(Lib.decodeL s).2:=by show(s.drop (Lib.decodeL s).2).toArray.size=_;simp
  rw[hz,ex,Lib.tail_count];rfl
 rw[e2];show 1+Lib.runeCountFrom _ (s.length-1) (0+(Lib.decodeL s).2)=_;rw[zaI];congr 1;exact Lib.fuel_enough _ _ _ _ (by omega) (by omega)
theorem Jl: ∀(n:Nat) (s:List UInt8),s.length<=n->Lib.runeCount ⟨s.toArray⟩=(Gp s).length
 |0,s,h=>by have:s=[]:=zax (by omega);subst this;rfl
 |n+1,s,h=>by
  by_cases hs:s=[]
  ·subst hs;rfl
  have:=tj hs;have hl:0<s.length:=zbm.2 hs;rw[XV hs,yG hs,zam,Jl n _ (by rw[za0];omega)];omega
theorem Gq(s:List UInt8):Gn s=((Gp s).length:Nat):=by unfold Gn;rw[<-Jl s.length s (zai _)]
theorem Lb(s:List UInt8):(Gp s).length<=s.length:=by rw[<-Jl s.length s (zai _)];exact Lib.runeCount_le _
def qdj:S->K (PX×S):=λst ae=> ∃s,st=rsH s []/\s.length<=2000000/\(Lib.validD s=false-> ∀o:List (List UInt8),ae (.ret,⟨29,[(2,.sl 0 0 0),(3,iD 60),(4,.sl 1 0 o.length)],[(0,⟨0,none,.arr 9 false []⟩),(1,⟨0,none,.arr 9 false (o.map D.str)⟩)]⟩))/\(Lib.validD s=true-> ∀o:List (List UInt8),o=Gp s->ae (.exit 0,⟨29,[(4,.sl 0 0 o.length)],[(0,⟨0,none,.arr 9 false (o.map D.str)⟩)]⟩))
def tq:bh:=λps R ae=> ∃s,ps=[sD s]/\R=[]/\s.length<=2000000/\(Lib.validD s=false->ae (.bI [.sl 0 0 0,iD 60],[(0,⟨0,none,.arr 9 false []⟩)]))/\(Lib.validD s=true-> ∀o:List (List UInt8),o=Gp s->ae (.bI [.sl 0 0 o.length,iD 0],[(0,⟨0,none,.arr 9 false (o.map D.str)⟩)]))
def RR:bh:=λps R ae=> ∃s,ps=[sD s]/\R=[]/\s.length<=2000000/\(Lib.validD s=false->ae (.bI [iD 0,iD 60],[]))/\(Lib.validD s=true-> ∀n,n=Gn s->ae (.bI [iD n,iD 0],[]))
theorem qgo(s:List UInt8)(ae:P×List (Nat×En)->Prop):(∃(bF:List UInt8),Z3l s=Z3l bF/\kc bF/\(XP bF-> ∀(_:List (List UInt8)),ae (P.bI (ZE::Z2f),Oo))/\(XO bF-> ∀(o:List (List UInt8)),o=Gp bF->ae (P.bI (Z1X o::ZK),KU o)))=(aK [] [(2,ah (aL 102 2) qdj)] 102 [sD s] []) ae:=by kernel_rfl
theorem qgp(s:List UInt8)(ae:P×List (Nat×En)->Prop):(∃(bF:List UInt8),ZW s=ZW bF/\Zq/\kc bF/\(XP bF->ae (P.bI (P.d Z3::Z2f),[]))/\(XO bF-> ∀(o:List (List UInt8)),o=Gp bF->ae (P.bI (P.d (D.int .i64 (ZZ o))::ZK),[])))=(aK [(102,tq)] [] 99 [sD s] []) ae:=by kernel_rfl
section
variable{X:XF}
theorem XW:LD X 102 2 (ah (aL 102 2) qdj):=LD.par (H:=[(114,Jg)]) (hk:=[]) (by kernel_rfl) (by kernel_rfl) (.cons XQ .nil) .nil
 (A:=List UInt8) (B:=List UInt8×List (List UInt8)) (λ_ b=>rsH b.1 b.2)
 (λa b=>a.length<=2000000/\b.1.length+b.2.length<=a.length/\Lib.validD b.1=Lib.validD a/\b.2++Gp b.1=Gp a)
 (λ_ b=>b.1.length)
 (λa x=>(Lib.validD a=false/\ ∃o:List (List UInt8),x=(.ret,⟨29,[(2,.sl 0 0 0),(3,iD 60),(4,.sl 1 0 o.length)],[(0,⟨0,none,.arr 9 false []⟩),(1,⟨0,none,.arr 9 false (o.map D.str)⟩)]⟩))\/(Lib.validD a=true/\ ∃o:List (List UInt8),o=Gp a/\x=(.exit 0,⟨29,[(4,.sl 0 0 o.length)],[(0,⟨0,none,.arr 9 false (o.map D.str)⟩)]⟩)))
 (by
  rintro a ⟨s,o⟩ ⟨ha,hl,hv,hpc⟩;dsimp only at*
  (rw[<-qgk];delta sT KU Z1X Zb Z3o KO ZX lq Z1E Hr Re Z1L ZE kc Zq ZV ZW)
  refine a8 (λh=> ?_) λh=> ?_
  ·have cU:s≠[]:=λe=>by subst e;simp at h
   have jy:=Lib.validD_step s cU;refine⟨s,rfl,rfl,⟨cU,by omega⟩,λhb c n=> .inl ⟨?_,o,rfl⟩,λhb c n hn h1 hle=> ?_⟩
   ·unfold Jf at hb;rw[<-hv,jy,zaq hb]
   unfold Jf at hb;rw[zap hb] at jy;refine aP (by omega) (ao (vM (by simp;omega) (by simp;omega) _ (by simp)) (aP (by omega) ?_));refine⟨_,?_,(s.drop n.toNat,o++[s.take n.toNat]),?_,⟨ha,?_,?_,?_⟩,rfl⟩
   ·dsimp only;rw[za0];omega
   ·rw[zag,zan (l:=List.map D.str o) (by simp),zbn];simp only[rsH,zaG,zaO,zb8,zaj,zam,zay]
   ·dsimp only;rw[za0,zaj];simp;omega
   ·dsimp only;rw[<-hv,jy,hn];rfl
   dsimp only;rw[<-hpc,yG cU,zaF,hn];rfl
  have:s=[]:=zax (by omega);subst this;exact .inr ⟨hv.symm.trans Lib.validD_nil,o,by rw[<-hpc,XU,zbl],rfl⟩)
 (by
  rintro st ae ⟨s,rfl,hs,h1,h2⟩;refine⟨s,(s,[]),rfl,⟨hs,by simp,rfl,rfl⟩,?_⟩;rintro x (⟨h3,o,rfl⟩| ⟨h3,o,h4,rfl⟩)
  ·exact h1 h3 o
  exact h2 h3 o h4)
theorem Gr:FD X 102 tq:=FD.mk (H:=[]) (hk:=[(2,ah (aL 102 2) qdj)]) (by kernel_rfl) .nil (.cons XW .nil) (by
 intro ps R ae hh;obtain⟨s,rfl,rfl,hs,h1,h2⟩:=hh
 (rw[<-qgo];delta sT KU Z3 ZK Z1X XO Re Oo Z2f ZE XP ZX kc ZV r5 Z3l)
 exact⟨s,rfl,hs,λh o=>h1 h,λh o=>h2 h o⟩)
theorem XX:FD X 99 RR:=FD.mk (H:=[(102,tq)]) (hk:=[]) (by kernel_rfl) (.cons Gr .nil) .nil (by
 intro ps R ae hh;obtain⟨s,rfl,rfl,hs,h1,h2⟩:=hh
 (rw[<-qgp];delta Z3 ZK ZZ XO Z2f XP ZX kc Zq ZV ZW)
 refine⟨s,rfl,rfl,hs,λh=>h1 h,λh o ho=>h2 h _ ?_⟩;rw[ho,Gq])
end
def Jm{α:Type}(t:α->Bool)(l:List α):Int:=match l.findIdx? t with |some i=>(i:Int)|none=> -1
theorem RS{α:Type}{t:α->Bool}{l:List α}{i:Nat}(hi:i<l.length)(ht:t l[i]=true)(hb: ∀j (hj:j<i),t (l[j]'(by omega))=false):Jm t l=(i:Int):=by unfold Jm;rw[zbM.2 ⟨hi,ht,λj hj=>by rw[hb j hj];simp⟩]
theorem XY{α:Type}{t:α->Bool}{l:List α}(h: ∀j (hj:j<l.length),t l[j]=false):Jm t l= -1:=by unfold Jm;rw[zb4.2 λx hx=>by obtain⟨j,hj,rfl⟩:=zaN hx;exact h j hj]
theorem Gs{α:Type}(t:α->Bool)(l:List α):Jm t l<0↔l.any t=false:=by
 unfold Jm;split
 next i h=>
  obtain⟨hi,ht,_⟩:=zbM.1 h;constructor
  ·intro h;omega
  intro h2;rw[zcw] at h2;exact absurd ht (h2 _ (zar hi))
 rename_i h;refine⟨λ_=> ?_,λ_=>by omega⟩;rw[zcw];intro x hx;have:=(zb4.1 h) x hx;simp[this]
variable{X:XF}
theorem LD.idx{H:List (FuncId×bh)}{hk:List (Nat×(S->K (PX×S)))}{f id:Nat}{g:S->K (PX×S)}(hu:uniq PR f=true)(hc:b8 (qS f) (bE PR f id)=true)(hH:HD X H)(hl:QI X f hk)
  {A B:Type} (hd:A->B->Int->S) (len:A->Nat) (Inv:A->Nat->B->Prop) (Out:A->PX×S->Prop)
  (hr: ∀a b (k:Int) ae,0<=k->k<len a->k.toNat<len a->Inv a k.toNat b->(∀b',Inv a (k.toNat+1) b'->ae (.normal,hd a b' (k+1)))->(∀x,x.1≠ .normal->Out a x->ae x)->aC H hk f id (hd a b k) ae)
  (hx: ∀a b (k:Int) ae,k=len a->Inv a (len a) b->(∀x,x.1≠ .normal->Out a x->ae x)->aC H hk f id (hd a b k) ae)
  (hg: ∀s ae,g s ae-> ∃a b,s=hd a b 0/\Inv a 0 b/\ ∀x,Out a x->ae x):LD X f id (ah (aL f id) g):=
 LD.par hu hc hH hl (A:=A) (B:=B×Int) (λa b=>hd a b.1 b.2) (λa b=>0<=b.2/\b.2.toNat<=len a/\Inv a b.2.toNat b.1) (λa b=>(len a-b.2).toNat) Out
  (by
   rintro a ⟨b,k⟩ ⟨h1,h2,h3⟩;dsimp only at*
   have aW: ∀x:PX×S,x.1≠ .normal->Out a x->roundPost ((len a-k).toNat) (λm s=> ∃b':B×Int,s=hd a b'.1 b'.2/\(0<=b'.2/\b'.2.toNat<=len a/\Inv a b'.2.toNat b'.1)/\m=(len a-b'.2).toNat) (Out a) x:=by
    rintro⟨e,s⟩ cU hx;cases e with
    |normal=>exact absurd rfl cU
    |exit i=>exact hx
    |ret=>exact hx
   by_cases hk:k<len a
   ·refine hr a b k _ h1 hk (by omega) h3 (λb' hb=> ?_) aW;exact⟨((len a:Int)-(k+1)).toNat,by omega,(b',k+1),rfl,⟨by show 0<=k+1;omega,by show(k+1).toNat<=len a;omega,by show Inv a (k+1).toNat b';rw[show(k+1).toNat=k.toNat+1 by omega];exact hb⟩,rfl⟩
   have e:k=len a:=by omega
   refine hx a b k _ e ?_ aW;have:k.toNat=len a:=by omega
   rwa [this] at h3)
  (by intro s ae hp;obtain⟨a,b,h1,h2,h3⟩:=hg s ae hp;exact⟨a,(b,0),h1,⟨zbI _,by simp,h2⟩,h3⟩)
theorem LD.find{H:List (FuncId×bh)}{hk:List (Nat×(S->K (PX×S)))}{f id:Nat}{g:S->K (PX×S)}(hu:uniq PR f=true)(hc:b8 (qS f) (bE PR f id)=true)(hH:HD X H)(hl:QI X f hk)
  {A α:Type} (hd:A->Int->S) (oN:A->List α) (t:A->Nat->α->Bool) (C:A->Prop) (rt:A->Int->PX×S) (ex:A->PX×S) (qib: ∀a k,(rt a k).1≠ .normal) (qdk: ∀a,(ex a).1≠ .normal)
  (hr: ∀a (k:Int) ae (dy:k.toNat<(oN a).length),C a->0<=k->k<(oN a).length->(t a k.toNat (oN a)[k.toNat]=true->ae (rt a k))->(t a k.toNat (oN a)[k.toNat]=false->ae (.normal,hd a (k+1)))->aC H hk f id (hd a k) ae)
  (hx: ∀a (k:Int) ae,C a->k=(oN a).length->ae (ex a)->aC H hk f id (hd a k) ae)
  (hg: ∀s ae,g s ae-> ∃a,s=hd a 0/\C a/\(∀(i:Int) (hi:i.toNat<(oN a).length),0<=i->t a i.toNat (oN a)[i.toNat]=true->(∀j (hj:j<i.toNat),t a j ((oN a)[j]'(by omega))=false)->ae (rt a i))/\((∀j (hj:j<(oN a).length),t a j (oN a)[j]=false)->ae (ex a))):LD X f id (ah (aL f id) g):=
 LD.idx hu hc hH hl (A:=A) (B:=Unit) (λa _ k=>hd a k) (λa=>(oN a).length) (λa k _=>C a/\ ∀j (hj:j<(oN a).length),j<k->t a j (oN a)[j]=false)
  (λa x=>(∃(i:Int) (hi:i.toNat<(oN a).length),0<=i/\t a i.toNat (oN a)[i.toNat]=true/\(∀j (hj:j<i.toNat),t a j ((oN a)[j]'(by omega))=false)/\x=rt a i)\/((∀j (hj:j<(oN a).length),t a j (oN a)[j]=false)/\x=ex a))
  (by
   intro a _ k ae h0 hk dy ⟨hC,hI⟩ hn ho;refine hr a k ae dy hC h0 hk (λht=>ho _ (qib a k) (.inl ⟨k,dy,h0,ht,λj hj=>hI j (by omega) hj,rfl⟩)) λht=>hn () ⟨hC,λj hj hjk=> ?_⟩;by_cases e:j=k.toNat
   ·subst e;exact ht
   exact hI j hj (by omega))
  (by intro a _ k ae hk ⟨hC,hI⟩ ho;exact hx a k ae hC hk (ho _ (qdk a) (.inr ⟨λj hj=>hI j hj hj,rfl⟩)))
  (by
   intro s ae hp;obtain⟨a,h1,h2,h3,h4⟩:=hg s ae hp;refine⟨a,(),h1,⟨h2,λj _ hj=>by omega⟩,?_⟩;rintro x (⟨i,hi,g1,g2,g3,rfl⟩| ⟨g1,rfl⟩)
   ·exact h3 i hi g1 g2 g3
   exact h4 g1)
abbrev iE(n:Int):D:= .int .i64 n
def eD(s:aO):D:= .agg [iE s.1,iE s.2]
def fY(o:bs):D:= .agg [iE o.kind,iE o.node.1,iE o.node.2.1,iE o.node.2.2,iE o.parent.1,iE o.parent.2.1,iE o.parent.2.2,.str o.name,.bool o.dir,.sl 2 (o.db.map eD),
 iE o.after.1,iE o.after.2.1,iE o.after.2.2,iE o.elem.1,iE o.elem.2.1,iE o.elem.2.2,.str o.text,.sl 3 (o.elems.map cb)]
def cu(g:av):D:= .agg [iE g.s.1,iE g.s.2,iE g.n,.sl 1 (bB g.deps),iE g.lA.1,iE g.lA.2,.sl 18 (g.ops.map fY)]
abbrev dD(l:List av):P:= .d (.sl 7 (l.map cu))
abbrev qic(l:List bs):P:= .d (.sl 18 (l.map fY))
abbrev lB(l:List aO):P:= .d (.sl 2 (l.map eD))
structure qi0(a b:aO)(c:Int):Prop where
 lt:c<0↔r8 a b=true
 gt:c>0↔r8 b a=true
structure RT(a b:aq)(c:Int):Prop where
 lt:c<0↔lz a b=true
 gt:c>0↔lz b a=true
def Dd:bh:=λps R ae=> ∃x y,ps=[.d (cb x),.d (cb y)]/\R=[]/\ ∀c,RT x y c->ae (iD c,[])
def RU:bh:=λps R ae=> ∃s,ps=[.d (eD s)]/\R=[]/\ ∀b,b=RO s->ae (jU b,[])
def qdl:bh:=λps R ae=> ∃x,ps=[.d (cb x)]/\R=[]/\ ∀b,b=rgX x->ae (jU b,[])
def pO:bh:=λps R ae=> ∃a b,ps=[.d (eD a),.d (eD b)]/\R=[]/\ ∀r,r=r8 a b->ae (jU r,[])
theorem qdm(s:aO)(ae:P×List (Nat×En)->Prop):(bif decide (Prod.fst s>=(1:Int)) then bif decide (Prod.fst s<=(1099511627776:Int)) then bif decide (Prod.snd s>=(1:Int)) then ae (P.d (D.bool (decide (Prod.snd s<=(16:Int)))),[]) else Z1 ae else Z1 ae else Z1 ae)=(aK [] [] 77 [.d (eD s)] []) ae:=by kernel_rfl
theorem RV(a b:aq):RT a b (qX a.1 a.2.1 a.2.2 b.1 b.2.1 b.2.2) where
 lt:=ib a b
 gt:=by
  simp only[lz,qX,Gc,orI,Gb,zal]
  (repeat' split)<;>omega
theorem uF(s:aO):cT PR 48 (eD s)=true:=by kernel_rfl
theorem Nk(o:bs):cT PR 91 (fY o)=true:=by kernel_rfl
theorem mT(g:av):cT PR 89 (cu g)=true:=by kernel_rfl
theorem eq2(a b:aO):(a.1==b.1&&(a.2==b.2&&true))=(a==b):=by obtain⟨x,y⟩:=a;obtain⟨z,u⟩:=b;rw[zbh];simp
theorem RW(a b:aq):(a.1==b.1&&(a.2.1==b.2.1&&true)&&(a.2.2==b.2.2&&true))=(a==b):=by obtain⟨x,y,z⟩:=a;obtain⟨u,v,w⟩:=b;rw[zbh];simp[and_assoc]
theorem lnE(m n:Nat):((m:Int)==(n:Int))=(m==n):=by rw[zbh,zbp,zbp];omega
theorem RX{p:Prop}[Decidable p] {A B:Prop}(h1:p)(h2:A):cond (decide p) A B:=gh (zbw h1) h2
section
variable{X:XF}
theorem Nl:FD X 55 Dd:=la.weaken λps R ae h=>by obtain⟨a,b,rfl,rfl,hp⟩:=h;exact⟨_,_,_,_,_,_,rfl,rfl,hp _ (RV a b)⟩
theorem yH:FD X 79 pO:=Gg.weaken λps R ae h=>by obtain⟨a,b,rfl,rfl,hp⟩:=h;exact⟨_,_,_,_,rfl,rfl,hp _ rfl⟩
theorem qdn:FD X 68 qdl:=nP.weaken λps R ae h=>by obtain⟨x,rfl,rfl,hp⟩:=h;exact⟨_,_,_,rfl,rfl,hp _ rfl⟩
theorem RY:FD X 77 RU:=FD.mk (H:=[]) (by kernel_rfl) .nil .nil (by
 intro ps R ae hh;obtain⟨s,rfl,rfl,hp⟩:=hh
 (rw[<-qdm];delta Z0 Z1)
 refine a8 (λh1=>a8 (λh2=>a8 (λh3=>hp _ ?_) λh3=>hp _ ?_) λh2=>hp _ ?_) λh1=>hp _ ?_
 all_goals (simp only[C0];rw[eq_comm];first | (rw[zcm];omega)| (rw[zaM];omega)))
theorem lP{α:Type}{l:List α}{i:Nat}(h:i<l.length)(d:α):l.getD i d=l[i]:=by simp[zab,h]
end
def Jn:bh:=λps R ae=> ∃s,ps=[sD s]/\R=[]/\ ∀b,b=bR s->ae (jU b,[])
def SmO(o:bs):Prop:=o.text.length<=2000000/\o.db.length<=9223372036854775807/\o.elems.length<=9223372036854775807
def SmG(g:av):Prop:=(∀o∈g.ops,SmO o)/\g.ops.length<=9223372036854775807/\g.deps.length<=1000000
def RZ:bh:=λps R ae=> ∃v,ps=[vD v]/\R=[]/\v.length<=1000000/\ ∀b,b=dN v->ae (jU b,[])
def qdo:bh:=λps R ae=> ∃v r,ps=[vD v,iD r]/\R=[]/\v.length<=1000000/\ ∀n,n=e7 v r->ae (iD n,[])
def qdp:bh:=λps R ae=> ∃g,ps=[.d (cu g)]/\R=[]/\SmG g/\ ∀e,e=(if dC g=true then 0 else 80)->ae (iD e,[])
section
variable{X:XF}
theorem R4:FD X 42 Jn:=sY.weaken λps R ae h=>by obtain⟨s,rfl,rfl,hp⟩:=h;exact⟨s,rfl,rfl,hp _ rfl⟩
theorem qdq:FD X 78 RZ:=qfN.weaken λps R ae h=>by obtain⟨s,rfl,rfl,hs,hp⟩:=h;exact⟨s,rfl,rfl,hs,hp _ rfl⟩
theorem qdr:FD X 37 qdo:=FL.weaken λps R ae h=>by obtain⟨s,r,rfl,rfl,hs,hp⟩:=h;exact⟨s,r,rfl,rfl,by omega,hp _ rfl⟩
theorem qds{s:aO}{k n:Int}{o:bs}(h:mS s k o=some n)(ho:o.text.length<=2000000):0<=n/\n<=2000000:=by
 have h1:=Gq o.text;have h2:=Lb o.text;unfold mS at h
 (repeat' split at h)<;>simp at h<;>omega
end
end Pi
