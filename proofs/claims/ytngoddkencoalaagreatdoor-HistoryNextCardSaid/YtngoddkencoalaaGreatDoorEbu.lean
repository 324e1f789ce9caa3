/- The texts X3Shelf XBld K3 X3 S3 StPure St1 St1H StV2 StV2H StV3H StV4 StV4H St5 St5H StTextP St7 St7H PathP StL2H P1 P1H P3 P3H A2 A2H A3 A4 A4H B1 B2H T1 T1H T2 T2H T3 TrA TrB WiP WiU Wi0 Wi0H LdP Wi1 Wi1H Wi2 Wi2H Wi3 Wi3H Wi4 Wi4H EfP HiP SN SoP Hi1 QP Hi1H SR LnP InsP. -/
import Derived.Test.YtngoddkencoalaaGreatDoorPiYr
import Derived.Shelf.SlLaysF0
import Derived.Shelf.LaysM
import Derived.Shelf.LaysC
import Derived.Shelf.Strings.OnBuilder
import Derived.Shelf.Strings.SlTrimAscii
import Derived.Shelf.Small.Wraps
import Derived.Shelf.Strconv.AtoiAll
import Derived.Shelf.Strconv.Itoa3
import Derived.Shelf.Strings.Cut
import Derived.Shelf.Strings.Split
import Derived.Shelf.Strings.LastIndexAll
import Derived.Shelf.Unicode.ValidAny
import Derived.Shelf.Utf8.RuneCount
import Derived.Test.YtngoddkencoalaaGreatDoorProg
import Derived.Ground.SlsfProg
import Derived.KernelRfl
import Derived.Lib.SplitLaws
import Derived.Lib.SlTrimSet
import Derived.Lib.ValidLaws
import Derived.Lib.RuneCountTail
import Derived.Lib.MapLaws
namespace Go.Proofs
open Go.Shelf
def Tryz.Ft:Go.Shelf.Ren:=⟨fun |160=>146 |232=>170 |231=>169 |227=>171 |234=>173 |233=>172 |236=>175 |235=>174 |228=>182 |271=>185 |151=>184 |197=>183 |120=>190 |152=>189 |260=>188 |137=>191 |119=>192 |224=>193 |225=>194 |217=>195 |266=>196 |n=>n,fun |9=>9 |4=>4 |3=>3 |5=>5 |117=>237 |116=>236 |0=>0 |124=>240 |21=>21 |105=>253 |46=>172 |119=>242 |139=>245 |138=>244 |n=>n,fun |3=>0 |4=>1 |n=>n⟩
theorem Tryz.KB:Go.Proofs.Lays.n160 Tryz.prog Tryz.Ft:={
 mixed:=by kernel_rfl
 f119:=Tryz.func192.trans (congrArg some (by kernel_rfl))
 f120:=Tryz.func190.trans (congrArg some (by kernel_rfl))
 f137:=Tryz.func191.trans (congrArg some (by kernel_rfl))
 f151:=Tryz.func184.trans (congrArg some (by kernel_rfl))
 f152:=Tryz.func189.trans (congrArg some (by kernel_rfl))
 f160:=Tryz.func146.trans (congrArg some (by kernel_rfl))
 f197:=Tryz.func183.trans (congrArg some (by kernel_rfl))
 f217:=Tryz.func195.trans (congrArg some (by kernel_rfl))
 f224:=Tryz.func193.trans (congrArg some (by kernel_rfl))
 f225:=Tryz.func194.trans (congrArg some (by kernel_rfl))
 f227:=Tryz.func171.trans (congrArg some (by kernel_rfl))
 f228:=Tryz.func182.trans (congrArg some (by kernel_rfl))
 f231:=Tryz.func169.trans (congrArg some (by kernel_rfl))
 f232:=Tryz.func170.trans (congrArg some (by kernel_rfl))
 f233:=Tryz.func172.trans (congrArg some (by kernel_rfl))
 f234:=Tryz.func173.trans (congrArg some (by kernel_rfl))
 f235:=Tryz.func174.trans (congrArg some (by kernel_rfl))
 f236:=Tryz.func175.trans (congrArg some (by kernel_rfl))
 f260:=Tryz.func188.trans (congrArg some (by kernel_rfl))
 f266:=Tryz.func196.trans (congrArg some (by kernel_rfl))
 f271:=Tryz.func185.trans (congrArg some (by kernel_rfl))
 t0:=Tryz.underlying0
 a0:=Tryz.isAgg0
 z0:=Tryz.sizeOf0
 v0:=Tryz.zeroValue0
 t3:=Tryz.underlying3
 a3:=Tryz.isAgg3
 z3:=Tryz.sizeOf3
 v3:=Tryz.zeroValue3
 t4:=Tryz.underlying4
 a4:=Tryz.isAgg4
 z4:=Tryz.sizeOf4
 v4:=Tryz.zeroValue4
 t5:=Tryz.underlying5
 a5:=Tryz.isAgg5
 z5:=Tryz.sizeOf5
 v5:=Tryz.zeroValue5
 t9:=Tryz.underlying9
 a9:=Tryz.isAgg9
 z9:=Tryz.sizeOf9
 v9:=Tryz.zeroValue9
 t21:=Tryz.underlying21
 a21:=Tryz.isAgg21
 z21:=Tryz.sizeOf21
 v21:=Tryz.zeroValue21
 t46:=Tryz.underlying172
 a46:=Tryz.isAgg172
 z46:=Tryz.sizeOf172
 v46:=Tryz.zeroValue172
 t105:=Tryz.underlying253
 a105:=Tryz.isAgg253
 z105:=Tryz.sizeOf253
 v105:=Tryz.zeroValue253
 t116:=Tryz.underlying236
 a116:=Tryz.isAgg236
 z116:=Tryz.sizeOf236
 t117:=Tryz.underlying237
 a117:=Tryz.isAgg237
 z117:=Tryz.sizeOf237
 v117:=Tryz.zeroValue237
 t119:=Tryz.underlying242
 a119:=Tryz.isAgg242
 z119:=Tryz.sizeOf242
 t124:=Tryz.underlying240
 a124:=Tryz.isAgg240
 z124:=Tryz.sizeOf240
 v124:=Tryz.zeroValue240
 t138:=Tryz.underlying244
 a138:=Tryz.isAgg244
 z138:=Tryz.sizeOf244
 v138:=Tryz.zeroValue244
 t139:=Tryz.underlying245
 a139:=Tryz.isAgg245
 z139:=Tryz.sizeOf245
 v139:=Tryz.zeroValue245
 g3:=by kernel_rfl
 g4:=by kernel_rfl}
open Go.RowKit in
theorem Tryz.strings_Trim_one (s:ByteArray) (c:UInt8) (hc:c.toNat<128) (w:World) (hs:s.size<=9223372036854775807):
 Calls Tryz.prog 146 #[.string s,.string ⟨#[c]⟩] w fun e w'=>e= .returned (.string ⟨(Lib.trimB s.data.toList c).toArray⟩)/\(w'=w\/w'=w.drew):=Any.strings_Trim_one Tryz.KB s c hc w hs
def Tryz.Fu:Go.Shelf.Ren:=⟨fun |195=>149 |n=>n,fun |9=>9 |3=>3 |0=>0 |4=>4 |n=>n,fun |n=>n⟩
theorem Tryz.Ww:Go.Proofs.Lays.n195 Tryz.prog Tryz.Fu:={
 mixed:=by kernel_rfl
 f195:=Tryz.func149.trans (congrArg some (by kernel_rfl))
 t0:=Tryz.underlying0
 a0:=Tryz.isAgg0
 z0:=Tryz.sizeOf0
 v0:=Tryz.zeroValue0
 t3:=Tryz.underlying3
 a3:=Tryz.isAgg3
 z3:=Tryz.sizeOf3
 v3:=Tryz.zeroValue3
 t4:=Tryz.underlying4
 a4:=Tryz.isAgg4
 z4:=Tryz.sizeOf4
 v4:=Tryz.zeroValue4
 t9:=Tryz.underlying9
 a9:=Tryz.isAgg9
 z9:=Tryz.sizeOf9
 v9:=Tryz.zeroValue9}
open Go.RowKit in
theorem Tryz.utf8_RuneCountInString (s:ByteArray) (w:World) (hs:s.size<9223372036854775807):
 Calls Tryz.prog 149 #[.string s] w fun e w'=>e= .returned (.int .i64 (Lib.runeCount s))/\ ∃pos,w'=w.iter s pos:=Any.utf8_RuneCountInString Tryz.Ww s w hs
def Tryz.Fv:Go.Shelf.Ren:=⟨fun |196=>148 |259=>176 |n=>n,fun |9=>9 |4=>4 |3=>3 |5=>5 |12=>12 |119=>242 |0=>0 |46=>172 |139=>245 |138=>244 |53=>204 |n=>n,fun |3=>0 |4=>1 |n=>n⟩
theorem Tryz.Wx:Go.Proofs.Lays.n196 Tryz.prog Tryz.Fv:={
 mixed:=by kernel_rfl
 f196:=Tryz.func148.trans (congrArg some (by kernel_rfl))
 f259:=Tryz.func176.trans (congrArg some (by kernel_rfl))
 t0:=Tryz.underlying0
 a0:=Tryz.isAgg0
 z0:=Tryz.sizeOf0
 v0:=Tryz.zeroValue0
 t3:=Tryz.underlying3
 a3:=Tryz.isAgg3
 z3:=Tryz.sizeOf3
 v3:=Tryz.zeroValue3
 t4:=Tryz.underlying4
 a4:=Tryz.isAgg4
 z4:=Tryz.sizeOf4
 v4:=Tryz.zeroValue4
 t5:=Tryz.underlying5
 a5:=Tryz.isAgg5
 z5:=Tryz.sizeOf5
 v5:=Tryz.zeroValue5
 t9:=Tryz.underlying9
 a9:=Tryz.isAgg9
 z9:=Tryz.sizeOf9
 v9:=Tryz.zeroValue9
 t12:=Tryz.underlying12
 a12:=Tryz.isAgg12
 z12:=Tryz.sizeOf12
 v12:=Tryz.zeroValue12
 t46:=Tryz.underlying172
 a46:=Tryz.isAgg172
 z46:=Tryz.sizeOf172
 v46:=Tryz.zeroValue172
 t53:=Tryz.underlying204
 a53:=Tryz.isAgg204
 z53:=Tryz.sizeOf204
 v53:=Tryz.zeroValue204
 t119:=Tryz.underlying242
 a119:=Tryz.isAgg242
 z119:=Tryz.sizeOf242
 t138:=Tryz.underlying244
 a138:=Tryz.isAgg244
 z138:=Tryz.sizeOf244
 v138:=Tryz.zeroValue244
 t139:=Tryz.underlying245
 a139:=Tryz.isAgg245
 z139:=Tryz.sizeOf245
 v139:=Tryz.zeroValue245
 g3:=by kernel_rfl
 g4:=by kernel_rfl}
open Go.RowKit in
theorem Tryz.utf8_ValidString (s:ByteArray) (w:World) (hs:s.size<=9223372036854775807) (hT:Lib.Utf8Tabs 0 1 w):
 Calls Tryz.prog 148 #[.string s] w fun e w'=>e= .returned (.bool (Lib.validD s.data.toList))/\Below w.heap.size w w':=Any.utf8_ValidString Tryz.Wx s w hs hT
def Tryz.x8:Go.Shelf.Ren:=⟨fun |6=>64 |15=>98 |14=>97 |28=>133 |29=>134 |20=>125 |21=>126 |22=>127 |23=>128 |24=>129 |25=>130 |26=>131 |27=>132 |46=>154 |47=>155 |48=>156 |49=>157 |50=>158 |57=>178 |n=>n,fun |22=>22 |24=>34 |25=>126 |3=>3 |39=>172 |0=>0 |53=>202 |55=>204 |4=>4 |46=>195 |45=>194 |50=>199 |5=>5 |9=>9 |66=>221 |70=>225 |76=>247 |77=>248 |n=>n,fun |n=>n⟩
theorem Tryz.qbW:Go.Proofs.SlLaysF0.n6 Tryz.prog Tryz.x8:={
 mixed:=by kernel_rfl
 f6:=⟨Tryz.f64.name,by decide,Tryz.func64.trans (congrArg some (by kernel_rfl))⟩
 f14:=⟨Tryz.f97.name,by decide,Tryz.func97.trans (congrArg some (by kernel_rfl))⟩
 f15:=Tryz.func98.trans (congrArg some (by kernel_rfl))
 f20:=⟨Tryz.f125.name,by decide,Tryz.func125.trans (congrArg some (by kernel_rfl))⟩
 f21:=⟨Tryz.f126.name,by decide,Tryz.func126.trans (congrArg some (by kernel_rfl))⟩
 f22:=⟨Tryz.f127.name,by decide,Tryz.func127.trans (congrArg some (by kernel_rfl))⟩
 f23:=⟨Tryz.f128.name,by decide,Tryz.func128.trans (congrArg some (by kernel_rfl))⟩
 f24:=⟨Tryz.f129.name,by decide,Tryz.func129.trans (congrArg some (by kernel_rfl))⟩
 f25:=⟨Tryz.f130.name,by decide,Tryz.func130.trans (congrArg some (by kernel_rfl))⟩
 f26:=⟨Tryz.f131.name,by decide,Tryz.func131.trans (congrArg some (by kernel_rfl))⟩
 f27:=⟨Tryz.f132.name,by decide,Tryz.func132.trans (congrArg some (by kernel_rfl))⟩
 f28:=Tryz.func133.trans (congrArg some (by kernel_rfl))
 f29:=Tryz.func134.trans (congrArg some (by kernel_rfl))
 f46:=⟨Tryz.f154.name,by decide,Tryz.func154.trans (congrArg some (by kernel_rfl))⟩
 f47:=Tryz.func155.trans (congrArg some (by kernel_rfl))
 f48:=Tryz.func156.trans (congrArg some (by kernel_rfl))
 f49:=⟨Tryz.f157.name,by decide,Tryz.func157.trans (congrArg some (by kernel_rfl))⟩
 f50:=⟨Tryz.f158.name,by decide,Tryz.func158.trans (congrArg some (by kernel_rfl))⟩
 f57:=⟨Tryz.f178.name,by decide,Tryz.func178.trans (congrArg some (by kernel_rfl))⟩
 t0:=Tryz.underlying0
 a0:=Tryz.isAgg0
 z0:=Tryz.sizeOf0
 v0:=Tryz.zeroValue0
 t3:=Tryz.underlying3
 a3:=Tryz.isAgg3
 z3:=Tryz.sizeOf3
 v3:=Tryz.zeroValue3
 t4:=Tryz.underlying4
 a4:=Tryz.isAgg4
 z4:=Tryz.sizeOf4
 v4:=Tryz.zeroValue4
 t5:=Tryz.underlying5
 a5:=Tryz.isAgg5
 z5:=Tryz.sizeOf5
 v5:=Tryz.zeroValue5
 t9:=Tryz.underlying9
 a9:=Tryz.isAgg9
 z9:=Tryz.sizeOf9
 v9:=Tryz.zeroValue9
 t22:=Tryz.underlying22
 a22:=Tryz.isAgg22
 z22:=Tryz.sizeOf22
 v22:=Tryz.zeroValue22
 t25:=Tryz.underlying126
 a25:=Tryz.isAgg126
 z25:=Tryz.sizeOf126
 v25:=Tryz.zeroValue126
 t39:=Tryz.underlying172
 a39:=Tryz.isAgg172
 z39:=Tryz.sizeOf172
 v39:=Tryz.zeroValue172
 t45:=Tryz.underlying194
 a45:=Tryz.isAgg194
 z45:=Tryz.sizeOf194
 v45:=Tryz.zeroValue194
 t46:=Tryz.underlying195
 a46:=Tryz.isAgg195
 z46:=Tryz.sizeOf195
 v46:=Tryz.zeroValue195
 t50:=Tryz.underlying199
 a50:=Tryz.isAgg199
 z50:=Tryz.sizeOf199
 v50:=Tryz.zeroValue199
 t53:=Tryz.underlying202
 a53:=Tryz.isAgg202
 z53:=Tryz.sizeOf202
 v53:=Tryz.zeroValue202
 t55:=Tryz.underlying204
 a55:=Tryz.isAgg204
 z55:=Tryz.sizeOf204
 v55:=Tryz.zeroValue204
 t66:=Tryz.underlying221
 a66:=Tryz.isAgg221
 z66:=Tryz.sizeOf221
 v66:=Tryz.zeroValue221
 t70:=Tryz.underlying225
 a70:=Tryz.isAgg225
 z70:=Tryz.sizeOf225
 v70:=Tryz.zeroValue225
 t76:=Tryz.underlying247
 a76:=Tryz.isAgg247
 z76:=Tryz.sizeOf247
 v76:=Tryz.zeroValue247
 t77:=Tryz.underlying248
 a77:=Tryz.isAgg248
 z77:=Tryz.sizeOf248
 v77:=Tryz.zeroValue248}
def Tryz.u9:Go.Shelf.Ren:=⟨fun |6=>102 |15=>98 |14=>136 |28=>133 |29=>134 |20=>159 |21=>160 |22=>161 |23=>162 |24=>163 |25=>164 |26=>165 |27=>166 |46=>179 |47=>155 |48=>156 |49=>180 |50=>181 |57=>187 |n=>n,fun |22=>128 |24=>132 |25=>176 |3=>3 |39=>172 |0=>0 |53=>202 |55=>204 |4=>4 |46=>195 |45=>194 |50=>199 |5=>5 |9=>9 |66=>221 |70=>225 |76=>247 |77=>248 |n=>n,fun |n=>n⟩
theorem Tryz.Wy:Go.Proofs.SlLaysF0.n6 Tryz.prog Tryz.u9:={
 mixed:=by kernel_rfl
 f6:=⟨Tryz.f102.name,by decide,Tryz.func102.trans (congrArg some (by kernel_rfl))⟩
 f14:=⟨Tryz.f136.name,by decide,Tryz.func136.trans (congrArg some (by kernel_rfl))⟩
 f15:=Tryz.func98.trans (congrArg some (by kernel_rfl))
 f20:=⟨Tryz.f159.name,by decide,Tryz.func159.trans (congrArg some (by kernel_rfl))⟩
 f21:=⟨Tryz.f160.name,by decide,Tryz.func160.trans (congrArg some (by kernel_rfl))⟩
 f22:=⟨Tryz.f161.name,by decide,Tryz.func161.trans (congrArg some (by kernel_rfl))⟩
 f23:=⟨Tryz.f162.name,by decide,Tryz.func162.trans (congrArg some (by kernel_rfl))⟩
 f24:=⟨Tryz.f163.name,by decide,Tryz.func163.trans (congrArg some (by kernel_rfl))⟩
 f25:=⟨Tryz.f164.name,by decide,Tryz.func164.trans (congrArg some (by kernel_rfl))⟩
 f26:=⟨Tryz.f165.name,by decide,Tryz.func165.trans (congrArg some (by kernel_rfl))⟩
 f27:=⟨Tryz.f166.name,by decide,Tryz.func166.trans (congrArg some (by kernel_rfl))⟩
 f28:=Tryz.func133.trans (congrArg some (by kernel_rfl))
 f29:=Tryz.func134.trans (congrArg some (by kernel_rfl))
 f46:=⟨Tryz.f179.name,by decide,Tryz.func179.trans (congrArg some (by kernel_rfl))⟩
 f47:=Tryz.func155.trans (congrArg some (by kernel_rfl))
 f48:=Tryz.func156.trans (congrArg some (by kernel_rfl))
 f49:=⟨Tryz.f180.name,by decide,Tryz.func180.trans (congrArg some (by kernel_rfl))⟩
 f50:=⟨Tryz.f181.name,by decide,Tryz.func181.trans (congrArg some (by kernel_rfl))⟩
 f57:=⟨Tryz.f187.name,by decide,Tryz.func187.trans (congrArg some (by kernel_rfl))⟩
 t0:=Tryz.underlying0
 a0:=Tryz.isAgg0
 z0:=Tryz.sizeOf0
 v0:=Tryz.zeroValue0
 t3:=Tryz.underlying3
 a3:=Tryz.isAgg3
 z3:=Tryz.sizeOf3
 v3:=Tryz.zeroValue3
 t4:=Tryz.underlying4
 a4:=Tryz.isAgg4
 z4:=Tryz.sizeOf4
 v4:=Tryz.zeroValue4
 t5:=Tryz.underlying5
 a5:=Tryz.isAgg5
 z5:=Tryz.sizeOf5
 v5:=Tryz.zeroValue5
 t9:=Tryz.underlying9
 a9:=Tryz.isAgg9
 z9:=Tryz.sizeOf9
 v9:=Tryz.zeroValue9
 t22:=Tryz.underlying128
 a22:=Tryz.isAgg128
 z22:=Tryz.sizeOf128
 v22:=Tryz.zeroValue128
 t25:=Tryz.underlying176
 a25:=Tryz.isAgg176
 z25:=Tryz.sizeOf176
 v25:=Tryz.zeroValue176
 t39:=Tryz.underlying172
 a39:=Tryz.isAgg172
 z39:=Tryz.sizeOf172
 v39:=Tryz.zeroValue172
 t45:=Tryz.underlying194
 a45:=Tryz.isAgg194
 z45:=Tryz.sizeOf194
 v45:=Tryz.zeroValue194
 t46:=Tryz.underlying195
 a46:=Tryz.isAgg195
 z46:=Tryz.sizeOf195
 v46:=Tryz.zeroValue195
 t50:=Tryz.underlying199
 a50:=Tryz.isAgg199
 z50:=Tryz.sizeOf199
 v50:=Tryz.zeroValue199
 t53:=Tryz.underlying202
 a53:=Tryz.isAgg202
 z53:=Tryz.sizeOf202
 v53:=Tryz.zeroValue202
 t55:=Tryz.underlying204
 a55:=Tryz.isAgg204
 z55:=Tryz.sizeOf204
 v55:=Tryz.zeroValue204
 t66:=Tryz.underlying221
 a66:=Tryz.isAgg221
 z66:=Tryz.sizeOf221
 v66:=Tryz.zeroValue221
 t70:=Tryz.underlying225
 a70:=Tryz.isAgg225
 z70:=Tryz.sizeOf225
 v70:=Tryz.zeroValue225
 t76:=Tryz.underlying247
 a76:=Tryz.isAgg247
 z76:=Tryz.sizeOf247
 v76:=Tryz.zeroValue247
 t77:=Tryz.underlying248
 a77:=Tryz.isAgg248
 z77:=Tryz.sizeOf248
 v77:=Tryz.zeroValue248}
end Go.Proofs
namespace Pi
open Go Go.Proofs Go.RowKit Go.Shelf
section
variable {w0:World}
set_option maxHeartbeats 2000000 in
set_option maxRecDepth 100000 in
theorem fG.drew {T:Tg} {F:Nat->Prop} {G:Nat->Value} {w:World} {R:List (Nat×En)} (h:fG Tryz.prog T F G w R):fG Tryz.prog T F G w.drew R:=by
 have hn:Names G G R R:=Names.refl G R
 exact⟨h.rf,h.size,fun t p hp=>by simp[lk] at hp,fun n e he=>(h.rg n e he).mono (fun _ h=>h) (fun _ _=>rfl) hn rfl (fun _ _=>rfl),h.own,h.mq,h.jm,h.tag,h.z,zcT h.dr,h.sz⟩
end
end Pi
namespace Pi
open Go Go.Proofs
set_option maxRecDepth 100000
set_option maxHeartbeats 0
def qfj:List (Nat×List (Nat×List Nat×List Nat)):=[(5,[(9,[5,6,7,9],[4,5,6,7])]),
 (6,[(6,[0,1,5,6,7],[1,5,6]),(15,[5,8,9,10,11,12],[5,8,9,10,11]),(21,[5,8,9,10,11,13,14],[5,8,9,10,11,13]),(28,[5,8,9,10,11,15],[4,5,8,9,10])]),
 (8,[(2,[0,3],[0,2])]),
 (11,[(3,[0,3,4],[3])]),
 (12,[(5,[1,4,6,7,21,22,23],[1,4,6,7])]),
 (15,[(4,[0,3,4,5],[4])]),
 (17,[(3,[0,1,4,5,6,7,8,20,21,22],[0,1,4,5,6,7,8])]),
 (18,[(4,[0,1,5],[4])]),
 (20,[(4,[1,3],[2])]),
 (22,[(4,[2,3,5],[4])]),
 (23,[(6,[0,1,4,6,7,8],[0,1,4,6])]),
 (24,[(4,[4,6,7,8],[4,5])]),
 (25,[(5,[4,6,7,8,9],[4,5])]),
 (26,[(4,[0,1,5],[4])]),
 (27,[(3,[3,8,9,10],[3])]),
 (28,[(4,[0,3,4],[3])]),
 (29,[(5,[2,3,4,5,6,7],[2,3,4,5,6])]),
 (30,[(3,[3,4,9,10,11],[3])]),
 (32,[(7,[0,2,3,4,5,6],[0,2,3,4,5]),(11,[0,2,3,4,5,6,7,8],[0,2,3,4,5,6]),(20,[0,2,3,4,5,6,7,8,9,10],[0,2,3,4,5,6,7,8])]),
 (33,[(3,[0,3,4],[3])]),
 (37,[(4,[0,1,5,6,10,19,20,21],[0,1,5,6,10]),(10,[5,6,7,10,35,36],[6,7,8])]),
 (40,[(3,[0,3,4],[3])]),
 (41,[(4,[0,1,5,6],[5]),(9,[0,1,5,6,7],[0,1,5,6])]),
 (42,[(2,[0,3,5],[0,4])]),
 (43,[(3,[0,3,4,7,8],[4,5,6]),(7,[0,3,4,7,8,9,10],[0,3,4,7,8,9])]),
 (44,[(3,[0,3,4],[3])]),
 (46,[(5,[0,1,2,8,9],[8])]),
 (47,[(3,[0,1,5,6],[5])]),
 (48,[(3,[0,1,5,6],[5])]),
 (49,[(3,[0,3,4],[3])]),
 (51,[(11,[3,48,49,50],[2])]),
 (53,[(4,[3,4,5],[4]),(8,[3,4,5,6,7],[3,4,5,6]),(15,[4,8,9],[8])]),
 (54,[(3,[0,1,5,6],[5]),(6,[0,1,5,6,7],[0,1,5,6]),(9,[0,1,5,6,7,8],[0,1,5,6,7])]),
 (55,[(4,[5,6,7],[6]),(14,[5,6,7,10],[5,6,7])]),
 (56,[(4,[1,5,6,7],[6]),(9,[1,5,6,7,9],[1,5,6,7])]),
 (57,[(3,[0,1,5,6],[5]),(9,[0,1,5,6,8],[0,1,5,6])]),
 (58,[(4,[1,2,7,8,9],[8])]),
 (59,[(3,[0,3,5,6],[5]),(6,[0,3,5,6,7],[0,3,5,6])]),
 (60,[(3,[0,1,5,7,8],[7]),(6,[0,1,5,7,8,9],[0,1,5,7,8])]),
 (61,[(5,[3,4,5,6,20,21,22],[3,5,6]),(15,[3,71,72,73],[3]),(20,[3,87,88,89],[3])]),
 (62,[(5,[0,1,5,6],[0,1,5])]),
 (68,[(3,[0,1,5,6,14,15],[5])]),
 (69,[(2,[0,3,7,8],[4])]),
 (70,[(4,[0,1,5],[4])]),
 (71,[(4,[0,1,5],[4])]),
 (72,[(11,[1,3,4],[2])]),
 (73,[(2,[0,3,5],[0,4])]),
 (74,[(1,[0],[0])]),
 (75,[(2,[0,3],[0,3])]),
 (76,[(3,[0,1,5,6],[5]),(6,[0,1,5,6,7],[0,1,5,6])]),
 (79,[(3,[0,1,5,7,8],[7]),(8,[0,1,5,7,8,9],[0,1,5,7,8])]),
 (80,[(4,[5,6,7],[6]),(8,[5,6,7,8],[5,6,7])]),
 (84,[(3,[0,3,4],[3]),(7,[0,3,4,5,6],[0,3,4,5]),(13,[0,3,4,7],[0,3,4])]),
 (85,[(3,[0,1,5,6],[5]),(7,[0,1,5,6,7,8],[0,1,5,6,7]),(13,[0,1,5,6,9],[0,1,5,6])]),
 (86,[(2,[0,4,5,7],[0,6])]),
 (87,[(2,[0,3,5],[0,4])]),
 (89,[(4,[0,1,5,6],[5]),(8,[0,1,5,6,7,8],[0,1,5,6,7])]),
 (90,[(2,[0,3,5],[5])]),
 (91,[(2,[0,3,5],[0,4])]),
 (92,[(2,[0,3,5],[4])]),
 (93,[(4,[3,4,5],[4])]),
 (95,[(3,[0,3,4,14,15,16],[0]),(13,[0,3,4,6,14,15,16,95,96,97],[0,3,4,14,15,16])]),
 (96,[(2,[0,1,7,8],[0,1,4])]),
 (97,[(2,[0,1,2,3,4,10,11],[4])]),
 (99,[(3,[3,6,7,8],[2,3])]),
 (101,[(1,[0,1,5,6,7],[0,1])]),
 (105,[(2,[0,3],[0,2])]),
 (107,[(3,[0,3,4],[3]),(8,[0,3,4,5,7,8],[0,3,4]),(13,[0,3,4,5,7,8,9,10,11],[0,3,4,5,7,8,9,10])]),
 (108,[(2,[0,5,6,7],[0,2])]),
 (114,[(2,[0,1,7,8,9],[0,1,4])]),
 (116,[(2,[0,1,7,8,9],[0,1,4])]),
 (118,[(3,[0,3,4],[3])]),
 (119,[(2,[0,3,5],[4])]),
 (120,[(2,[0,3,5],[3,4])]),
 (121,[(3,[0,3,5,6],[5]),(8,[0,3,5,6,7],[0,3,5,6])]),
 (123,[(1,[0,2,3],[0])]),
 (125,[(1,[0,1,2,3,8],[3]),(4,[0,1,2,3,8,9],[0,1,2,3,8])]),
 (126,[(4,[0,3,8,9,10,11],[0,3,8,9,10]),(8,[0,3,8,9,12],[3])]),
 (127,[(5,[0,1,3,8,9,10,11],[3])]),
 (129,[(2,[0,3,8,9],[3])]),
 (130,[(3,[0,1,2,3,9,10],[3,8]),(5,[0,1,2,3,9,10],[0,1,2,3,9,10]),(14,[0,1,2,3,9,10,11],[0,1,2,3,9,10]),(20,[0,1,2,3,9,10,12],[0,1,2,3,9,10])]),
 (131,[(3,[0,1,4,11,12],[4,11]),(3,[0,1,4,11,12],[0,1,4,11,12]),(5,[0,1,4,11,12],[0,1,4,11,12])]),
 (132,[(3,[0,1,4,12,13],[0,1,4,12,13]),(5,[0,1,4,12,13],[0,1,4,12,13]),(13,[0,1,4,12,13],[0,1,4,13]),(13,[0,1,4,12,13],[0,1,4,12,13]),(15,[0,1,4,12,13],[0,1,4,12,13])]),
 (136,[(2,[0,1,2,3,4,10,11],[4])]),
 (138,[(4,[0,3],[2])]),
 (141,[(2,[1,2,5],[1,4])]),
 (143,[(2,[1,2,3,7],[1,6])]),
 (144,[(2,[0,4],[2,3,4])]),
 (148,[(1,[0],[2]),(9,[0],[0])]),
 (149,[(2,[2,4],[2])]),
 (153,[(1,[0,1,3],[0,1])]),
 (154,[(1,[0,2,3,4,10],[4])]),
 (159,[(1,[0,1,2,3,8],[3]),(4,[0,1,2,3,8,9],[0,1,2,3,8])]),
 (160,[(4,[0,3,8,9,10,11],[0,3,8,9,10]),(8,[0,3,8,9,12],[3])]),
 (161,[(5,[0,1,3,8,9,10,11],[3])]),
 (163,[(2,[0,3,8,9],[3])]),
 (164,[(3,[0,1,2,3,9,10],[3,8]),(5,[0,1,2,3,9,10],[0,1,2,3,9,10]),(14,[0,1,2,3,9,10,11],[0,1,2,3,9,10]),(20,[0,1,2,3,9,10,12],[0,1,2,3,9,10])]),
 (165,[(3,[0,1,4,11,12],[4,11]),(3,[0,1,4,11,12],[0,1,4,11,12]),(5,[0,1,4,11,12],[0,1,4,11,12])]),
 (166,[(3,[0,1,4,12,13],[0,1,4,12,13]),(5,[0,1,4,12,13],[0,1,4,12,13]),(13,[0,1,4,12,13],[0,1,4,13]),(13,[0,1,4,12,13],[0,1,4,12,13]),(15,[0,1,4,12,13],[0,1,4,12,13])]),
 (168,[(16,[0,5,7,8],[2,3,4,5,7])]),
 (169,[(1,[0,1],[0])]),
 (170,[(1,[0,1],[0])]),
 (171,[(2,[0,2,4],[2,3])]),
 (172,[(1,[0,1],[0,1])]),
 (173,[(1,[0,1],[0,1])]),
 (174,[(1,[0,1],[0])]),
 (175,[(1,[0,1],[0])]),
 (179,[(1,[0,2,3,4,10],[4])]),
 (185,[(10,[0,4,5,6],[0,4,5])]),
 (186,[(4,[0,3],[0,3])]),
 (189,[(38,[175],[4]),(5,[0,7,8,9],[4]),(12,[0,7,8,9,12],[8,9]),(25,[0,7,8,9,14,15],[4]),(29,[0,7,8,9,14,15,16],[0,7,8,9,14,15])])]
def qbX:List (Nat×List (Nat×Nat)):=[(5,[(6,1),(11,1)]),
 (9,[(5,1)]),
 (17,[(5,4)]),
 (25,[(7,6)]),
 (28,[(6,1)]),
 (30,[(6,1)]),
 (32,[(18,1),(22,1),(24,1)]),
 (34,[(3,1)]),
 (41,[(11,1)]),
 (48,[(5,1)]),
 (50,[(7,1),(9,1),(11,6),(12,1),(14,6),(16,1),(20,1)]),
 (55,[(16,1)]),
 (56,[(7,1),(11,1)]),
 (57,[(11,1)]),
 (61,[(8,1),(10,1),(11,4)]),
 (66,[(1,1)]),
 (68,[(5,1)]),
 (72,[(1,1)]),
 (79,[(10,1)]),
 (80,[(10,1)]),
 (81,[(1,1)]),
 (83,[(5,1),(14,1)]),
 (84,[(15,1)]),
 (85,[(15,1)]),
 (94,[(6,1)]),
 (95,[(8,1),(9,1),(11,1),(16,1)]),
 (107,[(10,1)]),
 (121,[(10,1)]),
 (124,[(1,1)]),
 (125,[(6,1)]),
 (126,[(10,1)]),
 (127,[(10,1)]),
 (130,[(11,1),(17,1),(23,1)]),
 (145,[(9,1),(11,1)]),
 (148,[(7,1),(9,1)]),
 (150,[(1,1)]),
 (154,[(6,1)]),
 (159,[(6,1)]),
 (160,[(10,1)]),
 (161,[(10,1)]),
 (164,[(11,1),(17,1),(23,1)]),
 (177,[(3,1)]),
 (179,[(6,1)])]
def xsB:List Nat:=[146,148,149,64,102]
def xsT:List Nat:=xsB++[19,17]
def qhZ:List Nat:=[]
def aL (f id:Nat):Option (List Nat×List Nat):=if Nat.beq id 999999 then(if gR f qhZ then some ([],[]) else none) else match lk qfj f with |some l=>lk l id |none=>none
abbrev x9:pZ:=⟨aL,xsT,fun _ _ _=>none⟩
end Pi
namespace Pi
open Go Go.Proofs Go.RowKit
def KC:TF
 | [.d (.str s),.d (.str c)],[]=>if s.length<=9223372036854775807/\c.length<4294967281/\c.all (fun b=>decide (b.toNat<128))=true then some (.d (.str (Lib.trimS s c)),[]) else none
 |_,_=>none
def Ip:TF
 | [.d (.str s)],[]=>if s.length<=9223372036854775807 then some (.d (.bool (Lib.validD s)),[]) else none
 |_,_=>none
def Iq:TF
 | [.d (.str s)],[]=>if s.length<9223372036854775807 then some (.d (.int .i64 (Lib.runeCount ⟨⟨s⟩⟩)),[]) else none
 |_,_=>none
noncomputable def ya:TF:=xX Tryz.prog x9 34
noncomputable def Bc:TF:=xX Tryz.prog x9 132
noncomputable def xL:List (Nat×TF):=[(146,KC),(148,Ip),(149,Iq),(64,ya),(102,Bc)]
noncomputable def xB:CF:=xOf xL
theorem rz {w0 w:World} {v:Value} {b o:Nat} (hz: ∀b,b<w0.heap.size->w.heap[b]?=w0.heap[b]?) (h:w0.cell? ⟨b,o,none⟩=some v):w.cell? ⟨b,o,none⟩=some v:=by
 by_cases hb:b<w0.heap.size
 ·unfold World.cell? at h⊢
  rw[hz b hb]
  exact h
 ·unfold World.cell? at h
  rw[show w0.heap[({block:=b,off:=o,spot:=none}:Addr).block]?=none from Array.getElem?_eq_none (by show w0.heap.size<=b;omega)] at h
  simp at h
structure StW (w0:World):Prop where
 m: ∃m,w0.cell? ⟨2,0,none⟩=some (.int .i64 m)
 u8:Lib.Utf8Tabs 0 1 w0
theorem StW.zero {w0:World} (h:StW w0):StW {w0 with drawn:=0} where
 m:=h.m
 u8:=h.u8
theorem ME {w0 w:World} {a b:Nat} (hz: ∀b,b<w0.heap.size->w.heap[b]?=w0.heap[b]?) (h:Lib.Utf8Tabs a b w0):Lib.Utf8Tabs a b w:=
 ⟨fun c hc=>rz hz (h.1 c hc),fun i hi=>⟨rz hz (h.2 i hi).1,rz hz (h.2 i hi).2⟩⟩
section
variable {w0:World}
theorem CV {F:Nat->Prop} {w:World} {G:Nat->Value} {R:List (Nat×En)} {v:Value} {s:List UInt8} (h:aF F w G R v (.d (.str s))):v= .string ⟨⟨s⟩⟩:=aF.cy (p:= .d (.str s)) h rfl
theorem Qs:MA Tryz.prog w0 146 KC:=by
 intro h0 ps R p R1 h F G w vs hH hl hv
 unfold KC at h
 split at h
 ·rename_i s c
  split at h
  ·rename_i hc
   simp only[zal,zbB] at h
   obtain⟨rfl,rfl⟩:=h
   match vs,hl,hv with
   | [v,u],_,hv=>
    have e1:v= .string ⟨⟨s⟩⟩:=CV (hv 0 v _ rfl rfl)
    have e2:u= .string ⟨⟨c⟩⟩:=CV (hv 1 u _ rfl rfl)
    subst e1
    subst e2
    refine tT h0 hH (enters Tryz.func146 (by kernel_rfl) (by kernel_rfl) _ w) ?_
    exact(Go.Proofs.Any.strings_Trim_laid Tryz.KB (by kernel_rfl) ⟨⟨s⟩⟩ ⟨⟨c⟩⟩ w (by simpa [ByteArray.size] using hc.1) (by simpa [ByteArray.size] using hc.2.1) (Go.Proofs.ascii_of_all hc.2.2)).mono fun e w' ⟨he,hb⟩=>⟨_,he,hb,fun F G=> .d (.str _)⟩
  ·cases h
 ·cases h
theorem MF (hw:StW w0):MA Tryz.prog w0 148 Ip:=by
 intro h0 ps R p R1 h F G w vs hH hl hv
 have hz: ∀b,b<w0.heap.size->w.heap[b]?=w0.heap[b]?:=fun b hb=>(hH.z b hb).2
 unfold Ip at h
 split at h
 ·rename_i s
  split at h
  ·rename_i hc
   simp only[zal,zbB] at h
   obtain⟨rfl,rfl⟩:=h
   match vs,hl,hv with
   | [v],_,hv=>
    have e1:v= .string ⟨⟨s⟩⟩:=CV (hv 0 v _ rfl rfl)
    subst e1
    refine tT h0 hH (enters Tryz.func148 (by kernel_rfl) (by kernel_rfl) _ w) ?_
    exact(Tryz.utf8_ValidString ⟨⟨s⟩⟩ w (by simpa [ByteArray.size] using hc) (ME hz hw.u8)).mono fun e w' ⟨he,hb⟩=>⟨_,he,hb,fun F G=> .d (.bool _)⟩
  ·cases h
 ·cases h
theorem MG:MA Tryz.prog w0 149 Iq:=by
 intro h0 ps R p R1 h F G w vs hH hl hv
 unfold Iq at h
 split at h
 ·rename_i s
  split at h
  ·rename_i hc
   simp only[zal,zbB] at h
   obtain⟨rfl,rfl⟩:=h
   match vs,hl,hv with
   | [v],_,hv=>
    have e1:v= .string ⟨⟨s⟩⟩:=CV (hv 0 v _ rfl rfl)
    subst e1
    refine tT h0 hH (enters Tryz.func149 (by kernel_rfl) (by kernel_rfl) _ w) ?_
    exact(Tryz.utf8_RuneCountInString ⟨⟨s⟩⟩ w (by simpa [ByteArray.size] using hc)).mono fun e w' ⟨he,pos,hb⟩=>⟨_,he,by rw[hb];exact(Below.refl _ _).alloc (zaj _) _,fun F G=> .d (.int _ _)⟩
  ·cases h
 ·cases h
set_option maxRecDepth 100000 in
theorem zX (w0:World):MA Tryz.prog w0 64 ya:=
 Fh (kp:=x9) (fun w=>Qi _ w) Tryz.qbW (by kernel_rfl) (fun vs w=>enters Tryz.func64 (by kernel_rfl) (by kernel_rfl) vs w) (ty:=34) (k:=7) (by kernel_rfl) (fun w=>p7 (d:=_) (show Tryz.prog.underlying (Tryz.x8.t 24)=some _ from Tryz.underlying34) w) (run_sizeOf (by kernel_rfl)) w0
set_option maxRecDepth 100000 in
theorem CW (w0:World):MA Tryz.prog w0 102 Bc:=
 Fh (kp:=x9) (fun w=>Qi _ w) Tryz.Wy (by kernel_rfl) (fun vs w=>enters Tryz.func102 (by kernel_rfl) (by kernel_rfl) vs w) (ty:=132) (k:=4) (by kernel_rfl) (fun w=>p7 (d:=_) (show Tryz.prog.underlying (Tryz.u9.t 24)=some _ from Tryz.underlying132) w) (run_sizeOf (by kernel_rfl)) w0
theorem qfk {w1:World} (hw1:StW w1):dt Tryz.prog {w1 with drawn:=0} xB:=by
 have hw:=hw1.zero
 exact MB.ok rfl (.cons Qs (.cons (MF hw) (.cons MG (.cons (zX _) (.cons (CW _) .nil)))))
end
end Pi
namespace Pi
open Go Go.Proofs
set_option maxRecDepth 100000
set_option maxHeartbeats 0
structure XF where
 cf:CF
 eq: ∀f,gR f xsB=true-> ∀ps R,cf f ps R=xB f ps R
abbrev Ir (X:XF):pZ:=⟨aL,xsT,X.cf⟩
def qe (f id:Nat):Nat:=match lk qbX f with |some l=>(lk l id).getD 2 |none=>2
theorem MH:nv qe 0 Tryz.prog.funcs.toList=true:=by kernel_rfl
noncomputable abbrev PR:=Tryz.prog
noncomputable def aD (H:List (FuncId×bq)) (hk:List (Nat×(S->K (PX×S)))) (f id:Nat) (s:S):K (PX×S):=
 wU (fe PR (runK PR x9 qe H 60 60) (aL f) hk (qe f) 60 (bx PR f id)) (aL f id) s
noncomputable def aJ (H:List (FuncId×bq)) (hk:List (Nat×(S->K (PX×S)))) (f:Nat) (ps:List P) (R:List (Nat×En)):K (P×List (Nat×En)):=
 mB PR (runK PR x9 qe H 60 60) x9 hk qe 60 f ps R
def FD (X:XF) (f:Nat) (h:bq):Prop:=Oa PR (Ir X) f h
def HD (X:XF) (H:List (FuncId×bq)):Prop:=Kp PR (Ir X) H
def LD (X:XF) (f id:Nat) (g:S->K (PX×S)):Prop:= ∀s,KW (g s) (fun x=>Ev fun a b=>iy (bz PR (fc PR (Ir X) a b) (aL f) a (bx PR f id)) (aL f id) a s=some x)
theorem HD.nil {X:XF}:HD X []:=Kp.nil
theorem HD.cons {X:XF} {f:Nat} {h:bq} {H:List (FuncId×bq)} (hf:FD X f h) (hH:HD X H):HD X ((f,h)::H):=Kp.cons hf hH
inductive Qt (X:XF) (f:Nat):List (Nat×(S->K (PX×S)))->Prop
 |nil:Qt X f []
 |cons {id:Nat} {g:S->K (PX×S)} {r:List (Nat×(S->K (PX×S)))} (h:LD X f id g) (hr:Qt X f r):Qt X f ((id,g)::r)
theorem Qt.get {X:XF} {f:Nat} {hk:List (Nat×(S->K (PX×S)))} (h:Qt X f hk): ∀id g,lk hk id=some g->LD X f id g:=by
 induction h with
 |nil=>exact Ks
 |cons h hr ih=>exact Wq h ih
theorem FD.mk {X:XF} {H:List (FuncId×bq)} {hk:List (Nat×(S->K (PX×S)))} {f:Nat} {h:bq} (hu:uniq PR f=true) (hH:HD X H) (hl:Qt X f hk) (hb: ∀ps R post,h ps R post->aJ H hk f ps R post):FD X f h:=
 Oa.mk MH hH hu hl.get (fun ps R post hp=>by
  have:=hb ps R post hp
  unfold aJ at this
  rw[CR PR aL xsT _ X.cf qe H 60 60] at this
  exact this)
theorem LD.par {X:XF} {H:List (FuncId×bq)} {hk:List (Nat×(S->K (PX×S)))} {f id:Nat} {g:S->K (PX×S)} (hu:uniq PR f=true) (hc:b8 (qe f) (bx PR f id)=true) (hH:HD X H) (hl:Qt X f hk)
  {A B:Type} (hd:A->B->S) (Inv:A->B->Prop) (mu:A->B->Nat) (Out:A->PX×S->Prop)
  (hr: ∀a b,Inv a b->aD H hk f id (hd a b) (roundPost (mu a b) (fun m s=> ∃b',s=hd a b'/\Inv a b'/\m=mu a b') (Out a)))
  (hg: ∀s post,g s post-> ∃a b,s=hd a b/\Inv a b/\ ∀x,Out a x->post x):LD X f id (ae (aL f id) g):=by
 refine Fg fun s0 post hp=> ?_
 obtain⟨a,b,rfl,h1,h2⟩:=hg s0 post hp
 obtain⟨x,g1,g2⟩:=Wj (keep:=aL f id) (kp1:=aL f) (O:=Out a) MH hH hc (fun d hd h hh=>by
  have:=hl.get _ _ hh
  unfold LD at this
  rwa [tR hu hd] at this) (I:=fun m s=> ∃b',s=hd a b'/\Inv a b'/\m=mu a b') (fun n s hs=>by
   obtain⟨b',rfl,h3,rfl⟩:=hs
   have:=hr a b' h3
   unfold aD at this
   rw[CR PR aL xsT _ X.cf qe H 60 60] at this
   exact this) (mu a b) (hd a b) ⟨b,rfl,h1,rfl⟩
 exact⟨x,g2,h2 x g1⟩
theorem FD.weaken {X:XF} {f:Nat} {h1 h2:bq} (h:FD X f h1) (hw: ∀ps R post,h2 ps R post->h1 ps R post):FD X f h2:=fun ps R post hp=>h ps R post (hw ps R post hp)
theorem FD.sJ {X:XF} {f:Nat} {fn:Func} {h:bq} (fX:PR.funcs[f]?=some fn) (hx:gR f xsT=true) (zY:gR f xsB=true) (hb: ∀ps R post,h ps R post-> ∃x,xB f ps R=some x/\post x):FD X f h:=
 Oa.sJ fX hx fun ps R post hp=>by
  obtain⟨x,h1,h2⟩:=hb ps R post hp
  exact⟨x,by rw[<-h1];exact X.eq f zY ps R,h2⟩
theorem FD.run {X:XF} {f:Nat} {h:bq} (hf:FD X f h) {ps:List P} {R:List (Nat×En)} {y:P×List (Nat×En)} (hp:h ps R (fun x=>x=y)): ∃lf k,fc PR (Ir X) lf k f ps R=some y:=by
 obtain⟨x,h1,h2⟩:=hf ps R _ hp
 subst h2
 exact h1.some
def FC (f:Nat) (h:bq):Prop:=Oa PR x9 f h
def HC (H:List (FuncId×bq)):Prop:=Kp PR x9 H
theorem HC.nil:HC []:=Kp.nil
theorem HC.cons {f:Nat} {h:bq} {H:List (FuncId×bq)} (hf:FC f h) (hH:HC H):HC ((f,h)::H):=Kp.cons hf hH
theorem FC.mk {H:List (FuncId×bq)} {f:Nat} {h:bq} (hu:uniq PR f=true) (hH:HC H) (hb: ∀ps R post,h ps R post->aJ H [] f ps R post):FC f h:=
 Oa.mk MH hH hu Ks hb
noncomputable def KD:XF:=⟨xB,fun _ _ _ _=>rfl⟩
def eo (l:List Int) (r:Int):Int:=if r<1\/r>l.length then 0 else l.getD (r-1).toNat 0
def pD (l:List Int):Nat->Nat
 |0=>0
 |k+1=>if l.getD k 0=0 then pD l k else k+1
def bp (l:List Int):List Int:=l.take (pD l l.length)
def oA (n:Nat) (f:Nat->Int):List Int:=(List.range n).map f
def Wz (v w:List Int):List Int:=oA (max v.length w.length) fun i=>max (eo v (i+1)) (eo w (i+1))
def gI (v:List Int) (r n:Int):List Int:=oA (max v.length r.toNat) fun i=>if(i:Int)+1=r then n else eo v (i+1)
def mg (v w:List Int):List Int:=bp (Wz v w)
def db (v:List Int):Bool:=decide ((∀n∈v,0<=n)/\v.length<=16/\(bp v).length=v.length)
@[simp] theorem Fw (n:Nat) (f:Nat->Int):(oA n f).length=n:=by simp[oA]
theorem pF (l:List Int): ∀k,pD l k<=k
 |0=>zaj 0
 |k+1=>by
  have:=pF l k
  unfold pD
  split<;>omega
@[simp] theorem nN (l:List Int):(bp l).length=pD l l.length:=by
 have:=pF l l.length
 simp[bp];omega
theorem CX (l:List Int) (i:Nat):eo l ((i:Int)+1)=l.getD i 0:=by
 unfold eo
 split
 ·rename_i h
  have h:l.length<=i:=by omega
  simp[zac,zbm h]
 ·have:((i:Int)+1-1).toNat=i:=by omega
  rw[this]
theorem lT (l:List Int) {r:Int} (h:1<=r):eo l r=l.getD (r-1).toNat 0:=by
 obtain⟨k,rfl⟩: ∃k:Nat,r=(k:Int)+1:=⟨(r-1).toNat,by omega⟩
 rw[CX]
 congr 1
 omega
theorem sN (n:Nat) (f:Nat->Int) (i:Nat):(oA n f).getD i 0=if i<n then f i else 0:=by
 simp only[oA,zac,zaJ]
 split
 ·rename_i h;simp[h]
 ·rename_i h;simp[h]
theorem Fx (l:List Int): ∀k i,pD l k<=i->i<k->l.getD i 0=0
 |0,i,_,h=>by omega
 |k+1,i,h1,h2=>by
  unfold pD at h1
  split at h1
  ·by_cases e:i=k
   ·subst e;assumption
   ·exact Fx l k i h1 (by omega)
  ·omega
theorem Fy (l:List Int): ∀k,pD l k≠0->l.getD (pD l k-1) 0≠0
 |0,h=>by simp[pD] at h
 |k+1,h=>by
  unfold pD at h⊢
  split
  ·rename_i h0
   rw[zao h0] at h
   exact Fy l k h
  ·simpa
theorem yb (l:List Int) (i:Nat):(bp l).getD i 0=l.getD i 0:=by
 have h0:=pF l l.length
 unfold bp
 by_cases h:i<pD l l.length
 ·simp[zac,h]
 ·rw[zac,zbm (by simp;omega)]
  by_cases h2:i<l.length
  ·exact(Fx l l.length i (by omega) h2).symm
  ·simp[zac,zbm (show l.length<=i by omega)]
theorem Fz (l:List Int) (n:Nat): ∀k,k<=n->pD (l.take n) k=pD l k
 |0,_=>rfl
 |k+1,h=>by
  have e:(l.take n).getD k 0=l.getD k 0:=by simp[zac,show k<n by omega]
  unfold pD
  rw[e,Fz l n k (by omega)]
theorem WA (l:List Int) (k:Nat):pD l (pD l k)=pD l k:=by
 cases h:pD l k with
 |zero=>rfl
 |succ m=>
  have:=Fy l k (by omega)
  rw[h] at this
  unfold pD
  rw[zam (by simpa using this)]
theorem FA (l:List Int):bp (bp l)=bp l:=by
 have h0:=pF l l.length
 have:pD (bp l) (bp l).length=pD l l.length:=by
  rw[nN]
  unfold bp
  rw[Fz _ _ _ (zaj _),WA]
 rw[bp,this,zai (by simp)]
theorem ext_get {a b:List Int} (hl:a.length=b.length) (h: ∀i,a.getD i 0=b.getD i 0):a=b:=by
 apply zbX hl
 intro i h1 h2
 have:=h i
 simpa [zac,h1,h2] using this
theorem nO {v:List Int} {i:Nat} (h:v.length<=i):v.getD i 0=0:=by
 simp[zac,zbm h]
theorem Qu (v w:List Int) (i:Nat):(Wz v w).getD i 0=max (v.getD i 0) (w.getD i 0):=by
 unfold Wz
 rw[sN]
 split
 ·rw[CX,CX]
 ·rw[nO (v:=v) (by omega),nO (v:=w) (by omega)];rfl
abbrev MI (t r i:Int):D:= .agg [.int .i64 t,.int .i64 r,.int .i64 i]
abbrev U7 (t r:Int):D:= .agg [.int .i64 t,.int .i64 r]
def tU (t r:Int):Bool:=decide (1<=t/\t<=1099511627776/\1<=r/\r<=16)
def cp (t r i:Int):Bool:=decide (1<=t/\t<=1099511627776/\1<=r/\r<=16/\0<=i/\i<=400000)
def Z3:D:=D.bool false
def Z4 (post:P×List (Nat×En)->Prop):Prop:=post (P.d Z3,[])
def Z2 (i:Int):Bool:=decide (i>=(0:Int))
def Z1:Int:=(1099511627776:Int)
def Z0 (t:Int):Bool:=decide (t>=(1:Int))
theorem MJ (t r i:Int) (post:P×List (Nat×En)->Prop):(bif Z0 t then bif decide (t<=Z1) then bif Z0 r then bif decide (r<=(16:Int)) then bif Z2 i then post (P.d (D.bool (decide (i<=(400000:Int)))),[]) else Z4 post else Z4 post else Z4 post else Z4 post else Z4 post)=(aJ [] [] 147 [.d (MI t r i)] []) post:=by kernel_rfl
theorem Is (t r i:Int) (post:P×List (Nat×En)->Prop):(bif Z0 t then bif decide (t<=Z1) then bif Z0 r then bif decide (r<=(16:Int)) then bif Z2 i then post (P.d (D.bool (decide (i<=(400000:Int)))),[]) else Z4 post else Z4 post else Z4 post else Z4 post else Z4 post)=(aJ [] [] 151 [.d (MI t r i)] []) post:=by kernel_rfl
def mL:bq:=fun ps R post=> ∃t r i,ps=[.d (MI t r i)]/\R=[]/\post (.d (.bool (cp t r i)),[])
def aZ (l:List Int):List D:=l.map (D.int .i64)
abbrev vD (v:List Int):P:= .d (.sl 1 (aZ v))
def Iu:bq:=fun ps R post=> ∃l r,ps=[vD l,.d (.int .i64 r)]/\R=[]/\l.length<=9223372036854775807/\post (.d (.int .i64 (eo l r)),[])
def Zc (r:Int):Nat:=Int.toNat (r-(1:Int))
def Za:Int:=(9223372036854775807:Int)
def Z9:Int:=(-9223372036854775808:Int)
def Zb (r:Int):Bool:=decide (Z9<=r-(1:Int)/\r-(1:Int)<=Za)
def Z7:D:=D.int .i64 (0:Int)
def Z8 (post:P×List (Nat×En)->Prop):Prop:=post (P.d Z7,[])
def Z6 (r:Int):Bool:=decide (r<(1:Int))
theorem qh0 (es:List D) (r:Int) (post:P×List (Nat×En)->Prop):(bif Z6 r then Z8 post else bif decide (r>(↑(List.length es):Int)) then Z8 post else bif Zb r then bif decide ((0:Int)<=r-(1:Int)/\r-(1:Int)<(↑(List.length es):Int)) then bif cC PR (3:TypeId) (D.nth es (Zc r)) then post (P.d (D.int .i64 (D.ah (D.nth es (Zc r)))),[]) else False else False else False)=(aJ [] [] 31 [.d (.sl 1 es),.d (.int .i64 r)] []) post:=by kernel_rfl
theorem qfl (es:List D) (r:Int) (post:P×List (Nat×En)->Prop):(bif Z6 r then Z8 post else bif decide (r>(↑(List.length es):Int)) then Z8 post else bif Zb r then bif decide ((0:Int)<=r-(1:Int)/\r-(1:Int)<(↑(List.length es):Int)) then bif cC PR (3:TypeId) (D.nth es (Zc r)) then post (P.d (D.int .i64 (D.ah (D.nth es (Zc r)))),[]) else False else False else False)=(aJ [] [] 13 [.d (.sl 1 es),.d (.int .i64 r)] []) post:=by kernel_rfl
variable {X:XF}
theorem Qv {post:P×List (Nat×En)->Prop} {k:IntKind} {a b:Int} {R:List (Nat×En)} (hp:post (P.d (D.int k a),R)) (h:a=b):post (P.d (D.int k b),R):=h▸hp
theorem fM {post:P×List (Nat×En)->Prop} {a b:Bool} {R:List (Nat×En)} (hp:post (P.d (D.bool a),R)) (h:a=b):post (P.d (D.bool b),R):=h▸hp
theorem MK:FD X 147 mL:=FD.mk (H:=[]) (by kernel_rfl) .nil .nil (by
 intro ps R post hh
 obtain⟨t,r,i,rfl,rfl,hp⟩:=hh
 (rw[<-MJ];delta Z3 Z4 Z2 Z1 Z0)
 repeat' (first |refine ax (fun _=> ?_) (fun _=> ?_))
 all_goals exact fM hp (by simp only[zah,zaO,zbH,cp] at*;omega))
theorem rA:FD X 151 mL:=FD.mk (H:=[]) (by kernel_rfl) .nil .nil (by
 intro ps R post hh
 obtain⟨t,r,i,rfl,rfl,hp⟩:=hh
 (rw[<-Is];delta Z3 Z4 Z2 Z1 Z0)
 repeat' (first |refine ax (fun _=> ?_) (fun _=> ?_))
 all_goals exact fM hp (by simp only[zah,zaO,zbH,cp] at*;omega))
@[simp] theorem dE (l:List Int):(aZ l).length=l.length:=by simp[aZ]
theorem k7 {l:List Int} {i:Nat} (h:i<l.length):D.nth (aZ l) i= .int .i64 (l.getD i 0):=by
 simp[D.nth,aZ,h]
theorem Iv (n:Int):cC PR 3 (.int .i64 n)=true:=by kernel_rfl
theorem Qw {post:P×List (Nat×En)->Prop} {l:List Int} {r:Int} (hl:l.length<=9223372036854775807) (hp:post (.d (.int .i64 (eo l r)),[])):
  bif decide (r<1) then post (.d (.int .i64 0),[]) else bif decide (r>(l.length:Int)) then post (.d (.int .i64 0),[]) else
   bif decide (-9223372036854775808<=r-1/\r-1<=9223372036854775807) then bif decide (0<=r-1/\r-1<(l.length:Int)) then bif cC PR 3 (D.nth (aZ l) (r-1).toNat) then post (.d (.int .i64 (D.nth (aZ l) (r-1).toNat).ah),[]) else False else False else False:=by
 refine ax (fun h=> ?_) fun h=>ax (fun h'=> ?_) fun h'=> ?_
 ·exact Qv hp (by simp only[zah] at h;simp[eo,h])
 ·exact Qv hp (by simp only[zah] at h';simp[eo,h'])
 ·simp only[zaO] at h h'
  have bG:(r-1).toNat<l.length:=by omega
  rw[k7 bG]
  refine ao (by simp;omega) (ao (by simp;omega) (ao (Iv _) ?_))
  exact Qv hp (by rw[eo,zam (by omega)];rfl)
theorem qh1:FD X 31 Iu:=FD.mk (H:=[]) (by kernel_rfl) .nil .nil (by
 intro ps R post hh
 obtain⟨l,r,rfl,rfl,hl,hp⟩:=hh
 (rw[<-qh0];delta Zc Za Z9 Zb Z7 Z8 Z6)
 simp only[dE]
 exact Qw hl hp)
theorem yc:FD X 13 Iu:=FD.mk (H:=[]) (by kernel_rfl) .nil .nil (by
 intro ps R post hh
 obtain⟨l,r,rfl,rfl,hl,hp⟩:=hh
 (rw[<-qfl];delta Zc Za Z9 Zb Z7 Z8 Z6)
 simp only[dE]
 exact Qw hl hp)
abbrev iD (n:Int):P:= .d (.int .i64 n)
abbrev qbY (v w:List Int) (k:Int):S:=⟨26,[(0,vD v),(1,vD w),(5,iD k)],[]⟩
abbrev WB (v:List Int):S:=⟨21,[(0,vD v)],[]⟩
abbrev qbZ (v:List Int) (k:Int):S:=⟨21,[(0,vD v),(3,iD k)],[]⟩
abbrev qfm (v w o:List Int) (m:Nat) (k:Int):S:=⟨28,[(0,vD v),(1,vD w),(5,P.sl 0 0 m),(6,iD k)],[(0,⟨0,none,.arr 3 false (aZ o)⟩)]⟩
abbrev qfn (v o:List Int) (r n:Int) (m:Nat) (k:Int):S:=⟨39,[(0,vD v),(1,iD r),(2,iD n),(8,P.sl 0 0 m),(9,iD k)],[(0,⟨0,none,.arr 3 false (aZ o)⟩)]⟩
abbrev qb0 (v:List Int) (n k:Int):S:=⟨25,[(0,vD v),(5,vD v),(6,iD n),(7,iD k)],[]⟩
abbrev qb1 (v:List Int) (k:Int):S:=⟨24,[(0,vD v),(3,iD k)],[]⟩
def Zn (k:Int):D:=D.int .i64 (k+(1:Int))
def Zo (k:Int):List (Nat×P):=[(5,P.d (Zn k))]
def Zk (v:List Int):P:=P.d (D.sl 1 (aZ v))
def Zm (w:List Int):Nat×P:=(1,Zk w)
def Zl (v:List Int):Nat×P:=(0,Zk v)
def Zj (k:Int):Bool:=decide (Z9<=k+(1:Int)/\k+(1:Int)<=Za)
def Zi:List (Nat×P):=[(4,P.d Z3)]
def Zg (k:Int):Nat:=Int.toNat k
noncomputable def Zh (v:List Int) (k:Int):Bool:=cC PR (3:TypeId) (D.nth (aZ v) (Zg k))
def Ze (v:List Int):Int:=(↑(List.length (aZ v)):Int)
def Zf (k:Int) (v:List Int):Bool:=decide ((0:Int)<=k/\k<Ze v)
theorem qb2 (v w:List Int) (k:Int) (post:PX×S->Prop):(bif decide (k<Ze v) then bif Zf k v then bif Zh v k then bif Zf k w then bif Zh w k then bif D.ah (D.nth (aZ v) (Zg k)) !=D.ah (D.nth (aZ w) (Zg k)) then post (PX.ret,S.mk 26 Zi []) else bif Zj k then post (PX.normal,S.mk 26 (Zl v::Zm w::Zo k) []) else False else False else False else False else False else post (PX.exit 0,S.mk 26 [] []))=(aD [] [] 26 4 (qbY v w k)) post:=by kernel_rfl
def Zq (post:PX×S->Prop) (v:List Int):Prop:=post (PX.exit 0,S.mk 21 [Zl v] [])
def Zp (v:List Int):Bool:=decide (Z9<=Ze v-(1:Int)/\Ze v-(1:Int)<=Za)
theorem qb3 (v:List Int) (post:PX×S->Prop):(bif decide (Ze v>(0:Int)) then bif Zp v then bif decide ((0:Int)<=Ze v-(1:Int)/\Ze v-(1:Int)<Ze v) then bif cC PR (3:TypeId) (D.nth (aZ v) (Int.toNat (Ze v-(1:Int)))) then bif D.ah (D.nth (aZ v) (Int.toNat (Ze v-(1:Int))))==(0:Int) then bif Zp v then bif decide ((0:Int)<=Ze v-(1:Int)/\Ze v-(1:Int)<=Ze v) then post (PX.normal,S.mk 21 [(0,P.d (D.sl 1 (List.drop 0 (List.take (Int.toNat (Ze v-(1:Int))) (aZ v)))))] []) else False else False else Zq post v else False else False else False else Zq post v)=(aD [] [] 74 1 (WB v)) post:=by kernel_rfl
def Zt (k:Int):D:=D.int .i64 k
def Zu (k:Int):List (Nat×P):=[(3,P.d (Zt k))]
def Zs (k:Int):P:=P.d (D.int .i64 (k-(1:Int)))
def Zr (k:Int):Bool:=decide (k>(0:Int))
theorem qb4 (v:List Int) (k:Int) (post:PX×S->Prop):(bif Zr k then bif Zb k then bif decide ((0:Int)<=k-(1:Int)/\k-(1:Int)<Ze v) then bif cC PR (3:TypeId) (D.nth (aZ v) (Zc k)) then bif D.ah (D.nth (aZ v) (Zc k))==(0:Int) then bif Zb k then post (PX.normal,S.mk 21 [Zl v,(3,Zs k)] []) else False else post (PX.exit 0,S.mk 21 (Zl v::Zu k) []) else False else False else False else post (PX.exit 0,S.mk 21 (Zl v::Zu k) []))=(aD [] [] 75 2 (qbZ v k)) post:=by kernel_rfl
def ZD (o:List Int):List (Nat×En):=[(0,En.mk 0 none (Obj.arr (3:TypeId) false (aZ o)))]
def ZB (m:Nat):P:=P.sl 0 0 m
def ZC (m:Nat):Nat×P:=(5,ZB m)
def ZA (k:Int):List (Nat×P):=[(6,P.d (Zn k))]
def Zy:Nat:=9223372036854775807
def Zz (l:List Int):Prop:=List.length l<=Zy
def Zx:Prop:=EqR [] []
def Zv (k:Int):List P:=[P.d (Zt k)]
def Zw (v:List Int) (k:Int) (l:List Int) (r:Int):Prop:=Zk v::Zv k=Zk l::Zv r
theorem qb5 (v w o:List Int) (m:Nat) (k:Int) (post:PX×S->Prop):(bif decide (k<=max (Ze v) (Ze w)) then∃(l:List Int) (r:Int),Zw v k l r/\Zx/\Zz l/\ ∃(ar:List Int) (cz:Int),Zw w k ar cz/\Zx/\Zz ar/\bif Nat.ble m (List.length (aZ o))&&aN (m+List.length [D.int .i64 (max (eo l r) (eo ar cz))]) 8 then bif Zj k then post (PX.normal,S.mk 28 (Zl v::Zm w::(5,P.sl 0 0 (m+List.length [D.int .i64 (max (eo l r) (eo ar cz))]))::ZA k) [(0,En.mk 0 none (Obj.arr (3:TypeId) false (List.take m (aZ o)++[D.int .i64 (max (eo l r) (eo ar cz))])))]) else False else False else post (PX.exit 0,S.mk 28 [ZC m] (ZD o)))=(aD [(13,Iu)] [] 47 3 (qfm v w o m k)) post:=by kernel_rfl
def ZH (k:Int):List (Nat×P):=[(9,P.d (Zn k))]
def ZG (n:Int):Nat×P:=(2,P.d (Zt n))
def ZF (r:Int):Nat×P:=(1,P.d (Zt r))
def ZE (n:Int):List D:=[Zt n]
theorem qb6 (v o:List Int) (r n:Int) (m:Nat) (k:Int) (post:PX×S->Prop):(bif decide (k<=max (Ze v) r) then bif k==r then bif Nat.ble m (List.length (aZ o))&&aN (m+List.length (ZE n)) 8 then bif Zj k then post (PX.normal,S.mk 39 (Zl v::ZF r::ZG n::(8,P.sl 0 0 (m+List.length (ZE n)))::ZH k) [(0,En.mk 0 none (Obj.arr (3:TypeId) false (List.take m (aZ o)++ZE n)))]) else False else False else∃(l:List Int) (cz:Int),Zw v k l cz/\Zx/\Zz l/\bif Nat.ble m (List.length (aZ o))&&aN (m+List.length [D.int .i64 (eo l cz)]) 8 then bif Zj k then post (PX.normal,S.mk 39 (Zl v::ZF r::ZG n::(8,P.sl 0 0 (m+List.length [D.int .i64 (eo l cz)]))::ZH k) [(0,En.mk 0 none (Obj.arr (3:TypeId) false (List.take m (aZ o)++[D.int .i64 (eo l cz)])))]) else False else False else post (PX.exit 0,S.mk 39 [(8,ZB m)] (ZD o)))=(aD [(13,Iu)] [] 46 5 (qfn v o r n m k)) post:=by kernel_rfl
def ZL (k:Int):List (Nat×P):=[(7,P.d (Zn k))]
def ZK (n:Int):Nat×P:=(6,P.d (Zt n))
def ZJ:List (Nat×P):=[(2,P.d Z3)]
def ZI (k:Int) (n:Int):Bool:=decide (k<n)
theorem qb7 (v:List Int) (n k:Int) (post:PX×S->Prop):(bif ZI k n then bif Zf k v then bif Zh v k then bif decide (D.ah (D.nth (aZ v) (Zg k))<(0:Int)) then post (PX.ret,S.mk 25 (Zl v::ZJ) []) else bif Zj k then post (PX.normal,S.mk 25 (Zl v::(5,Zk v)::ZK n::ZL k) []) else False else False else False else post (PX.exit 0,S.mk 25 [Zl v] []))=(aD [] [] 108 2 (qb0 v n k)) post:=by kernel_rfl
def ZM (k:Int):List (Nat×P):=[(3,P.d (Zn k))]
theorem qb8 (v:List Int) (k:Int) (post:PX×S->Prop):(bif decide (k<Ze v) then bif Zf k v then bif Zh v k then bif decide (D.ah (D.nth (aZ v) (Zg k))<(0:Int)) then post (PX.ret,S.mk 24 (Zl v::ZJ) []) else bif Zj k then post (PX.normal,S.mk 24 (Zl v::ZM k) []) else False else False else False else post (PX.exit 0,S.mk 24 [Zl v] []))=(aD [] [] 105 2 (qb1 v k)) post:=by kernel_rfl
variable {X:XF}
theorem pG {k:Int} (h0: -9223372036854775808<=k) (h1:k<9223372036854775807):decide ((-9223372036854775808:Int)<=k+(1:Int)/\k+(1:Int)<=(9223372036854775807:Int))=true:=by simp;omega
theorem k8 {p:Prop} [Decidable p] (h:p):decide p=true:=by simpa using h
theorem k9 {p:Prop} [Decidable p] (h: ¬p):decide p=false:=by simpa using h
theorem bf {p:Prop} [Decidable p] {A B:Prop} (h1:p->A) (h2: ¬p->B):cond (decide p) A B:=ax (fun h=>h1 (by simpa using h)) (fun h=>h2 (by simpa using h))
theorem bs {p:Prop} [Decidable p] {A:Prop} (h1:p) (h2:A):cond (decide p) A False:=ao (by simpa using h1) h2
theorem hQ {a b:Int} {A B:Prop} (h1:a=b->A) (h2:a≠b->B):cond (a==b) A B:=ax (fun h=>h1 (by simpa using h)) (fun h=>h2 (by simpa using h))
theorem Bd {a b:Int} {A B:Prop} (h1:a≠b->A) (h2:a=b->B):cond (a !=b) A B:=ax (fun h=>h1 (by simpa using h)) (fun h=>h2 (by simpa using h))
theorem tV {o:List Int} {m:Nat} (h:m=o.length) (x:Int):List.take m (aZ o)++[D.int .i64 x]=aZ (o++[x]):=by
 subst h
 rw[zai (by simp)]
 simp[aZ]
theorem qfo {m n b:Nat} (h:(m+n)*b<=140737488355328) (h2:m+n<=9223372036854775807) (l:List D) (hm:m<=l.length):(Nat.ble m l.length&&aN (m+n) b)=true:=by
 simp[hm,cT h h2]
abbrev iP (v:List Int):Prop:=v.length<=1000000
def qb9:S->K (PX×S):=fun s post=> ∃v w,s=qbY v w 0/\(v.length=w.length/\iP v)/\(v≠w->post (.ret,⟨26,[(4,.d (.bool false))],[]⟩))/\(v=w->post (.exit 0,⟨26,[],[]⟩))
theorem WC:LD X 26 4 (ae (aL 26 4) qb9):=LD.par (H:=[]) (hk:=[]) (by kernel_rfl) (by kernel_rfl) .nil .nil
 (A:=List Int×List Int) (B:=Int) (fun a k=>qbY a.1 a.2 k)
 (fun a k=>(a.1.length=a.2.length/\iP a.1)/\0<=k/\k<=a.1.length/\ ∀i:Nat,(i:Int)<k->a.1.getD i 0=a.2.getD i 0)
 (fun a k=>(a.1.length-k).toNat)
 (fun a x=>(a.1≠a.2/\x=(.ret,⟨26,[(4,.d (.bool false))],[]⟩))\/(a.1=a.2/\x=(.exit 0,⟨26,[],[]⟩)))
 (by
  rintro⟨v,w⟩ k ⟨⟨hl,hs⟩,h0,h1,he⟩
  dsimp only at*
  (rw[<-qb2];delta Zn Zo Zk Zm Zl Za Z9 Zj Z3 Zi Zg Zh Ze Zf)
  simp only[dE]
  unfold iP at hs
  refine bf (fun h=> ?_) fun h=> ?_
  ·rw[k7 (by omega),k7 (by omega)]
   refine bs (by omega) (ao (Iv _) (bs (by omega) (ao (Iv _) (Bd (fun h'=> ?_) fun h'=>ao (pG (by omega) (by omega)) ?_))))
   ·exact .inl ⟨fun e=>h' (by rw[e]),rfl⟩
   ·exact⟨_,by omega,k+1,rfl,⟨⟨hl,hs⟩,by omega,by omega,fun i hi=>by
     by_cases e:(i:Int)=k
     ·have:i=k.toNat:=by omega
      rw[this];exact h'
     ·exact he i (by omega)⟩,rfl⟩
  ·exact .inr ⟨ext_get hl fun i=>by
    by_cases hi:(i:Int)<k
    ·exact he i hi
    ·rw[nO (by omega),nO (by omega)],rfl⟩)
 (by
  rintro s post ⟨v,w,rfl,h1,h2,h3⟩
  refine⟨(v,w),0,rfl,⟨h1,by omega,by omega,fun i hi=>by omega⟩,?_⟩
  rintro x (⟨h,rfl⟩| ⟨h,rfl⟩)
  ·exact h2 h
  ·exact h3 h)
theorem ML (v:List Int) (n:Nat):(aZ v).take n=aZ (v.take n):=by simp[aZ]
def qca:S->K (PX×S):=fun s post=> ∃v,s=WB v/\iP v/\post (.exit 0,⟨21,[(0,vD (bp v))],[]⟩)
theorem WD:LD X 74 1 (ae (aL 74 1) qca):=LD.par (H:=[]) (hk:=[]) (by kernel_rfl) (by kernel_rfl) .nil .nil
 (A:=List Int) (B:=Nat) (fun a k=>WB (a.take k))
 (fun a k=>iP a/\k<=a.length/\pD a k=pD a a.length)
 (fun a k=>k)
 (fun a x=>x=(.exit 0,⟨21,[(0,vD (bp a))],[]⟩))
 (by
  rintro v k ⟨hs,h1,he⟩
  (rw[<-qb3];delta Zk Zl Zq Za Ze Z9 Zp)
  have hlen:(v.take k).length=k:=by simp;omega
  unfold iP at hs
  simp only[dE,hlen]
  refine bf (fun h=> ?_) fun h=> ?_
  ·have hk:((k:Int)-1).toNat=k-1:=by omega
   have hg:(v.take k).getD (k-1) 0=v.getD (k-1) 0:=by simp[zac,show k-1<k by omega]
   obtain⟨j,rfl⟩: ∃j,k=j+1:=⟨k-1,by omega⟩
   simp only[hk]
   rw[k7 (by omega),hg]
   simp only[Nat.add_sub_cancel] at*
   refine bs (by omega) (bs (by omega) (ao (Iv _) (hQ (fun h'=> ?_) fun h'=> ?_)))
   ·replace h':v.getD j 0=0:=h'
    refine bs (by omega) (bs (by omega) ?_)
    refine⟨_,zcx j,j,?_,⟨hs,by omega,by rw[<-he,pD,zao h']⟩,rfl⟩
    simp[WB,aZ,List.take_take]
   ·replace h':v.getD j 0≠0:=h'
    have:bp v=v.take (j+1):=by rw[bp,<-he,pD,zam h']
    show _=_
    rw[this]
  ·have:k=0:=by omega
   subst this
   have:bp v=v.take 0:=by rw[bp,<-he];rfl
   show _=_
   rw[this])
 (by
  rintro s post ⟨v,rfl,h1,h2⟩
  refine⟨v,v.length,by rw[zak],⟨h1,zaj _,rfl⟩,?_⟩
  rintro x rfl
  exact h2)
def qcb:S->K (PX×S):=fun s post=> ∃v n,s=qbZ v n/\(n=(v.length:Int)/\iP v)/\post (.exit 0,⟨21,[(0,vD v),(3,iD (pD v v.length))],[]⟩)
theorem WE:LD X 75 2 (ae (aL 75 2) qcb):=LD.par (H:=[]) (hk:=[]) (by kernel_rfl) (by kernel_rfl) .nil .nil
 (A:=List Int) (B:=Int) (fun a k=>qbZ a k)
 (fun a k=>iP a/\0<=k/\k<=a.length/\pD a k.toNat=pD a a.length)
 (fun a k=>k.toNat)
 (fun a x=>x=(.exit 0,⟨21,[(0,vD a),(3,iD (pD a a.length))],[]⟩))
 (by
  rintro v k ⟨hs,h0,h1,he⟩
  (rw[<-qb4];delta Zt Zu Zs Zk Zl Zc Ze Za Z9 Zb Zr)
  unfold iP at hs
  simp only[dE]
  refine bf (fun h=> ?_) fun h=> ?_
  ·have hj:k.toNat=(k-1).toNat+1:=by omega
   rw[k7 (by omega)]
   refine bs (by omega) (bs (by omega) (ao (Iv _) (hQ (fun h'=> ?_) fun h'=> ?_)))
   ·replace h':v.getD (k-1).toNat 0=0:=h'
    refine bs (by omega) ⟨_,by omega,k-1,rfl,⟨hs,by omega,by omega,by rw[<-he,hj,pD,zao h']⟩,rfl⟩
   ·replace h':v.getD (k-1).toNat 0≠0:=h'
    rw[hj,pD,zam h'] at he
    show _=_
    rw[<-he]
    simp
    omega
  ·have:k=0:=by omega
   subst this
   show _=_
   rw[<-he]
   rfl)
 (by
  rintro s post ⟨v,n,rfl,⟨hn,h1⟩,h2⟩
  refine⟨v,n,rfl,⟨h1,by omega,by omega,by rw[hn];rfl⟩,?_⟩
  rintro x rfl
  exact h2)
variable {X:XF}
def Qx (f:Nat->Int) (k:Nat) (o:List Int):Prop:= ∀i,i<k->o.getD i 0=f i
theorem Qx.set {f:Nat->Int} {k:Nat} {o:List Int} (h:Qx f k o) (hk:k<o.length):Qx f (k+1) (o.set k (f k)):=fun i hi=>by
 by_cases e:i=k
 ·subst e;simp[zac,hk]
 ·have:=h i (by omega)
  simpa [zac,List.getElem?_set,zbC e] using this
theorem Qx.all {f:Nat->Int} {o:List Int} (h:Qx f o.length o):o=oA o.length f:=ext_get (by simp) fun i=>by
 rw[sN]
 split
 ·exact h i (by assumption)
 ·exact nO (by omega)
theorem MN (n:Nat) (f:Nat->Int):oA (n+1) f=oA n f++[f n]:=by simp[oA,List.range_succ]
theorem qaI {m:Nat} (h:m<=1000000) (x:D):aN (m+List.length [x]) 8=true:=cT (by simp;omega) (by simp;omega)
def FB (g:Int->Int->Int) (v w:List Int) (n:Nat):List Int:=oA n fun i=>g (eo v (i+1)) (eo w (i+1))
theorem KE {f id n t:Nat} {H:List (FuncId×bq)} (hH:HD X H) (hu:uniq PR f=true) (hc:b8 (qe f) (bx PR f id)=true)
  {A:Type} (hd:A->List Int->Nat->Int->S) (Pre:A->Prop) (len:A->Nat) (F:A->Nat->Int)
  (hvc: ∀(a:A) (o:List Int) (m:Nat) (k:Int),Pre a->len a<=1000000->1<=k->k<=len a+1->m=o.length->(m:Int)+1=k-> ∀post,(k<=len a->post (.normal,hd a (o++[F a m]) (m+1) (k+1)))->(¬k<=len a->post (.exit 0,⟨n,[(t,P.sl 0 0 m)],[(0,⟨0,none,.arr 3 false (aZ o)⟩)]⟩))->aD H [] f id (hd a o m k) post)
  {g:S->K (PX×S)} (hg: ∀s post,g s post-> ∃a,s=hd a [] 0 1/\Pre a/\len a<=1000000/\post (.exit 0,⟨n,[(t,P.sl 0 0 (len a))],[(0,⟨0,none,.arr 3 false (aZ (oA (len a) (F a)))⟩)]⟩)):
  LD X f id (ae (aL f id) g):=LD.par (H:=H) (hk:=[]) hu hc hH .nil
 (A:=A) (B:=List Int×Nat×Int) (fun a b=>hd a b.1 b.2.1 b.2.2)
 (fun a b=>Pre a/\len a<=1000000/\b.2.1<=len a/\b.1=oA b.2.1 (F a)/\b.2.2=b.2.1+1)
 (fun a b=>len a+1-b.2.1)
 (fun a x=>x=(.exit 0,⟨n,[(t,P.sl 0 0 (len a))],[(0,⟨0,none,.arr 3 false (aZ (oA (len a) (F a)))⟩)]⟩))
 (by
  rintro a ⟨o,m,k⟩ ⟨hp,hl,hm,ho,hk⟩
  dsimp only at*
  refine hvc a o m k hp hl (by omega) (by omega) (by rw[ho];simp) (by omega) _ (fun h=> ?_) fun h=> ?_
  ·exact⟨_,by dsimp only;omega,(o++[F a m],m+1,k+1),rfl,⟨hp,hl,by dsimp only;omega,by rw[ho,MN],by dsimp only;omega⟩,rfl⟩
  ·have:m=len a:=by omega
   subst this
   subst ho
   rfl)
 (by
  intro s post hs
  obtain⟨a,rfl,h1,h2,h3⟩:=hg s post hs
  refine⟨a,([],0,1),rfl,⟨h1,h2,za5 _,rfl,rfl⟩,?_⟩
  rintro x rfl
  exact h3)
def qcc (g:Int->Int->Int):S->K (PX×S):=fun s post=> ∃v w es,s=⟨28,[(0,vD v),(1,vD w),(5,P.sl 0 0 0),(6,iD 1)],[(0,⟨0,none,.arr 3 false es⟩)]⟩/\(es=[]/\iP v/\iP w)/\
 post (.exit 0,⟨28,[(5,P.sl 0 0 (max v.length w.length))],[(0,⟨0,none,.arr 3 false (aZ (FB g v w (max v.length w.length)))⟩)]⟩)
theorem WG:LD X 47 3 (ae (aL 47 3) (qcc max)):=KE (H:=[(13,Iu)]) (.cons yc .nil) (by kernel_rfl) (by kernel_rfl)
 (A:=List Int×List Int) (fun a o m k=>qfm a.1 a.2 o m k) (fun a=>iP a.1/\iP a.2) (fun a=>max a.1.length a.2.length) (fun a i=>max (eo a.1 (i+1)) (eo a.2 (i+1)))
 (by
  rintro⟨v,w⟩ o m k ⟨hv,hw⟩ hl h1 h2 hm hk post p1 p2
  dsimp only at*
  unfold iP at hv hw
  (rw[<-qb5];delta ZD ZB ZC Zn ZA Zk Zm Zl Za Z9 Zj Zy Zz Zx Zt Zv Zw Ze)
  simp only[dE]
  refine bf (fun h=> ?_) fun h=>p2 (by omega)
  refine⟨v,k,rfl,rfl,by omega,w,k,rfl,rfl,by omega,ao ?_ (ao (pG (by omega) (by omega)) ?_)⟩
  ·rw[qaI (by omega)];simp;omega
  ·rw[tV hm]
   have:=p1 (by omega)
   rw[hk] at this
   exact this)
 (by
  rintro s post ⟨v,w,es,rfl,⟨rfl,hv,hw⟩,hp⟩
  refine⟨(v,w),rfl,⟨hv,hw⟩,by unfold iP at hv hw;dsimp only;omega,hp⟩)
def qcd:S->K (PX×S):=fun s post=> ∃v r n es,s=⟨39,[(0,vD v),(1,iD r),(2,iD n),(8,P.sl 0 0 0),(9,iD 1)],[(0,⟨0,none,.arr 3 false es⟩)]⟩/\(es=[]/\iP v/\1<=r/\r<=16)/\
 post (.exit 0,⟨39,[(8,P.sl 0 0 (max v.length r.toNat))],[(0,⟨0,none,.arr 3 false (aZ (gI v r n))⟩)]⟩)
theorem WH:LD X 46 5 (ae (aL 46 5) qcd):=KE (H:=[(13,Iu)]) (.cons yc .nil) (by kernel_rfl) (by kernel_rfl)
 (A:=List Int×Int×Int) (fun a o m k=>qfn a.1 o a.2.1 a.2.2 m k) (fun a=>iP a.1/\1<=a.2.1/\a.2.1<=16) (fun a=>max a.1.length a.2.1.toNat) (fun a i=>if(i:Int)+1=a.2.1 then a.2.2 else eo a.1 (i+1))
 (by
  rintro⟨v,r,n⟩ o m k ⟨hv,tv,hr1⟩ hl h1 h2 hm hk post p1 p2
  dsimp only at*
  unfold iP at hv
  (rw[<-qb6];delta ZD ZB Zy Zz Zx Zt Zv Zk Zw Zn ZH ZG ZF Zl Za Z9 Zj ZE Ze)
  simp only[dE]
  have oa: ∀x:D,(Nat.ble m (aZ o).length&&aN (m+List.length [x]) 8)=true:=fun x=>by rw[qaI (by omega)];simp;omega
  simp only[dE] at oa
  refine bf (fun h=> ?_) fun h=>p2 (by omega)
  have:=p1 (by omega)
  rw[hk] at this
  refine hQ (fun h'=> ?_) fun h'=> ?_
  ·rw[zao h'] at this
   refine ao (oa _) (ao (pG (by omega) (by omega)) ?_)
   rw[tV hm]
   exact this
  ·rw[zam h'] at this
   refine⟨v,k,rfl,rfl,by omega,ao (oa _) (ao (pG (by omega) (by omega)) ?_)⟩
   rw[tV hm]
   exact this)
 (by
  rintro s post ⟨v,r,n,es,rfl,⟨rfl,hv,h1,h2⟩,hp⟩
  refine⟨(v,r,n),rfl,⟨hv,h1,h2⟩,by unfold iP at hv;dsimp only;omega,hp⟩)
def qce:S->K (PX×S):=fun s post=> ∃v n,s=qb0 v n 0/\(n=v.length/\iP v)/\(¬(∀x∈v,0<=x)->post (.ret,⟨25,[(0,vD v),(2,.d (.bool false))],[]⟩))/\((∀x∈v,0<=x)->post (.exit 0,⟨25,[(0,vD v)],[]⟩))
def qcf:S->K (PX×S):=fun s post=> ∃v,s=qb1 v 0/\iP v/\(¬(∀x∈v,0<=x)->post (.ret,⟨24,[(0,vD v),(2,.d (.bool false))],[]⟩))/\((∀x∈v,0<=x)->post (.exit 0,⟨24,[(0,vD v)],[]⟩))
def FE:bq:=fun ps R post=> ∃v w,ps=[vD v,vD w]/\R=[]/\iP v/\post (.d (.bool (decide (v=w))),[])
def iQ:bq:=fun ps R post=> ∃v,ps=[vD v]/\R=[]/\iP v/\post (vD (bp v),[])
def Iw:bq:=fun ps R post=> ∃v w,ps=[vD v,vD w]/\R=[]/\(iP v/\iP w)/\post (vD (mg v w),[])
def qfp:bq:=fun ps R post=> ∃v r n,ps=[vD v,iD r,iD n]/\R=[]/\iP v/\(¬(1<=r/\r<=16)->post (.cV [.sl 0 0 0,iD 1],[(0,⟨0,none,.arr 3 false []⟩)]))/\((1<=r/\r<=16)->post (.cV [vD (bp (gI v r n)),iD 0],[]))
def qfq:bq:=fun ps R post=> ∃v,ps=[vD v]/\R=[]/\iP v/\post (.d (.bool (db v)),[])
def ZO:P:=P.d (D.bool true)
def ZP (post:P×List (Nat×En)->Prop):Prop:=post (ZO,[])
def ZN:List (Nat×P):=[(5,P.d Z7)]
theorem qfr (v w:List Int) (post:P×List (Nat×En)->Prop):(bif Ze v !=Ze w then Z4 post else∃(de:List Int) (DT:List Int),S.mk 26 (Zl v::Zm w::ZN) []=S.mk 26 (Zl de::Zm DT::ZN) []/\(List.length de=List.length DT/\iP de)/\(de≠DT->Z4 post)/\(de=DT->ZP post))=(aJ [] [(4,ae (aL 26 4) qb9)] 26 [vD v,vD w] []) post:=by kernel_rfl
theorem qfs (v:List Int) (post:P×List (Nat×En)->Prop):(∃(de:List Int),S.mk 21 [(0,P.d (D.sl 1 (aZ v)))] []=S.mk 21 [(0,P.d (D.sl 1 (aZ de)))] []/\iP de/\post (P.d (D.sl 1 (aZ (bp de))),[]))=(aJ [] [(1,ae (aL 74 1) qca)] 74 [vD v] []) post:=by kernel_rfl
theorem WI (v:List Int) (post:P×List (Nat×En)->Prop):(∃(de:List Int),[P.d (D.sl 1 (aZ v))]=[P.d (D.sl 1 (aZ de))]/\EqR [] []/\iP de/\post (P.d (D.sl 1 (aZ (bp de))),[]))=(aJ [(74,iQ)] [] 45 [vD v] []) post:=by kernel_rfl
theorem qft (v:List Int) (post:P×List (Nat×En)->Prop):(∃(de:List Int) (n:Int),S.mk 21 [Zl v,(3,P.d (D.int .i64 (Ze v)))] []=S.mk 21 (Zl de::Zu n) []/\(n=(↑(List.length de):Int)/\iP de)/\bif decide ((0:Int)<=(↑(pD de (List.length de)):Int)/\(↑(pD de (List.length de)):Int)<=Ze de) then post (P.d (D.sl 1 (List.drop 0 (List.take (pD de (List.length de)) (aZ de)))),[]) else False)=(aJ [] [(2,ae (aL 75 2) qcb)] 75 [vD v] []) post:=by kernel_rfl
def ZW (v:List Int):List P:=[Zk v]
def ZV (es:List D):List (Nat×En):=[(0,En.mk 0 none (Obj.arr (3:TypeId) false es))]
def ZT:En:=En.mk 0 none (Obj.arr (3:TypeId) false [])
def ZU:List (Nat×En):=[(0,ZT)]
def ZR:D:=D.int .i64 (1:Int)
def ZQ:P:=P.sl 0 0 0
def ZS (v:List Int) (w:List Int):List (Nat×P):=[Zl v,Zm w,(5,ZQ),(6,P.d ZR)]
theorem Qy (v w:List Int) (post:P×List (Nat×En)->Prop):(∃(de:List Int) (DT:List Int) (es:List D),S.mk 28 (ZS v w) ZU=S.mk 28 (ZS de DT) (ZV es)/\(es=[]/\iP de/\iP DT)/\ ∃(v:List Int),[P.d (D.sl 1 (List.take (max (List.length de) (List.length DT)) (aZ (FB max de DT (max (List.length de) (List.length DT))))))]=ZW v/\Zx/\iP v/\post (P.d (D.sl 1 (aZ (bp v))),[]))=(aJ [(75,iQ)] [(3,ae (aL 47 3) (qcc max))] 47 [vD v,vD w] []) post:=by kernel_rfl
def qu:List P:=[P.d Z7]
def ZZ (v:List Int) (r:Int) (n:Int):List (Nat×P):=[Zl v,ZF r,ZG n,(8,ZQ),(9,P.d ZR)]
def ZY (r:Int):Bool:=decide (r>(16:Int))
def ZX:List P:=[P.d ZR]
theorem WJ (v:List Int) (r n:Int) (post:P×List (Nat×En)->Prop):(bif Z6 r then post (P.cV (ZQ::ZX),ZU) else bif ZY r then post (P.cV (ZQ::ZX),ZU) else∃(de:List Int) (cz:Int) (cF:Int) (es:List D),S.mk 39 (ZZ v r n) ZU=S.mk 39 (ZZ de cz cF) (ZV es)/\(es=[]/\iP de/\(1:Int)<=cz/\cz<=(16:Int))/\ ∃(v:List Int),[P.d (D.sl 1 (List.take (max (List.length de) (Zg cz)) (aZ (gI de cz cF))))]=ZW v/\Zx/\iP v/\post (P.cV (P.d (D.sl 1 (aZ (bp v)))::qu),[]))=(aJ [(75,iQ)] [(5,ae (aL 46 5) qcd)] 46 [vD v,iD r,iD n] []) post:=by kernel_rfl
def Z12 (de:List Int):Prop:= ∀(x:Int),x∈de->(0:Int)<=x
def rB:List (Nat×P):=[(7,P.d Z7)]
theorem qfu (v:List Int) (post:P×List (Nat×En)->Prop):(∃(de:List Int) (n:Int),S.mk 25 (Zl v::(5,Zk v)::(6,P.d (D.int .i64 (Ze v)))::rB) []=S.mk 25 (Zl de::(5,Zk de)::ZK n::rB) []/\(n=(↑(List.length de):Int)/\iP de)/\(¬Z12 de->Z4 post)/\(Z12 de->bif decide (Ze de<=(16:Int)) then∃(v:List Int),ZW de=ZW v/\Zx/\iP v/\post (P.d (D.bool ((↑(List.length (aZ (bp v))):Int)==Ze de)),[]) else Z4 post))=(aJ [(45,iQ)] [(2,ae (aL 108 2) qce)] 108 [vD v] []) post:=by kernel_rfl
def Z14 (GX:List Int) (post:P×List (Nat×En)->Prop) (w:List Int):Prop:=Zx/\iP GX/\post (P.d (D.bool (decide (GX=w))),[])
def Z13:List (Nat×P):=[(3,P.d Z7)]
theorem qfv (v:List Int) (post:P×List (Nat×En)->Prop):(∃(de:List Int),S.mk 24 (Zl v::Z13) []=S.mk 24 (Zl de::Z13) []/\iP de/\(¬Z12 de->Z4 post)/\(Z12 de->bif decide (Ze de<=(16:Int)) then∃(v:List Int),ZW de=ZW v/\Zx/\iP v/\ ∃(GX:List Int) (w:List Int),[Zk de,P.d (D.sl 1 (aZ (bp v)))]=Zk GX::ZW w/\Z14 GX post w else Z4 post))=(aJ [(75,iQ),(26,FE)] [(2,ae (aL 105 2) qcf)] 105 [vD v] []) post:=by kernel_rfl
variable {X:XF}
theorem CY (v:List Int):(∀x∈v,0<=x)↔ ∀i:Nat,i<v.length->0<=v.getD i 0:=by
 constructor
 ·intro h i hi
  have:=h v[i] (zas hi)
  simpa [zac,hi] using this
 ·intro h x hx
  obtain⟨i,hi,rfl⟩:=zaU hx
  have:=h i hi
  simpa [zac,hi] using this
theorem WK:LD X 108 2 (ae (aL 108 2) qce):=LD.par (H:=[]) (hk:=[]) (by kernel_rfl) (by kernel_rfl) .nil .nil
 (A:=List Int×Int) (B:=Int) (fun a k=>qb0 a.1 a.2 k)
 (fun a k=>(a.2=a.1.length/\iP a.1)/\0<=k/\k<=a.1.length/\ ∀i:Nat,(i:Int)<k->0<=a.1.getD i 0)
 (fun a k=>(a.1.length-k).toNat)
 (fun a x=>((¬ ∀x∈a.1,0<=x)/\x=(.ret,⟨25,[(0,vD a.1),(2,.d (.bool false))],[]⟩))\/((∀x∈a.1,0<=x)/\x=(.exit 0,⟨25,[(0,vD a.1)],[]⟩)))
 (by
  rintro⟨v,n⟩ k ⟨⟨hn,hs⟩,h0,h1,he⟩
  dsimp only at*
  subst hn
  (rw[<-qb7];delta Zn ZL Zt ZK Zk Za Z9 Zj Z3 ZJ Zl Zg Zh Ze Zf ZI)
  unfold iP at hs
  simp only[dE]
  refine bf (fun h=> ?_) fun h=> ?_
  ·rw[k7 (by omega)]
   refine bs (by omega) (ao (Iv _) (bf (fun h'=> ?_) fun h'=>ao (pG (by omega) (by omega)) ?_))
   ·replace h':v.getD k.toNat 0<0:=h'
    refine .inl ⟨fun hh=> ?_,rfl⟩
    have:=(CY v).1 hh k.toNat (by omega)
    omega
   ·replace h': ¬v.getD k.toNat 0<0:=h'
    exact⟨_,by omega,k+1,rfl,⟨⟨by simp,hs⟩,by omega,by first |omega | (dsimp only;omega),fun i hi=>by
     by_cases e:(i:Int)=k
     ·have:i=k.toNat:=by omega
      rw[this];first |omega | (dsimp only;omega)
     ·exact he i (by omega)⟩,rfl⟩
  ·exact .inr ⟨(CY v).2 fun i hi=>he i (by omega),rfl⟩)
 (by
  rintro s post ⟨v,n,rfl,⟨hn,h1⟩,h2,h3⟩
  refine⟨(v,n),0,rfl,⟨⟨hn,h1⟩,by omega,by omega,fun i hi=>by omega⟩,?_⟩
  rintro x (⟨h,rfl⟩| ⟨h,rfl⟩)
  ·exact h2 h
  ·exact h3 h)
theorem WL:LD X 105 2 (ae (aL 105 2) qcf):=LD.par (H:=[]) (hk:=[]) (by kernel_rfl) (by kernel_rfl) .nil .nil
 (A:=List Int) (B:=Int) (fun a k=>qb1 a k)
 (fun a k=>iP a/\0<=k/\k<=a.length/\ ∀i:Nat,(i:Int)<k->0<=a.getD i 0)
 (fun a k=>(a.length-k).toNat)
 (fun a x=>((¬ ∀x∈a,0<=x)/\x=(.ret,⟨24,[(0,vD a),(2,.d (.bool false))],[]⟩))\/((∀x∈a,0<=x)/\x=(.exit 0,⟨24,[(0,vD a)],[]⟩)))
 (by
  rintro v k ⟨hs,h0,h1,he⟩
  (rw[<-qb8];delta Zn ZM Za Z9 Zj Z3 ZJ Zk Zl Zg Zh Ze Zf)
  unfold iP at hs
  simp only[dE]
  refine bf (fun h=> ?_) fun h=> ?_
  ·rw[k7 (by omega)]
   refine bs (by omega) (ao (Iv _) (bf (fun h'=> ?_) fun h'=>ao (pG (by omega) (by omega)) ?_))
   ·replace h':v.getD k.toNat 0<0:=h'
    refine .inl ⟨fun hh=> ?_,rfl⟩
    have:=(CY v).1 hh k.toNat (by omega)
    omega
   ·replace h': ¬v.getD k.toNat 0<0:=h'
    exact⟨_,by omega,k+1,rfl,⟨hs,by omega,by omega,fun i hi=>by
     by_cases e:(i:Int)=k
     ·have:i=k.toNat:=by omega
      rw[this];omega
     ·exact he i (by omega)⟩,rfl⟩
  ·exact .inr ⟨(CY v).2 fun i hi=>he i (by omega),rfl⟩)
 (by
  rintro s post ⟨v,rfl,h1,h2,h3⟩
  refine⟨v,0,rfl,⟨h1,by omega,by omega,fun i hi=>by omega⟩,?_⟩
  rintro x (⟨h,rfl⟩| ⟨h,rfl⟩)
  ·exact h2 h
  ·exact h3 h)
theorem Qz:FD X 26 FE:=FD.mk (H:=[]) (hk:=[(4,ae (aL 26 4) qb9)]) (by kernel_rfl) .nil (.cons WC .nil) (by
 intro ps R post hh
 obtain⟨v,w,rfl,rfl,hv,hp⟩:=hh
 (rw[<-qfr];delta ZO ZP Z7 ZN Zk Zm Zl Z3 Z4 Ze)
 simp only[dE]
 refine Bd (fun h=> ?_) fun h=>⟨v,w,rfl,⟨by omega,hv⟩,fun hn=> ?_,fun he=> ?_⟩
 ·exact fM hp (k9 fun e=>h (by rw[e]))
 ·exact fM hp (k9 hn)
 ·exact fM hp (k8 he))
theorem qfw:FD X 74 iQ:=FD.mk (H:=[]) (hk:=[(1,ae (aL 74 1) qca)]) (by kernel_rfl) .nil (.cons WD .nil) (by
 intro ps R post hh
 obtain⟨v,rfl,rfl,hv,hp⟩:=hh
 rw[<-qfs]
 exact⟨v,rfl,hv,hp⟩)
theorem KG:FD X 45 iQ:=FD.mk (H:=[(74,iQ)]) (hk:=[]) (by kernel_rfl) (.cons qfw .nil) .nil (by
 intro ps R post hh
 obtain⟨v,rfl,rfl,hv,hp⟩:=hh
 rw[<-WI]
 exact⟨v,rfl,rfl,hv,hp⟩)
theorem QA:FD X 75 iQ:=FD.mk (H:=[]) (hk:=[(2,ae (aL 75 2) qcb)]) (by kernel_rfl) .nil (.cons WE .nil) (by
 intro ps R post hh
 obtain⟨v,rfl,rfl,hv,hp⟩:=hh
 (rw[<-qft];delta Zt Zu Ze Zk Zl)
 simp only[dE]
 refine⟨v,_,rfl,⟨rfl,hv⟩,bs ?_ ?_⟩
 ·have:=pF v v.length;omega
 ·rw[ML];exact hp)
theorem KH (g:Int->Int->Int) (v w:List Int) (m:Nat):(FB g v w m).length=m:=by simp[FB]
theorem sO {o:List Int} {m:Nat} (h:o.length=m):(aZ o).take m=aZ o:=by
 rw[zai (by simp[h])]
theorem QB:FD X 47 Iw:=FD.mk (H:=[(75,iQ)]) (hk:=[(3,ae (aL 47 3) (qcc max))]) (by kernel_rfl) (.cons QA .nil) (.cons WG .nil) (by
 intro ps R post hh
 obtain⟨v,w,rfl,rfl,h,hp⟩:=hh
 (rw[<-Qy];delta Zx Zk ZW ZV ZT ZU ZR ZQ Zm Zl ZS)
 refine⟨v,w,_,rfl,⟨rfl,h⟩,FB max v w (max v.length w.length),by rw[sO (KH ..)],rfl,?_,hp⟩
 unfold iP at*;rw[KH];omega)
theorem qfx:FD X 108 qfq:=FD.mk (H:=[(45,iQ)]) (hk:=[(2,ae (aL 108 2) qce)]) (by kernel_rfl) (.cons KG .nil) (.cons WK .nil) (by
 intro ps R post hh
 obtain⟨v,rfl,rfl,hv,hp⟩:=hh
 (rw[<-qfu];delta Zx Zk ZW Z3 Z4 Z12 Zt ZK Z7 rB Ze Zl)
 simp only[dE]
 refine⟨v,_,rfl,⟨rfl,hv⟩,fun h=>fM hp (k9 fun hh=>h hh.1),fun h=>bf (fun h'=>⟨v,rfl,rfl,hv,?_⟩) fun h'=> ?_⟩
 ·refine fM hp ?_
  rw[db,zaE]
  simp only[zah,zaS]
  constructor
  ·rintro⟨_,_,h3⟩;omega
  ·intro h3;exact⟨h,by omega,by omega⟩
 ·exact fM hp (k9 fun hh=>h' (by omega)))
theorem qfy:FD X 105 qfq:=FD.mk (H:=[(75,iQ),(26,FE)]) (hk:=[(2,ae (aL 105 2) qcf)]) (by kernel_rfl) (.cons QA (.cons Qz .nil)) (.cons WL .nil) (by
 intro ps R post hh
 obtain⟨v,rfl,rfl,hv,hp⟩:=hh
 (rw[<-qfv];delta Zx Z14 Zk ZW Ze Z3 Z4 Z12 Z7 Z13 Zl)
 simp only[dE]
 refine⟨v,rfl,hv,fun h=>fM hp (k9 fun hh=>h hh.1),fun h=>bf (fun h'=>⟨v,rfl,rfl,hv,v,bp v,rfl,rfl,hv,?_⟩) fun h'=> ?_⟩
 ·refine fM hp ?_
  rw[db,zaE]
  simp only[zah]
  constructor
  ·rintro⟨_,_,h3⟩
   have hl:=pF v v.length
   rw[nN] at h3
   rw[bp,h3,zak]
  ·intro h3;exact⟨h,by omega,by rw[<-h3]⟩
 ·exact fM hp (k9 fun hh=>h' (by omega)))
theorem WM:FD X 46 qfp:=FD.mk (H:=[(75,iQ)]) (hk:=[(5,ae (aL 46 5) qcd)]) (by kernel_rfl) (.cons QA .nil) (.cons WH .nil) (by
 intro ps R post hh
 obtain⟨v,r,n,rfl,rfl,hv,bZ,dZ⟩:=hh
 (rw[<-WJ];delta Z7 qu Zx Zk ZW Zg ZV ZR ZQ Zt ZG ZF Zl ZZ ZY ZT ZU ZX Z6)
 have J6:=hv
 unfold iP at J6
 have hl:(gI v r n).length=max v.length r.toNat:=by simp[gI]
 refine bf (fun h=>bZ (by omega)) fun h=>bf (fun h'=>bZ (by omega)) fun h'=>⟨v,r,n,_,rfl,⟨rfl,hv,by omega,by omega⟩,gI v r n,by rw[sO hl],rfl,by unfold iP;rw[hl];omega,dZ (by omega)⟩)
def Bf (t r i:Int):List UInt8:=Lib.itoa t++[46]++Lib.itoa r++[46]++Lib.itoa i
def la (t r i:Int):List UInt8:=if cp t r i=true then Bf t r i else []
def QC:bq:=fun ps R post=> ∃t r i,ps=[.d (MI t r i)]/\R=[]/\post (.d (.str (la t r i)),[])
variable {X:XF}
theorem zZ: ∀u:Nat,(Lib.decDigits u).length<=u+1:=by
 intro u
 induction u using Nat.strongRecOn with
 |_ u ih=>
  rw[Lib.decDigits]
  split
  ·simp
  ·have:=ih (u/10) (by omega)
   simp only[zan,zap,zat]
   omega
theorem yd {n:Int} (h0:0<=n) (h1:n<=1099511627776):(Lib.itoa n).length<=1099511627777:=by
 unfold Lib.itoa
 rw[zam (by omega)]
 have:=zZ n.toNat
 omega
structure qhv (s:List UInt8):Prop where
 len:s.length<4294967281
 cnt:(Lib.split s [46]).length=Lib.count s [46]+1
 lim:Lib.count s [46]<=4294967281
 each: ∀x∈Lib.split s [46],x.length<=281474976710656
def nP (k:Nat):UInt8:=UInt8.ofNat (48+k)
theorem tW {u:Nat} (h:u<10):Lib.decDigits u=[nP u]:=by rw[Lib.decDigits,dif_pos h];rfl
theorem KI {u:Nat} (h: ¬u<10):Lib.decDigits u=Lib.decDigits (u/10)++[nP (u%10)]:=by rw[Lib.decDigits,dif_neg h];rfl
theorem KJ: ∀(k u:Nat),u<10^(k+1)->(Lib.decDigits u).length<=k+1
 |0,u,h=>by rw[tW (by simpa using h)];simp
 |k+1,u,h=>by
  by_cases hu:u<10
  ·rw[tW hu];simp
  ·rw[KI hu]
   have:=KJ k (u/10) (by rw[zcB (by omega)];rw[Nat.pow_succ] at h;exact h)
   simp;omega
abbrev sD (s:List UInt8):P:= .d (.str s)
abbrev qcg (n:Int) (s:List UInt8):S:=⟨37,[(0,iD n),(3,sD s)],[]⟩
def qch:S->K (PX×S):=fun s post=> ∃n,s=qcg n []/\(0<=n/\n<=9223372036854775807)/\ ∀n' s',(0<=n'/\n'<=9/\s'.length<=9223372036854775807/\Lib.decDigits n.toNat=nP n'.toNat::s')->post (.exit 0,⟨37,[(0,iD n'),(3,sD s')],[]⟩)
def CZ:bq:=fun ps R post=> ∃n,ps=[iD n]/\R=[]/\(0<=n/\n<=9223372036854775807)/\post (sD (Lib.itoa n),[])
def rC (s:List UInt8):Nat:=List.length s
def Z15 (n:Int):List UInt8:=[UInt8.ofNat (Int.toNat (D.ah (D.int .u8 (IntKind.wrap IntKind.u8 ((48:Int)+Int.tmod n (10:Int))))))]
theorem qci (n:Int) (s:List UInt8) (post:PX×S->Prop):(bif decide (n>(9:Int)) then bif decide (Z9<=(48:Int)+Int.tmod n (10:Int)/\(48:Int)+Int.tmod n (10:Int)<=Za) then bif decide (List.length (Z15 n)+rC s<=Zy) then bif decide (Z9<=Int.tdiv n (10:Int)/\Int.tdiv n (10:Int)<=Za) then post (PX.normal,S.mk 37 [(0,P.d (D.int .i64 (Int.tdiv n (10:Int)))),(3,P.d (D.str (Z15 n++s)))] []) else False else False else False else post (PX.exit 0,S.mk 37 [(0,P.d (Zt n)),(3,P.d (D.str s))] []))=(aD [] [] 186 4 (qcg n s)) post:=by kernel_rfl
def Z1b (n':Int):List UInt8:=[UInt8.ofNat (Int.toNat (D.ah (D.int .u8 (IntKind.wrap IntKind.u8 ((48:Int)+n')))))]
def Z1a (cF:Int):Prop:=(0:Int)<=cF/\cF<=Za
def zd:D:=D.str []
def Z19 (n:Int):S:=S.mk 37 [(0,P.d (Zt n)),(3,P.d zd)] []
def U8 (n:Int):Bool:=decide (n<(0:Int))
theorem qfz (n:Int) (post:P×List (Nat×En)->Prop):(bif U8 n then bif decide (Z9<=(0:Int)-n/\(0:Int)-n<=Za) then False else False else∃(cF:Int),Z19 n=Z19 cF/\Z1a cF/\ ∀(n':Int) (s':List UInt8),(0:Int)<=n'/\n'<=(9:Int)/\rC s'<=Zy/\Lib.decDigits (Zg cF)=nP (Zg n')::s'->bif decide (Z9<=(48:Int)+n'/\(48:Int)+n'<=Za) then bif decide (List.length (Z1b n')+rC s'<=Zy) then post (P.d (D.str (Z1b n'++s')),[]) else False else False)=(aJ [(186,fun _ _ _=>False)] [(4,ae (aL 186 4) qch)] 186 [iD n] []) post:=by kernel_rfl
def QD:List UInt8:=[(46:UInt8)]
def Z1e (n:Int) (cF:Int):List UInt8:=Lib.itoa n++QD++Lib.itoa cF++QD
def GY (t:Int) (r:Int) (i:Int):List P:=[P.d (D.agg (Zt t::Zt r::ZE i))]
theorem WN (t r i:Int) (post:P×List (Nat×En)->Prop):(∃(pH:Int) (cz:Int) (aG:Int),GY t r i=GY pH cz aG/\Zx/\bif !cp pH cz aG then post (P.d zd,[]) else∃(n:Int),Zv t=Zv n/\Zx/\Z1a n/\bif decide (List.length (Lib.itoa n)+1<=Zy) then∃(cF:Int),Zv r=Zv cF/\Zx/\Z1a cF/\bif decide (List.length (Lib.itoa n++QD)+List.length (Lib.itoa cF)<=Zy) then bif decide (List.length (Lib.itoa n++QD++Lib.itoa cF)+1<=Zy) then∃(n_2:Int),Zv i=Zv n_2/\Zx/\Z1a n_2/\bif decide (List.length (Z1e n cF)+List.length (Lib.itoa n_2)<=Zy) then post (P.d (D.str (Z1e n cF++Lib.itoa n_2)),[]) else False else False else False else False)=(aJ [(186,CZ),(151,mL)] [] 177 [.d (MI t r i)] []) post:=by kernel_rfl
variable {X:XF}
theorem ye {k:Int} (h0:0<=k) (h1:k<=9):UInt8.ofNat (Int.toNat (D.ah (D.int .u8 (IntKind.wrap .u8 (48+k)))))=nP k.toNat:=by
 have:IntKind.wrap .u8 (48+k)=48+k:=IntWalk.u8_in (48+k) ⟨by omega,by omega⟩
 simp only[D.ah,this,nP]
 congr 1
 omega
theorem WO:LD X 186 4 (ae (aL 186 4) qch):=LD.par (H:=[]) (hk:=[]) (by kernel_rfl) (by kernel_rfl) .nil .nil
 (A:=Int) (B:=Int×List UInt8) (fun _ b=>qcg b.1 b.2)
 (fun a b=>0<=b.1/\b.1<=9223372036854775807/\b.1.toNat+b.2.length<=9223372036854775807/\Lib.decDigits a.toNat=Lib.decDigits b.1.toNat++b.2)
 (fun _ b=>b.1.toNat)
 (fun a x=> ∃n' s',(0<=n'/\n'<=9/\s'.length<=9223372036854775807/\Lib.decDigits a.toNat=nP n'.toNat::s')/\x=(.exit 0,⟨37,[(0,iD n'),(3,sD s')],[]⟩))
 (by
  rintro a ⟨n,s⟩ ⟨h0,h1,hl,he⟩
  dsimp only at*
  (rw[<-qci];delta Zt Zy rC Z15 Za Z9)
  refine bf (fun h=> ?_) fun h=> ?_
  ·have ed:Int.tdiv n 10=((n.toNat/10:Nat):Int):=by rw[Int.tdiv_eq_ediv_of_nonneg (by omega)];omega
   have em:Int.tmod n 10=((n.toNat%10:Nat):Int):=by rw[Int.tmod_eq_emod_of_nonneg (by omega)];omega
   rw[ed,em,ye (by omega) (by omega)]
   refine bs (by omega) (bs (by simp;omega) (bs (by omega) ?_))
   refine⟨_,?_,(((n.toNat/10:Nat):Int),nP (n.toNat%10)::s),rfl,⟨by omega,by dsimp only;omega,by simp;omega,?_⟩,rfl⟩
   ·dsimp only;omega
   ·rw[he,KI (by omega: ¬n.toNat<10)]
    simp only[zb5,zaY,zb8]
  ·rw[tW (u:=n.toNat) (by omega)] at he
   exact⟨n,s,⟨h0,by omega,by omega,he⟩,rfl⟩)
 (by
  rintro s post ⟨n,rfl,⟨h1,h2⟩,h3⟩
  refine⟨n,(n,[]),rfl,⟨h1,h2,by simp;omega,by simp⟩,?_⟩
  rintro x ⟨n',s',h,rfl⟩
  exact h3 n' s' h)
theorem gA {n:Int} (h0:0<=n) (h1:n<=9223372036854775807):(Lib.itoa n).length<=21:=by
 have h:=KJ 20 n.toNat (by
  have:(10:Nat)^21=1000000000000000000000:=by decide
  omega)
 unfold Lib.itoa
 rw[zam (by omega)]
 exact h
theorem QE:FD X 186 CZ:=FD.mk (H:=[(186,fun _ _ _=>False)]) (hk:=[(4,ae (aL 186 4) qch)]) (by kernel_rfl) (.cons (fun _ _ _ h=>h.elim) .nil) (.cons WO .nil) (by
 intro ps R post hh
 obtain⟨n,rfl,rfl,⟨h0,h1⟩,hp⟩:=hh
 (rw[<-qfz];delta Z1b Zg Zy rC Za Z1a zd Zt Z19 Z9 U8)
 refine bf (fun h=>by omega) fun h=>⟨n,rfl,⟨h0,h1⟩,?_⟩
 rintro n' s' ⟨a0,a1,a2,a3⟩
 have hs:Lib.itoa n=nP n'.toNat::s':=by rw[<-a3];unfold Lib.itoa;rw[zam (by omega)]
 rw[ye a0 a1]
 have hl:(Lib.itoa n).length<=21:=gA h0 h1
 rw[hs] at hl hp
 simp at hl
 exact bs (by omega) (bs (by simp;omega) hp))
theorem WQ:FD X 177 QC:=FD.mk (H:=[(186,CZ),(151,mL)]) (hk:=[]) (by kernel_rfl) (.cons QE (.cons rA .nil)) .nil (by
 intro ps R post hh
 obtain⟨t,r,i,rfl,rfl,hp⟩:=hh
 (rw[<-WN];delta QD Z1e Zy Za Z1a Zt Zv zd Zx ZE GY)
 refine⟨_,_,_,rfl,rfl,ax (fun h=> ?_) fun h=> ?_⟩
 ·have h:cp t r i=false:=by simpa using h
  rw[la,zam (by simp[h])] at hp
  exact hp
 ·have h:cp t r i=true:=by simpa using h
  rw[la,zao h] at hp
  simp only[cp,zah] at h
  have l1:=yd (n:=t) (by omega) (by omega)
  have l2:=yd (n:=r) (by omega) (by omega)
  have l3:=yd (n:=i) (by omega) (by omega)
  exact⟨_,rfl,rfl,⟨by omega,by omega⟩,ao (by simp;omega) ⟨_,rfl,rfl,⟨by omega,by omega⟩,ao (by simp;omega) (ao (by simp;omega) ⟨_,rfl,rfl,⟨by omega,by omega⟩,ao (by simp;omega) hp⟩)⟩⟩)
def Ix:List UInt8:=[48,49,50,51,52,53,54,55,56,57,65,66,67,68,69,70,71,72,73,74,75,76,77,78,79,80,81,82,83,84,85,86,87,88,89,90,97,98,99,100,101,102,103,104,105,106,107,108,109,110,111,112,113,114,115,116,117,118,119,120,121,122,46,45,95]
def iz (b:UInt8):Bool:=decide ((48<=b.toNat/\b.toNat<=57)\/(65<=b.toNat/\b.toNat<=90)\/(97<=b.toNat/\b.toNat<=122)\/b.toNat=46\/b.toNat=45\/b.toNat=95)
theorem MO: ∀n:Fin 256,Ix.contains (UInt8.ofNat n.val)=iz (UInt8.ofNat n.val):=by decide+kernel
theorem Iy (b:UInt8):Ix.contains b=iz b:=by
 have:=MO ⟨b.toNat,b.toNat_lt⟩
 simpa using this
def dH (s:List UInt8):Bool:=decide (s≠[]/\s.length<=32/\s≠[46]/\s≠[46,46]/\ ∀b∈s,iz b=true)
theorem dropWhile_nil {α:Type} (p:α->Bool): ∀l:List α,l.dropWhile p=[]↔ ∀b∈l,p b=true
 | []=>by simp
 |x::l=>by
  cases h:p x with
  |true=>simp[List.dropWhile,h,dropWhile_nil p l]
  |false=>simp[List.dropWhile,h]
theorem QF (s cs:List UInt8):Lib.trimS s cs=[]↔ ∀b∈s,cs.contains b=true:=by
 unfold Lib.trimS Lib.trimLeftS Lib.trimRightS
 rw[dropWhile_nil]
 constructor
 ·intro h b hb
  have hr:b∈s.reverse:=by simpa using hb
  rw[<-List.takeWhile_append_dropWhile (p:=(cs.contains ·)) (l:=s.reverse)] at hr
  rcases zaG.1 hr with h1 |h1
  ·exact zbk.1 (List.all_takeWhile (p:=(cs.contains ·)) (l:=s.reverse)) b h1
  ·exact h b (by simpa using h1)
 ·intro h b hb
  have hb:b∈s.reverse.dropWhile (cs.contains ·):=by simpa using hb
  exact h b (by simpa using(List.dropWhile_sublist _).subset hb)
def pre (c:UInt8) (s:List UInt8):List UInt8:=s.takeWhile (· !=c)
def lb (s:List UInt8) (t r i:Int):List UInt8×Int:=if dH s=true then(if cp t r i=true then(s++126::Bf t r i,0) else([],1)) else([],70)
section
variable {X:XF}
theorem Iz (t r i:Int):(la t r i).length<=2000000:=by
 unfold la
 split
 ·rename_i h
  simp only[cp,zah] at h
  have l1:=gA (n:=t) (by omega) (by omega)
  have l2:=gA (n:=r) (by omega) (by omega)
  have l3:=gA (n:=i) (by omega) (by omega)
  simp[Bf];omega
 ·simp
end
abbrev lz (b:Bool):P:= .d (.bool b)
def QG:bq:=fun ps R post=> ∃s c,ps=[sD s,sD c]/\R=[]/\(s.length<=9223372036854775807/\c.length<4294967281/\c.all (fun b=>decide (b.toNat<128))=true)/\post (sD (Lib.trimS s c),[])
def Bg:bq:=fun ps R post=> ∃s,ps=[sD s]/\R=[]/\post (lz (dH s),[])
def IA:bq:=fun ps R post=> ∃s t r i,ps=[sD s,.d (MI t r i)]/\R=[]/\post (.cV [sD (lb s t r i).1,iD (lb s t r i).2],[])
abbrev nmH (s:List UInt8) (k:Int):S:=⟨64,[(0,sD s),(3,iD k)],[]⟩
def vb (c:List UInt8):List P:=[P.d (D.str c)]
def C0 (s:List UInt8):Int:=(↑(rC s):Int)
theorem qcj (s:List UInt8) (post:P×List (Nat×En)->Prop):(bif !s==[] then bif decide (C0 s<=(32:Int)) then bif !s==QD then bif !s==(46:UInt8)::QD then∃(iA:List UInt8) (c:List UInt8),[P.d (D.str s),P.d (D.str (have y:List UInt8:=have y:List UInt8:=have y:List UInt8:=have y:List UInt8:=[(121:UInt8),(122:UInt8),(46:UInt8),(45:UInt8),(95:UInt8)];(117:UInt8)::(118:UInt8)::(119:UInt8)::(120:UInt8)::y;have y:List UInt8:=(113:UInt8)::(114:UInt8)::(115:UInt8)::(116:UInt8)::y;(109:UInt8)::(110:UInt8)::(111:UInt8)::(112:UInt8)::y;have y:List UInt8:=have y:List UInt8:=(105:UInt8)::(106:UInt8)::(107:UInt8)::(108:UInt8)::y;(101:UInt8)::(102:UInt8)::(103:UInt8)::(104:UInt8)::y;have y:List UInt8:=(97:UInt8)::(98:UInt8)::(99:UInt8)::(100:UInt8)::y;(87:UInt8)::(88:UInt8)::(89:UInt8)::(90:UInt8)::y;have y:List UInt8:=have y:List UInt8:=have y:List UInt8:=(83:UInt8)::(84:UInt8)::(85:UInt8)::(86:UInt8)::y;(79:UInt8)::(80:UInt8)::(81:UInt8)::(82:UInt8)::y;have y:List UInt8:=(75:UInt8)::(76:UInt8)::(77:UInt8)::(78:UInt8)::y;(71:UInt8)::(72:UInt8)::(73:UInt8)::(74:UInt8)::y;have y:List UInt8:=have y:List UInt8:=(67:UInt8)::(68:UInt8)::(69:UInt8)::(70:UInt8)::y;(56:UInt8)::(57:UInt8)::(65:UInt8)::(66:UInt8)::y;have y:List UInt8:=(52:UInt8)::(53:UInt8)::(54:UInt8)::(55:UInt8)::y;(48:UInt8)::(49:UInt8)::(50:UInt8)::(51:UInt8)::y))]=P.d (D.str iA)::vb c/\Zx/\(rC iA<=Zy/\rC c<4294967281/\(List.all c fun(b:UInt8)=>decide (UInt8.toNat b<128))=true)/\post (P.d (D.bool (Lib.trimS iA c==[])),[]) else Z4 post else Z4 post else Z4 post else Z4 post)=(aJ [(146,QG)] [] 112 [sD s] []) post:=by kernel_rfl
def Z1i (k:Int) (post:PX×S->Prop) (s:List UInt8):Prop:=bif Zj k then post (PX.normal,S.mk 64 ((0,P.d (D.str s))::ZM k) []) else False
def U9 (s:List UInt8) (k:Int):Int:=(↑(UInt8.toNat (List.getD s (Zg k) (0:UInt8))):Int)
def Z1j (s:List UInt8) (k:Int) (post:PX×S->Prop):Prop:=bif U9 s k==(46:Int) then Z1i k post s else bif U9 s k==(45:Int) then Z1i k post s else bif !U9 s k==(95:Int) then post (PX.ret,S.mk 64 ZJ []) else Z1i k post s
def Z1k (s:List UInt8) (k:Int) (post:PX×S->Prop):Prop:=bif decide (U9 s k>=(97:Int)) then bif decide (U9 s k<=(122:Int)) then Z1i k post s else Z1j s k post else Z1j s k post
def Z1l (s:List UInt8) (k:Int) (post:PX×S->Prop):Prop:=bif decide (U9 s k>=(65:Int)) then bif decide (U9 s k<=(90:Int)) then Z1i k post s else Z1k s k post else Z1k s k post
theorem qfA (s:List UInt8) (k:Int) (post:PX×S->Prop):(bif decide (k<C0 s) then bif decide ((0:Int)<=k/\k<C0 s) then bif decide (U9 s k>=(48:Int)) then bif decide (U9 s k<=(57:Int)) then Z1i k post s else Z1l s k post else Z1l s k post else False else post (PX.exit 0,S.mk 64 [] []))=(aD [] [] 138 4 (nmH s k)) post:=by kernel_rfl
theorem QH (s:List UInt8) (t r i:Int) (post:P×List (Nat×En)->Prop):(∃(iA:List UInt8),vb s=vb iA/\Zx/\bif !dH iA then post (P.cV [P.d zd,P.d (D.int .i64 (70:Int))],[]) else∃(pH:Int) (cz:Int) (aG:Int),GY t r i=GY pH cz aG/\Zx/\bif la pH cz aG==[] then post (P.cV (P.d zd::ZX),[]) else bif decide (rC s+1<=Zy) then bif decide (List.length (s++[(126:UInt8)])+List.length (la pH cz aG)<=Zy) then post (P.cV (P.d (D.str (s++[(126:UInt8)]++la pH cz aG))::qu),[]) else False else False)=(aJ [(138,Bg),(177,QC)] [] 152 [sD s,.d (MI t r i)] []) post:=by kernel_rfl
section
variable {X:XF}
theorem qck:FD X 146 QG:=FD.sJ Tryz.func146 (by kernel_rfl) (by kernel_rfl) (by
 intro ps R post hh
 obtain⟨s,c,rfl,rfl,hc,hp⟩:=hh
 refine⟨_,?_,hp⟩
 show KC [.d (.str s),.d (.str c)] []=_
 exact zao hc)
theorem qcl:FD X 112 Bg:=FD.mk (H:=[(146,QG)]) (hk:=[]) (by kernel_rfl) (.cons qck .nil) .nil (by
 intro ps R post hh
 obtain⟨s,rfl,rfl,hp⟩:=hh
 (rw[<-qcj];delta Z3 Z4 Zy rC Zx vb QD C0)
 refine ax (fun h1=>bf (fun h2=>ax (fun h3=>ax (fun h4=>⟨s,Ix,rfl,rfl,⟨by omega,by decide,by decide⟩,?_⟩) fun h4=> ?_) fun h3=> ?_) fun h2=> ?_) fun h1=> ?_
 ·refine fM hp ?_
  rw[zaE,dH,zaS,QF]
  simp only[Iy,zah]
  constructor
  ·intro h;exact h.2.2.2.2
  ·intro h;exact⟨by simpa using h1,by omega,by simpa using h3,by simpa using h4,h⟩
 ·exact fM hp (k9 fun h=>by simp at h4;exact h.2.2.2.1 h4)
 ·exact fM hp (k9 fun h=>by simp at h3;exact h.2.2.1 h3)
 ·exact fM hp (k9 fun h=>by omega)
 ·exact fM hp (k9 fun h=>by simp at h1;exact h.1 h1))
theorem MP (b:UInt8):iz b=true↔((48<=(b.toNat:Int)/\(b.toNat:Int)<=57)\/(65<=(b.toNat:Int)/\(b.toNat:Int)<=90)\/(97<=(b.toNat:Int)/\(b.toNat:Int)<=122)\/(b.toNat:Int)=46\/(b.toNat:Int)=45\/(b.toNat:Int)=95):=by
 unfold iz
 simp only[zah]
 omega
theorem FF (p:UInt8->Bool) (s:List UInt8):(∀b∈s,p b=true)↔ ∀i:Nat,i<s.length->p (s.getD i 0)=true:=by
 constructor
 ·intro h i hi
  have:=h s[i] (zas hi)
  simpa [zac,hi] using this
 ·intro h x hx
  obtain⟨i,hi,rfl⟩:=zaU hx
  have:=h i hi
  simpa [zac,hi] using this
def gNm:S->K (PX×S):=fun s post=> ∃l,s=nmH l 0/\l.length<=32/\(¬(∀b∈l,iz b=true)->post (.ret,⟨64,[(2,lz false)],[]⟩))/\((∀b∈l,iz b=true)->post (.exit 0,⟨64,[],[]⟩))
theorem qcm:LD X 138 4 (ae (aL 138 4) gNm):=LD.par (H:=[]) (hk:=[]) (by kernel_rfl) (by kernel_rfl) .nil .nil
 (A:=List UInt8) (B:=Int) (fun a k=>nmH a k)
 (fun a k=>a.length<=32/\0<=k/\k<=a.length/\ ∀i:Nat,(i:Int)<k->iz (a.getD i 0)=true)
 (fun a k=>(a.length-k).toNat)
 (fun a x=>((¬ ∀b∈a,iz b=true)/\x=(.ret,⟨64,[(2,lz false)],[]⟩))\/((∀b∈a,iz b=true)/\x=(.exit 0,⟨64,[],[]⟩)))
 (by
  rintro l k ⟨hs,h0,h1,he⟩
  (rw[<-qfA];delta Z3 ZJ Zn ZM Za Z9 Zj Z1i Zg U9 Z1j Z1k Z1l rC C0)
  have hb:=MP (l.getD k.toNat 0)
  have bZ: ¬iz (l.getD k.toNat 0)=true->k<l.length-> ¬ ∀b∈l,iz b=true:=fun h hk hh=>h ((FF _ l).1 hh k.toNat (by omega))
  have dZ:iz (l.getD k.toNat 0)=true->k<l.length->roundPost (l.length-k).toNat (fun m s=> ∃b',s=nmH l b'/\(l.length<=32/\0<=b'/\b'<=(l.length:Int)/\ ∀i:Nat,(i:Int)<b'->iz (l.getD i 0)=true)/\m=(l.length-b').toNat) (fun x=>((¬ ∀b∈l,iz b=true)/\x=(.ret,⟨64,[(2,lz false)],[]⟩))\/((∀b∈l,iz b=true)/\x=(.exit 0,⟨64,[],[]⟩))) (PX.normal,nmH l (k+1)):=fun h hk=>
   ⟨_,by omega,k+1,rfl,⟨hs,by omega,by omega,fun i hi=>by
    by_cases e:(i:Int)=k
    ·have:i=k.toNat:=by omega
     rw[this];exact h
    ·exact he i (by omega)⟩,rfl⟩
  generalize (((l.getD k.toNat 0).toNat:Nat):Int)=b at*
  refine bf (fun h=>bs (by omega) ?_) fun h=> .inr ⟨(FF _ l).2 fun i hi=>he i (by omega),rfl⟩
  repeat' (first |refine bf (fun _=> ?_) (fun _=> ?_)|refine hQ (fun _=> ?_) (fun _=> ?_)|refine Bd (fun _=> ?_) (fun _=> ?_))
  all_goals first
   |exact absurd (pG (k:=k) (by omega) (by omega)) (by simp;omega)
   |exact dZ (hb.2 (by omega)) h
   |exact .inl ⟨bZ (fun hh=>by have:=hb.1 hh;omega) h,rfl⟩)
 (by
  rintro s post ⟨l,rfl,h1,h2,h3⟩
  refine⟨l,0,rfl,⟨h1,by omega,by omega,fun i hi=>by omega⟩,?_⟩
  rintro x (⟨h,rfl⟩| ⟨h,rfl⟩)
  ·exact h2 h
  ·exact h3 h)
end
def pI (l:List (List UInt8)):List UInt8:=l.flatMap fun x=>47::x
def WR (l:List (List UInt8)):Nat:=(pI l).length
def Z1m (s:List UInt8):S:=S.mk 64 ((0,P.d (D.str s))::Z13) []
theorem WS (s:List UInt8) (post:P×List (Nat×En)->Prop):(bif s==[] then Z4 post else bif decide (C0 s>(32:Int)) then Z4 post else bif s==QD then Z4 post else bif s==(46:UInt8)::QD then Z4 post else∃(l:List UInt8),Z1m s=Z1m l/\rC l<=32/\((¬∀(b:UInt8),b∈l->iz b=true)->Z4 post)/\((∀(b:UInt8),b∈l->iz b=true)->ZP post))=(aJ [] [(4,ae (aL 138 4) gNm)] 138 [sD s] []) post:=by kernel_rfl
section
variable {X:XF}
theorem C1:FD X 138 Bg:=FD.mk (H:=[]) (hk:=[(4,ae (aL 138 4) gNm)]) (by kernel_rfl) .nil (.cons qcm .nil) (by
 intro ps R post hh
 obtain⟨s,rfl,rfl,hp⟩:=hh
 (rw[<-WS];delta ZO ZP rC Z7 Z13 Z1m QD C0 Z3 Z4)
 refine ax (fun h1=> ?_) fun h1=>bf (fun h2=> ?_) fun h2=>ax (fun h3=> ?_) fun h3=>ax (fun h4=> ?_) fun h4=>⟨s,rfl,by omega,fun bZ=> ?_,fun dZ=> ?_⟩
 ·exact fM hp (k9 fun h=>h.1 (by simpa using h1))
 ·exact fM hp (k9 fun h=>by omega)
 ·exact fM hp (k9 fun h=>h.2.2.1 (by simpa using h3))
 ·exact fM hp (k9 fun h=>h.2.2.2.1 (by simpa using h4))
 ·exact fM hp (k9 fun h=>bZ h.2.2.2.2)
 ·exact fM hp (k8 ⟨by simpa using h1,by omega,by simpa using h3,by simpa using h4,dZ⟩))
theorem yf {t r i:Int}:la t r i=[]↔cp t r i=false:=by
 unfold la
 split
 ·rename_i h
  simp[h,Bf]
 ·rename_i h
  simpa using h
theorem QI:FD X 152 IA:=FD.mk (H:=[(138,Bg),(177,QC)]) (hk:=[]) (by kernel_rfl) (.cons C1 (.cons WQ .nil)) .nil (by
 intro ps R post hh
 obtain⟨s,t,r,i,rfl,rfl,hp⟩:=hh
 (rw[<-QH];delta Z7 qu Zy rC ZR ZX Zt ZE GY zd Zx vb)
 unfold lb at hp
 refine⟨s,rfl,rfl,ax (fun h=> ?_) fun h=>⟨t,r,i,rfl,rfl,ax (fun h2=> ?_) fun h2=> ?_⟩⟩
 ·rw[zam (by simpa using h)] at hp;exact hp
 ·have h2:cp t r i=false:=yf.1 (by simpa using h2)
  rw[zao (by simpa using h),zam (by simp[h2])] at hp;exact hp
 ·have hn:dH s=true:=by simpa using h
  have hi:cp t r i=true:=by
   cases hi:cp t r i with
   |true=>rfl
   |false=>rw[yf.2 hi] at h2;simp at h2
  rw[zao hn,zao hi] at hp
  have hl:=Iz t r i
  simp only[dH,zah] at hn
  refine bs (by omega) (bs (by simp;omega) ?_)
  rw[la,zao hi]
  simpa using hp)
end
def IB:bq:=fun ps R post=> ∃s,ps=[sD s]/\R=[]/\s.length<=2000000/\post (lz (Lib.validD s),[])
def IC:bq:=fun ps R post=> ∃s,ps=[sD s]/\R=[]/\s.length<=2000000/\post (iD (Lib.runeCount ⟨⟨s⟩⟩),[])
def Z1o:List P:=[P.d (D.int .i64 (60:Int))]
def GZ (iA:List UInt8):Prop:=rC iA<=2000000
theorem qfB (s:List UInt8) (post:P×List (Nat×En)->Prop):(∃(iA:List UInt8),vb s=vb iA/\Zx/\GZ iA/\bif !Lib.validD iA then post (P.cV (P.d Z7::Z1o),[]) else∃(s_2:List UInt8),vb s=vb s_2/\Zx/\GZ s_2/\post (P.cV (P.d (D.int .i64 (↑(Lib.runeCount (ByteArray.mk (Array.mk s_2))):Int))::qu),[]))=(aJ [(148,IB),(149,IC)] [] 115 [sD s] []) post:=by kernel_rfl
section
variable {X:XF}
theorem WT:FD X 148 IB:=FD.sJ Tryz.func148 (by kernel_rfl) (by kernel_rfl) (by
 rintro ps R post ⟨s,rfl,rfl,hs,hp⟩
 exact⟨_,zao (by omega),hp⟩)
theorem WU:FD X 149 IC:=FD.sJ Tryz.func149 (by kernel_rfl) (by kernel_rfl) (by
 rintro ps R post ⟨s,rfl,rfl,hs,hp⟩
 exact⟨_,zao (by omega),hp⟩)
end
abbrev En3:=List UInt8×Bool×List UInt8
def SmE (l:List En3):Prop:=l.length<=2000000/\ ∀e∈l,e.1.length<=2000000/\e.2.2.length<=2000000
def SmX (l:List En3):Prop:=l.length<=2000/\ ∀e∈l,e.1.length<=10000/\e.2.2.length<=10000
section
variable {X:XF}
theorem SmX.e {l:List En3} (h:SmX l):SmE l:=⟨by have:=h.1;omega,fun e he=>by have:=h.2 e he;omega⟩
end
def IE (s:List UInt8):Prop:=(Lib.decodeL s).1=65533/\(Lib.decodeL s).2=1
def IF:bq:=fun ps R post=> ∃s,ps=[sD s]/\R=[]/\(s≠[]/\s.length<=2000000)/\(IE s-> ∀c n,post (.cV [iD c,iD n,lz false],[]))/\(¬IE s-> ∀(c:Int) (n:Int),n=(Lib.decodeL s).2->1<=n->n.toNat<=s.length->post (.cV [iD c,iD n,lz true],[]))
def Og:List P:=[ZO]
def Z1K (s:List UInt8):Int:=(↑(UInt8.toNat (List.getD s 3 (0:UInt8))):Int)
def FG (s:List UInt8):Int:=(↑(UInt8.toNat (List.getD s 2 (0:UInt8))):Int)
def DU (s:List UInt8):Int:=(↑(UInt8.toNat (List.getD s 1 (0:UInt8))):Int)
def Bh (s:List UInt8):Int:=(↑(UInt8.toNat (List.getD s 0 (0:UInt8))):Int)
def Z1I (s:List UInt8):Int:=(Bh s-(240:Int))*(64:Int)
def Z1J (s:List UInt8):Int:=(Z1I s+DU s-(128:Int))*(64:Int)
def Z1L (s:List UInt8):Int:=(Z1J s+FG s-(128:Int))*(64:Int)
def Z1M (s:List UInt8):Int:=Z1L s+Z1K s-(128:Int)
def Z1N (post:P×List (Nat×En)->Prop) (s:List UInt8):Prop:=post (P.cV (P.d (D.int .i64 (Z1M s))::P.d (D.int .i64 (4:Int))::Og),[])
def Z1D (s:List UInt8):Bool:=decide ((0:Int)<=(1:Int)+(1:Int)/\(1:Int)+(1:Int)<C0 s)
def Z1x (s:List UInt8):Bool:=decide (DU s>=(192:Int))
def Z1w (s:List UInt8):Bool:=decide (DU s<(128:Int))
def Z1v (s:List UInt8):Bool:=decide (Z9<=DU s/\DU s<=Za)
def Z1t (s:List UInt8):Bool:=decide ((0:Int)<=(1:Int)/\(1:Int)<C0 s)
def Va:List P:=[P.d Z3]
def vd (post:P×List (Nat×En)->Prop):Prop:=post (P.cV (P.d Z7::P.d Z7::Va),[])
def Z1O (s:List UInt8) (post:P×List (Nat×En)->Prop):Prop:=bif decide (Bh s>=(240:Int)) then bif decide (Bh s<(245:Int)) then bif decide (Z9<=Bh s-(240:Int)/\Bh s-(240:Int)<=Za) then bif decide (C0 s<(4:Int)) then vd post else bif Z1t s then bif Z1v s then bif Z1w s then vd post else bif Z1x s then vd post else bif decide (Z9<=Z1I s/\Z1I s<=Za) then bif decide (Z9<=Z1I s+DU s/\Z1I s+DU s<=Za) then bif decide (Z9<=Z1I s+DU s-(128:Int)/\Z1I s+DU s-(128:Int)<=Za) then bif Z1D s then bif decide (Z9<=FG s/\FG s<=Za) then bif decide (FG s<(128:Int)) then vd post else bif decide (FG s>=(192:Int)) then vd post else bif decide (Z9<=Z1J s/\Z1J s<=Za) then bif decide (Z9<=Z1J s+FG s/\Z1J s+FG s<=Za) then bif decide (Z9<=Z1J s+FG s-(128:Int)/\Z1J s+FG s-(128:Int)<=Za) then bif decide ((0:Int)<=(1:Int)+(1:Int)+(1:Int)/\(1:Int)+(1:Int)+(1:Int)<C0 s) then bif decide (Z9<=Z1K s/\Z1K s<=Za) then bif decide (Z1K s<(128:Int)) then vd post else bif decide (Z1K s>=(192:Int)) then vd post else bif decide (Z9<=Z1L s/\Z1L s<=Za) then bif decide (Z9<=Z1L s+Z1K s/\Z1L s+Z1K s<=Za) then bif decide (Z9<=Z1M s/\Z1M s<=Za) then bif decide (Z1M s<(65536:Int)) then vd post else bif decide (Z1M s>(1114111:Int)) then vd post else bif decide (Z1M s>=(55296:Int)) then bif decide (Z1M s<(57344:Int)) then vd post else Z1N post s else Z1N post s else False else False else False else False else False else False else False else False else False else False else False else False else False else False else False else False else vd post else vd post
def Z1C (s:List UInt8):Int:=(Bh s-(224:Int))*(64:Int)
def Z1F (s:List UInt8):Int:=(Z1C s+DU s-(128:Int))*(64:Int)
def Z1G (s:List UInt8):Int:=Z1F s+FG s-(128:Int)
def Z1H (post:P×List (Nat×En)->Prop) (s:List UInt8):Prop:=post (P.cV (P.d (D.int .i64 (Z1G s))::P.d (D.int .i64 (3:Int))::Og),[])
def Z1P (s:List UInt8) (post:P×List (Nat×En)->Prop):Prop:=bif decide (Bh s>=(224:Int)) then bif decide (Bh s<(240:Int)) then bif decide (Z9<=Bh s-(224:Int)/\Bh s-(224:Int)<=Za) then bif decide (C0 s<(3:Int)) then vd post else bif Z1t s then bif Z1v s then bif Z1w s then vd post else bif Z1x s then vd post else bif decide (Z9<=Z1C s/\Z1C s<=Za) then bif decide (Z9<=Z1C s+DU s/\Z1C s+DU s<=Za) then bif decide (Z9<=Z1C s+DU s-(128:Int)/\Z1C s+DU s-(128:Int)<=Za) then bif Z1D s then bif decide (Z9<=FG s/\FG s<=Za) then bif decide (FG s<(128:Int)) then vd post else bif decide (FG s>=(192:Int)) then vd post else bif decide (Z9<=Z1F s/\Z1F s<=Za) then bif decide (Z9<=Z1F s+FG s/\Z1F s+FG s<=Za) then bif decide (Z9<=Z1G s/\Z1G s<=Za) then bif decide (Z1G s<(2048:Int)) then vd post else bif decide (Z1G s>(1114111:Int)) then vd post else bif decide (Z1G s>=(55296:Int)) then bif decide (Z1G s<(57344:Int)) then vd post else Z1H post s else Z1H post s else False else False else False else False else False else False else False else False else False else False else False else Z1O s post else Z1O s post
def WV:D:=D.int .i64 (2:Int)
def Z1y (s:List UInt8):Int:=(Bh s-(192:Int))*(64:Int)
def Z1z (s:List UInt8):Int:=Z1y s+DU s-(128:Int)
def Z1B (post:P×List (Nat×En)->Prop) (s:List UInt8):Prop:=post (P.cV (P.d (D.int .i64 (Z1z s))::P.d WV::Og),[])
theorem WW (s:List UInt8) (post:P×List (Nat×En)->Prop):(bif decide ((0:Int)<=(0:Int)/\(0:Int)<C0 s) then bif decide (Z9<=Bh s/\Bh s<=Za) then bif decide (Bh s<(128:Int)) then post (P.cV (P.d (D.int .i64 (Bh s))::P.d ZR::Og),[]) else bif decide (Bh s>=(194:Int)) then bif decide (Bh s<(224:Int)) then bif decide (Z9<=Bh s-(192:Int)/\Bh s-(192:Int)<=Za) then bif decide (C0 s<(2:Int)) then vd post else bif Z1t s then bif Z1v s then bif Z1w s then vd post else bif Z1x s then vd post else bif decide (Z9<=Z1y s/\Z1y s<=Za) then bif decide (Z9<=Z1y s+DU s/\Z1y s+DU s<=Za) then bif decide (Z9<=Z1z s/\Z1z s<=Za) then bif decide (Z1z s>(1114111:Int)) then vd post else bif decide (Z1z s>=(55296:Int)) then bif decide (Z1z s<(57344:Int)) then vd post else Z1B post s else Z1B post s else False else False else False else False else False else False else Z1P s post else Z1P s post else False else False)=(aJ [] [] 168 [sD s] []) post:=by kernel_rfl
abbrev rsH (s:List UInt8) (o:List (List UInt8)):S:=⟨29,[(0,sD s),(4,.sl 0 0 o.length)],[(0,⟨0,none,.arr 9 false (o.map D.str)⟩)]⟩
def QJ (o:List (List UInt8)):En:=En.mk 0 none (Obj.arr (9:TypeId) false (List.map D.str o))
def Z1W (post:P×List (Nat×En)->Prop) (o:List (List UInt8)):Prop:=post (P.cV (P.sl 0 0 (List.length o)::qu),[(0,QJ o)])
def QK (iA:List UInt8):Prop:=Lib.validD iA=true
def Z1Q:En:=En.mk 0 none (Obj.arr (9:TypeId) false [])
def QL (iA:List UInt8):Prop:=Lib.validD iA=false
def Z1T (iA:List UInt8) (post:P×List (Nat×En)->Prop):Prop:=QL iA-> ∀(_:List (List UInt8)),post (P.cV (ZQ::Z1o),[(0,Z1Q)])
def Z1R (s:List UInt8):S:=S.mk 29 [(0,P.d (D.str s)),(4,ZQ)] [(0,Z1Q)]
def Z1X (post:P×List (Nat×En)->Prop) (o:List (List UInt8)):Prop:=post (P.cV (P.d (D.int .i64 (↑(List.length o):Int))::qu),[])
def Z1Z (o:List (List UInt8)) (n:Int) (s:List UInt8):Nat:=List.length o+List.length [D.str (List.drop 0 (List.take (Zg n) s))]
def KK (o:List (List UInt8)):Nat×En:=(1,QJ o)
theorem qfC (s:List UInt8) (o:List (List UInt8)) (post:PX×S->Prop):(bif decide (C0 s>(0:Int)) then∃(iA:List UInt8),vb s=vb iA/\Zx/\(iA≠[]/\GZ iA)/\(IE iA-> ∀(_ _:Int),post (PX.ret,S.mk 29 [(2,ZQ),(3,P.d (D.int .i64 (60:Int))),(4,P.sl 1 0 (List.length o))] [(0,Z1Q),KK o]))/\(¬IE iA-> ∀(_ n:Int),n=(↑(Prod.snd (Lib.decodeL iA)):Int)->(1:Int)<=n->Zg n<=rC iA->bif decide ((0:Int)<=n/\n<=C0 s) then bif Nat.ble (List.length o) (List.length (List.map D.str o))&&aN (Z1Z o n s) 16 then bif decide ((0:Int)<=n/\n<=C0 s) then post (PX.normal,S.mk 29 [(0,P.d (D.str (List.drop (Zg n) (List.take (rC s) s)))),(4,P.sl 0 0 (Z1Z o n s))] [(0,En.mk 0 none (Obj.arr (9:TypeId) false (List.take (List.length o) (List.map D.str o)++[D.str (List.drop 0 (List.take (Zg n) s))])))]) else False else False else False) else post (PX.exit 0,S.mk 29 [(4,P.sl 0 0 (List.length o))] [(0,QJ o)]))=(aD [(168,IF)] [] 144 2 (rsH s o)) post:=by kernel_rfl
def FH (n b0 b1 b2 b3:Nat):Nat×Nat:=
 if b0<128 then(b0,1) else
 if b0/32=6/\1<n/\b1/64=2 then(if 128<=(b0%32)*64+b1%64 then((b0%32)*64+b1%64,2) else(65533,1)) else
 if b0/16=14/\(1<n/\b1/64=2)/\2<n/\b2/64=2 then(if 2048<=(b0%16)*4096+(b1%64)*64+b2%64/\((b0%16)*4096+(b1%64)*64+b2%64<55296\/57344<=(b0%16)*4096+(b1%64)*64+b2%64/\(b0%16)*4096+(b1%64)*64+b2%64<=1114111) then((b0%16)*4096+(b1%64)*64+b2%64,3) else(65533,1)) else
 if b0/8=30/\(1<n/\b1/64=2)/\(2<n/\b2/64=2)/\3<n/\b3/64=2 then(if 65536<=(b0%8)*262144+(b1%64)*4096+(b2%64)*64+b3%64/\((b0%8)*262144+(b1%64)*4096+(b2%64)*64+b3%64<55296\/57344<=(b0%8)*262144+(b1%64)*4096+(b2%64)*64+b3%64/\(b0%8)*262144+(b1%64)*4096+(b2%64)*64+b3%64<=1114111) then((b0%8)*262144+(b1%64)*4096+(b2%64)*64+b3%64,4) else(65533,1)) else(65533,1)
theorem QM (s:List UInt8) (k:Nat):(ByteArray.mk s.toArray).get! k=s.getD k 0:=by
 show s.toArray.getD k 0=_
 simp[Array.getD,zac]
 split
 ·rename_i h;simp[h]
 ·rename_i h;simp[zbm (by omega:s.length<=k)]
theorem MQ (s:List UInt8):Lib.decodeL s=FH s.length (s.getD 0 0).toNat (s.getD 1 0).toNat (s.getD 2 0).toNat (s.getD 3 0).toNat:=by
 have hs:(ByteArray.mk s.toArray).size=s.length:=rfl
 have hv: ∀c:Nat,Utf8.valid (c:Int)=decide (c<55296\/57344<=c/\c<=1114111):=fun c=>by
  unfold Utf8.valid
  rw[zaE]
  simp only[za9,zab,zah]
  omega
 unfold Lib.decodeL Utf8.decode FH
 simp only[QM,zaF,hs,hv,zab,zaS,zah,ge_iff_le,Utf8.runeError,and_assoc]
section
variable {X:XF}
theorem WX:FD X 168 IF:=FD.mk (H:=[]) (hk:=[]) (by kernel_rfl) .nil .nil (by
 intro ps R post hh
 obtain⟨s,rfl,rfl,⟨dG,hs⟩,h1,h2⟩:=hh
 (rw[<-WW];delta ZO Og Z1K FG DU Bh Z1I Z1J Z1L Z1M Z1N rC C0 Z1D Z1x Z1w Za Z9 Z1v Z1t Z3 Va Z7 vd Z1O Z1C Z1F Z1G Z1H Z1P WV Z1y Z1z Z1B ZR)
 have qh2:0<s.length:=zbM.2 dG
 unfold IE at h1 h2
 rw[MQ] at h1 h2
 have Cl:=(s.getD 0 0).toNat_lt
 have jJ:=(s.getD 1 0).toNat_lt
 have cm:=(s.getD 2 0).toNat_lt
 have lA:=(s.getD 3 0).toNat_lt
 generalize (s.getD 0 0).toNat=b0 at Cl h1 h2
 generalize (s.getD 1 0).toNat=b1 at jJ h1 h2
 generalize (s.getD 2 0).toNat=b2 at cm h1 h2
 generalize (s.getD 3 0).toNat=b3 at lA h1 h2
 generalize s.length=n at qh2 hs h1 h2
 have bad:FH n b0 b1 b2 b3=(65533,1)->post (.cV [iD 0,iD 0,lz false],[]):=fun h=>h1 (by rw[h];exact⟨rfl,rfl⟩) 0 0
 have qfD:b0<128-> ∀c,post (.cV [iD c,iD 1,lz true],[]):=fun h c=>by
  have e:FH n b0 b1 b2 b3=(b0,1):=by unfold FH;rw[zao h]
  rw[e] at h2
  exact h2 (fun h=>by have:=h.1;simp only at this;omega) c 1 rfl (by omega) (by omega)
 have qcn: ∀c (k:Int),(FH n b0 b1 b2 b3).2=k.toNat->2<=k->k.toNat<=n->post (.cV [iD c,iD k,lz true],[]):=fun c k h3 h4 h5=>h2 (fun h=>by rw[h3] at h;omega) c k (by omega) (by omega) h5
 clear h1 h2
 repeat' (first |refine bs (by omega) ?_ |refine bf (fun h=> ?_) (fun h=> ?_))
 all_goals first
  | (refine bad ?_;unfold FH;(repeat' split);all_goals first |rfl | (exfalso;omega))
  |exact qfD (by omega) _
  | (refine qcn _ _ ?_ (by omega) (by omega);unfold FH;(repeat' split);all_goals first |rfl | (exfalso;omega)))
end
def qv (x y:Int):Int:=if x<y then-1 else if x>y then 1 else 0
def KL (x y:Int):Int:=if x≠0 then x else y
def pJ (t r t' r':Int):Int:=KL (qv t t') (qv r r')
def yg (t r i t' r' i':Int):Int:=KL (pJ t r t' r') (qv i i')
def rD (t r t' r':Int):Bool:=decide (t<t'\/t=t'/\r<r')
abbrev itD (t r i:Int) (p:List UInt8) (d b:Bool):D:= .agg [.int .i64 t,.int .i64 r,.int .i64 i,.str p,.bool d,.bool b]
def Z22 (post:P×List (Nat×En)->Prop):Prop:=post (P.d ZR,[])
def QN:P:=P.d (D.int .i64 (-1:Int))
def oN (post:P×List (Nat×En)->Prop):Prop:=post (QN,[])
def Z23 (x:Int) (y:Int) (post:P×List (Nat×En)->Prop):Prop:=bif ZI x y then oN post else bif decide (x>y) then Z22 post else Z8 post
theorem MR (x y:Int) (post:P×List (Nat×En)->Prop):(bif x !=x then bif y !=y then Z8 post else oN post else bif y !=y then Z22 post else Z23 x y post)=(aJ [] [] 100 [.d (.int .i64 x),.d (.int .i64 y)] []) post:=by kernel_rfl
theorem qh3 (x y:Int) (post:P×List (Nat×En)->Prop):(bif D.ah (D.nth (Zt x::ZE y) 0) !=(0:Int) then post (P.d (D.int .i64 (D.ah (D.nth (Zt x::ZE y) 0))),[]) else bif D.ah (D.nth (Zt x::ZE y) 1) !=(0:Int) then post (P.d (D.int .i64 (D.ah (D.nth (Zt x::ZE y) 1))),[]) else Z8 post)=(aJ [] [] 99 [.d (.sl 1 [.int .i64 x,.int .i64 y])] []) post:=by kernel_rfl
theorem QO (t r t' r':Int) (post:P×List (Nat×En)->Prop):(bif decide (t<t') then post (P.d (D.bool true),[]) else bif t==t' then post (P.d (D.bool (decide (r<r'))),[]) else post (P.d (D.bool false),[]))=(aJ [] [] 14 [.d (U7 t r),.d (U7 t' r')] []) post:=by kernel_rfl
def gg:bq:=fun ps R post=> ∃x y,ps=[.d (.int .i64 x),.d (.int .i64 y)]/\R=[]/\post (.d (.int .i64 (qv x y)),[])
def hOr:bq:=fun ps R post=> ∃x y,ps=[.d (.sl 1 [.int .i64 x,.int .i64 y])]/\R=[]/\post (.d (.int .i64 (KL x y)),[])
def wv:bq:=fun ps R post=> ∃t r t' r',ps=[.d (U7 t r),.d (U7 t' r')]/\R=[]/\post (.d (.bool (rD t r t' r')),[])
def tX:bq:=fun ps R post=> ∃t r t' r',ps=[.d (U7 t r),.d (U7 t' r')]/\R=[]/\post (.d (.int .i64 (pJ t r t' r')),[])
def iR:bq:=fun ps R post=> ∃t r i t' r' i',ps=[.d (MI t r i),.d (MI t' r' i')]/\R=[]/\post (.d (.int .i64 (yg t r i t' r' i')),[])
def Z24 (t:Int) (t':Int) (x:Int) (y:Int):Prop:=P.d (Zt t)::Zv t'=P.d (Zt x)::Zv y
theorem qfE (t r t' r':Int) (post:P×List (Nat×En)->Prop):(∃(x:Int) (y:Int),Z24 t t' x y/\Zx/\ ∃(aI:Int) (C2:Int),Z24 r r' aI C2/\Zx/\ ∃(x_2:Int) (y_2:Int),[P.d (D.sl 1 [D.int .i64 (qv x y),D.int .i64 (qv aI C2)])]=[P.d (D.sl 1 (Zt x_2::ZE y_2))]/\Zx/\post (P.d (D.int .i64 (KL x_2 y_2)),[]))=(aJ [(100,gg),(99,hOr)] [] 66 [.d (U7 t r),.d (U7 t' r')] []) post:=by kernel_rfl
def IG (t:Int) (r:Int) (t':Int) (r':Int):List P:=[P.d (D.agg (Zt t::ZE r)),P.d (D.agg (Zt t'::ZE r'))]
theorem qco (t r t' r':Int) (post:P×List (Nat×En)->Prop):(∃(pH:Int) (cz:Int) (C3:Int) (C4:Int),IG t r t' r'=IG pH cz C3 C4/\Zx/\bif rD pH cz C3 C4 then oN post else∃(t_2:Int) (DV:Int) (qfF:Int) (qfG:Int),IG t' r' t r=IG t_2 DV qfF qfG/\Zx/\bif rD t_2 DV qfF qfG then Z22 post else Z8 post)=(aJ [(14,wv)] [] 117 [.d (U7 t r),.d (U7 t' r')] []) post:=by kernel_rfl
theorem WY (t r i t' r' i':Int) (post:P×List (Nat×En)->Prop):(∃(pH:Int) (cz:Int) (C3:Int) (C4:Int),IG t r t' r'=IG pH cz C3 C4/\Zx/\ ∃(x:Int) (y:Int),Z24 i i' x y/\Zx/\ ∃(aI:Int) (C2:Int),[P.d (D.sl 1 [D.int .i64 (pJ pH cz C3 C4),D.int .i64 (qv x y)])]=[P.d (D.sl 1 (Zt aI::ZE C2))]/\Zx/\post (P.d (D.int .i64 (KL aI C2)),[]))=(aJ [(100,gg),(99,hOr),(66,tX)] [] 150 [.d (MI t r i),.d (MI t' r' i')] []) post:=by kernel_rfl
theorem QP (t r i t' r' i':Int) (post:P×List (Nat×En)->Prop):(∃(pH:Int) (cz:Int) (C3:Int) (C4:Int),IG t r t' r'=IG pH cz C3 C4/\Zx/\bif pJ pH cz C3 C4 !=(0:Int) then post (P.d (D.int .i64 (pJ pH cz C3 C4)),[]) else Z23 i i' post)=(aJ [(117,tX)] [] 88 [.d (MI t r i),.d (MI t' r' i')] []) post:=by kernel_rfl
theorem pK {post:P×List (Nat×En)->Prop} {k:IntKind} {a b:Int} {R:List (Nat×En)} (hp:post (P.d (D.int k a),R)) (h:a=b):post (P.d (D.int k b),R):=h▸hp
theorem yh {post:P×List (Nat×En)->Prop} {a b:Bool} {R:List (Nat×En)} (hp:post (P.d (D.bool a),R)) (h:a=b):post (P.d (D.bool b),R):=h▸hp
theorem yi (x:Int):(x !=x)=false:=by simp
theorem FI: ∀ps R post,gg ps R post->aJ [] [] 100 ps R post:=by
 intro ps R post hh
 obtain⟨x,y,rfl,rfl,hp⟩:=hh
 (rw[<-MR];delta Z7 Z8 ZR Z22 QN oN ZI Z23)
 refine eA (yi x) (eA (yi y) ?_)
 refine ax (fun h=> ?_) fun h=>ax (fun h'=> ?_) fun h'=> ?_
 ·exact pK hp (by
   have h:x<y:=by simpa using h
   simp[qv,h])
 ·exact pK hp (by
   have h: ¬x<y:=by simpa using h
   have h':x>y:=by simpa using h'
   simp[qv,h,h'])
 ·exact pK hp (by
   have h: ¬x<y:=by simpa using h
   have h': ¬x>y:=by simpa using h'
   simp[qv,h,h'])
theorem bOr: ∀ps R post,hOr ps R post->aJ [] [] 99 ps R post:=by
 intro ps R post hh
 obtain⟨x,y,rfl,rfl,hp⟩:=hh
 (rw[<-qh3];delta Z7 Z8 Zt ZE)
 refine ax (fun h=> ?_) fun h=>ax (fun h'=> ?_) fun h'=> ?_
 ·exact pK hp (by
   have h:x≠0:=by simpa [D.nth,D.ah] using h
   simp[KL,h,D.nth,D.ah])
 ·exact pK hp (by
   have h:x=0:=by simpa [D.nth,D.ah] using h
   simp[KL,h,D.nth,D.ah])
 ·exact pK hp (by
   have h:x=0:=by simpa [D.nth,D.ah] using h
   have h':y=0:=by simpa [D.nth,D.ah] using h'
   simp[KL,h,h'])
theorem WZ: ∀ps R post,wv ps R post->aJ [] [] 14 ps R post:=by
 intro ps R post hh
 obtain⟨t,r,t',r',rfl,rfl,hp⟩:=hh
 rw[<-QO]
 refine ax (fun h=> ?_) fun h=>ax (fun h'=> ?_) fun h'=> ?_
 ·exact yh hp (by
   have h:t<t':=by simpa using h
   simp[rD,h])
 ·exact yh hp (by
   have h':t=t':=by simpa using h'
   simp[rD,h'])
 ·exact yh hp (by
   have h: ¬t<t':=by simpa using h
   have h': ¬t=t':=by simpa using h'
   simp[rD,h'];omega)
theorem qfH: ∀ps R post,tX ps R post->aJ [(100,gg),(99,hOr)] [] 66 ps R post:=by
 intro ps R post hh
 obtain⟨t,r,t',r',rfl,rfl,hp⟩:=hh
 (rw[<-qfE];delta Zt ZE Zx Zv Z24)
 exact⟨_,_,rfl,rfl,_,_,rfl,rfl,_,_,rfl,rfl,hp⟩
theorem qcp: ∀ps R post,iR ps R post->aJ [(100,gg),(99,hOr),(66,tX)] [] 150 ps R post:=by
 intro ps R post hh
 obtain⟨t,r,i,t',r',i',rfl,rfl,hp⟩:=hh
 (rw[<-WY];delta Zt ZE Zv Z24 Zx IG)
 exact⟨_,_,_,_,rfl,rfl,_,_,rfl,rfl,_,_,rfl,rfl,hp⟩
section
variable {X:XF}
theorem FJ:FD X 14 wv:=FD.mk (H:=[]) (by kernel_rfl) .nil .nil WZ
theorem qcq:FD X 117 tX:=FD.mk (H:=[(14,wv)]) (by kernel_rfl) (.cons FJ .nil) .nil (by
 intro ps R post hh
 obtain⟨t,r,t',r',rfl,rfl,hp⟩:=hh
 (rw[<-qco];delta Z7 Z8 ZR Z22 QN oN Zx Zt ZE IG)
 refine⟨_,_,_,_,rfl,rfl,ax (fun h=> ?_) fun h=>⟨_,_,_,_,rfl,rfl,ax (fun h'=> ?_) fun h'=> ?_⟩⟩
 all_goals exact pK hp (by simp only[rD,zah,zaO] at*;simp only[pJ,KL,qv];(repeat' split)<;>omega))
theorem mM:FD X 88 iR:=FD.mk (H:=[(117,tX)]) (by kernel_rfl) (.cons qcq .nil) .nil (by
 intro ps R post hh
 obtain⟨t,r,i,t',r',i',rfl,rfl,hp⟩:=hh
 (rw[<-QP];delta Z7 Z8 ZR Z22 QN oN ZI Z23 Zx Zt ZE IG)
 refine⟨_,_,_,_,rfl,rfl,ax (fun h=> ?_) fun h=>ax (fun h'=> ?_) fun h'=>ax (fun h''=> ?_) fun h''=> ?_⟩
 all_goals exact pK hp (by simp only[bne_iff_ne,bne_eq_false_iff_eq,ne_eq,zah,zaO] at*;simp only[yg,KL,qv];(repeat' split)<;>omega))
theorem Bi:FD X 100 gg:=FD.mk (H:=[]) (by kernel_rfl) .nil .nil FI
theorem qfI:FD X 99 hOr:=FD.mk (H:=[]) (by kernel_rfl) .nil .nil bOr
theorem qaJ:FD X 66 tX:=FD.mk (H:=[(100,gg),(99,hOr)]) (by kernel_rfl) (.cons Bi (.cons qfI .nil)) .nil qfH
theorem W2:FD X 150 iR:=FD.mk (H:=[(100,gg),(99,hOr),(66,tX)]) (by kernel_rfl) (.cons Bi (.cons qfI (.cons qaJ .nil))) .nil qcp
end
theorem MS:FC 100 gg:=FC.mk (H:=[]) (by kernel_rfl) .nil FI
theorem qh4:FC 99 hOr:=FC.mk (H:=[]) (by kernel_rfl) .nil bOr
theorem qaK:FC 66 tX:=FC.mk (H:=[(100,gg),(99,hOr)]) (by kernel_rfl) (.cons MS (.cons qh4 .nil)) qfH
theorem FC.qfJ {g:Nat} {h:bq} (hf:FC g h) {x y:D} {i:Int} (hp:h [.d x,.d y] [] (fun z=>z=(.d (.int .i64 i),[]))):xW PR x9 g x y i:=by
 obtain⟨z,h1,h2⟩:=hf _ _ _ hp
 subst h2
 exact h1
abbrev au:=Int×Int×Int
def bB (x:au):D:= .agg [.int .i64 x.1,.int .i64 x.2.1,.int .i64 x.2.2]
abbrev cO (l:List au):P:= .d (.sl 3 (l.map bB))
abbrev Pl:=au×au×List UInt8×Bool
def bI (p:Pl):D:= .agg [.int .i64 p.1.1,.int .i64 p.1.2.1,.int .i64 p.1.2.2,.int .i64 p.2.1.1,.int .i64 p.2.1.2.1,.int .i64 p.2.1.2.2,.str p.2.2.1,.bool p.2.2.2]
abbrev eG (l:List Pl):P:= .d (.sl 8 (l.map bI))
def yj (p:Pl):Bool:=cp p.1.1 p.1.2.1 p.1.2.2&&dH p.2.2.1
def eb (T:List Pl) (x:au):Option Pl:=T.find? fun p=>p.1==x
def II (T:List Pl) (p:Pl):List Pl:=if(eb T p.1).isSome then T else if yj p then T++[p] else T
def oO (l:List Pl):List Pl:=l.foldl II []
theorem hY (p:Pl):cC PR 104 (bI p)=true:=by
 obtain⟨⟨a,b,c⟩,⟨d,e,f⟩,g,h⟩:=p
 kernel_rfl
theorem lF (x:au):cC PR 50 (bB x)=true:=by
 obtain⟨a,b,c⟩:=x
 kernel_rfl
def sP:Pl:=((0,0,0),(0,0,0),[],false)
theorem iS {l:List Pl} {i:Nat} (h:i<l.length):D.nth (l.map bI) i=bI (l.getD i sP):=by
 rw[ay bI l i h]
 simp[zac,h]
theorem qcr {l:List au} {i:Nat} (h:i<l.length):D.nth (l.map bB) i=bB (l.getD i (0,0,0)):=by
 rw[ay bB l i h]
 simp[zac,h]
theorem IJ {α β:Type} (f:β->α->β) (b:β) (l:List α) (d:α) (k:Nat) (h:k<l.length):(l.take (k+1)).foldl f b=f ((l.take k).foldl f b) (l.getD k d):=by
 rw[zb6,zae h,za1]
 simp[zac,h]
section
variable {X:XF}
end
def W3 (T:List Pl):Nat->au->List au->Option (List au)
 |0,_,_=>none
 |n+1,x,out=>match eb T x with
  |none=>none
  |some p=>if 0<out.length/\p.2.2.2=false then none else if p.2.1=(0,0,0) then some (out++[x]) else W3 T n p.2.1 (out++[x])
def wy (T:List Pl) (x:au):Option (List au):=W3 T (T.length+1) x []
def mh (x y:au):Bool:=decide (x.1<y.1\/x.1=y.1/\(x.2.1<y.2.1\/x.2.1=y.2.1/\x.2.2<y.2.2))
theorem hZ (x y:au):yg x.1 x.2.1 x.2.2 y.1 y.2.1 y.2.2<0↔mh x y=true:=by
 unfold mh
 simp only[zah,yg,pJ,KL,qv]
 (repeat' split)<;>omega
structure G6 {α:Type} (lt:α->α->Bool):Prop where
 Kt: ∀x,lt x x=false
 tr: ∀x y z,lt x y=true->lt y z=true->lt x z=true
 q8: ∀x y,lt x y=false->lt y x=false->x=y
theorem qaL:G6 mh where
 Kt x:=by simp[mh]
 tr x y z:=by simp only[mh,zah];omega
 q8 x y:=by
  simp only[mh,zaO]
  intro h1 h2
  obtain⟨a,b,c⟩:=x
  obtain⟨d,e,f⟩:=y
  simp only at h1 h2
  have:a=d:=by omega
  have:b=e:=by omega
  have:c=f:=by omega
  subst_vars
  rfl
theorem G6.asymm {α:Type} {lt:α->α->Bool} (h:G6 lt) {x y:α} (h1:lt x y=true):lt y x=false:=by
 cases h2:lt y x with
 |false=>rfl
 |true=>have:=h.tr _ _ _ h1 h2;rw[h.Kt] at this;cases this
theorem G6.ntr {α:Type} {lt:α->α->Bool} (h:G6 lt) {x y z:α} (h1:lt x y=false) (h2:lt y z=false):lt x z=false:=by
 cases h3:lt x z with
 |false=>rfl
 |true=>
  cases h4:lt y x with
  |true=>rw[h.tr _ _ _ h4 h3] at h2;cases h2
  |false=>
   have:=h.q8 _ _ h1 h4
   subst this
   rw[h3] at h2
   cases h2
section
variable {α:Type} (lt:α->α->Bool)
def nQ (a:α):List α->List α
 | []=>[a]
 |b::r=>if lt a b then b::nQ a r else a::b::r
def cJ (o:List α) (a:α):List α:=(nQ lt a o.reverse).reverse
def cc (l:List α):List α:=l.foldl (cJ lt) []
variable {lt}
theorem tY (a:α): ∀l,(nQ lt a l).Perm (a::l)
 | []=> .refl _
 |b::r=>by
  unfold nQ
  split
  ·exact((tY a r).cons b).trans (.swap a b r)
  ·exact .refl _
theorem gJ (o:List α) (a:α):(cJ lt o a).Perm (o++[a]):=by
 unfold cJ
 refine(zcU _).trans ((tY a _).trans ?_)
 exact((zcU o).cons a).trans (List.perm_append_comm (l₁:=[a]) (l₂:=o))
theorem yl: ∀(l o:List α),(l.foldl (cJ lt) o).Perm (o++l)
 | [],o=>by simp
 |a::r,o=>by
  refine(yl r _).trans ?_
  exact((gJ o a).append_right r).trans (by simp)
theorem cw (l:List α):(cc lt l).Perm l:=by simpa [cc] using yl (lt:=lt) l []
theorem KM (h:G6 lt) (a:α): ∀l,l.Pairwise (fun x y=>lt x y=false)->(nQ lt a l).Pairwise (fun x y=>lt x y=false)
 | [],_=>by simp[nQ]
 |b::r,hp=>by
  unfold nQ
  have Oc:=zcQ.1 hp
  split
  ·rename_i hl
   refine zcQ.2 ⟨fun y hy=> ?_,KM h a r Oc.2⟩
   rcases zav.1 ((tY a r).mem_iff.1 hy) with rfl |hy
   ·exact h.asymm hl
   ·exact Oc.1 _ hy
  ·rename_i hl
   have hl:lt a b=false:=by simpa using hl
   refine zcQ.2 ⟨fun y hy=> ?_,hp⟩
   rcases zav.1 hy with rfl |hy
   ·exact hl
   ·exact h.ntr hl (Oc.1 _ hy)
theorem KN (h:G6 lt) {o:List α} (a:α) (hp:o.Pairwise (fun x y=>lt y x=false)):(cJ lt o a).Pairwise (fun x y=>lt y x=false):=by
 unfold cJ
 rw[zcD]
 exact KM h a _ (by rw[zcD];exact hp)
theorem FK (h:G6 lt): ∀(l o:List α),o.Pairwise (fun x y=>lt y x=false)->(l.foldl (cJ lt) o).Pairwise (fun x y=>lt y x=false)
 | [],_,hp=>hp
 |a::r,_,hp=>FK h r _ (KN h a hp)
theorem FL (h:G6 lt) (l:List α):(cc lt l).Pairwise (fun x y=>lt y x=false):=FK h l [] .nil
end
theorem yn {α β:Type} {lt:β->β->Bool} (h:G6 lt) (key:α->β) {a b:List α} (hk: ∀x∈a,∀y∈a,key x=key y->x=y) (hp:a.Perm b)
  (ha:a.Pairwise (fun x y=>lt (key y) (key x)=false)) (hb:b.Pairwise (fun x y=>lt (key y) (key x)=false)):a=b:=
 List.Perm.eq_of_pairwise (le:=fun x y=>lt (key y) (key x)=false) (fun x y hx hy h1 h2=>hk x hx y (hp.mem_iff.2 hy) (h.q8 _ _ h2 h1)) ha hb hp
theorem FM {α β:Type} {lt:β->β->Bool} (key:α->β) (a:α): ∀l:List α,(nQ (fun x y=>lt (key x) (key y)) a l).map key=nQ lt (key a) (l.map key)
 | []=>rfl
 |b::r=>by
  simp only[nQ,zbl]
  split
  ·simp[FM key a r]
  ·simp
theorem QQ {α β:Type} {lt:β->β->Bool} (key:α->β) (o:List α) (a:α):(cJ (fun x y=>lt (key x) (key y)) o a).map key=cJ lt (o.map key) (key a):=by
 unfold cJ
 rw[List.map_reverse,FM,List.map_reverse]
theorem Bj {α β:Type} {lt:β->β->Bool} (key:α->β): ∀l o:List α,(l.foldl (cJ (fun x y=>lt (key x) (key y))) o).map key=(l.map key).foldl (cJ lt) (o.map key)
 | [],_=>rfl
 |a::r,o=>by
  simp only[za8,zbl]
  rw[Bj key r,QQ]
theorem tZ {α β:Type} {lt:β->β->Bool} (h:G6 lt) (key:α->β) (l:List α):(cc (fun x y=>lt (key x) (key y)) l).Pairwise (fun x y=>lt (key y) (key x)=false):=by
 have e:(cc (fun x y=>lt (key x) (key y)) l).map key=cc lt (l.map key):=Bj key l []
 have:=FL h (l.map key)
 rw[<-e,zcr] at this
 exact this
abbrev aA:au:=(0,0,0)
inductive Up (T:List Pl):au->List au->Prop
 |top {x:au} {p:Pl} (h:eb T x=some p) (h0:p.2.1=aA):Up T x [x]
 |step {x:au} {p q:Pl} {w:List au} (h:eb T x=some p) (h0:p.2.1≠aA) (hq:eb T p.2.1=some q) (hd:q.2.2.2=true) (hw:Up T p.2.1 w):Up T x (x::w)
section
variable {T:List Pl}
theorem jv {x:au} {p:Pl} (h:eb T x=some p):p∈T/\p.1=x:=by
 unfold eb at h
 exact⟨zcn h,by simpa using zc3 h⟩
theorem Up.one {x:au} {w:List au} (h:Up T x w): ∀{w'},Up T x w'->w=w':=by
 induction h with
 |top h h0=>
  intro w' h'
  cases h' with
  |top=>rfl
  |step h1 h2=>rw[h] at h1;cases h1;exact absurd h0 h2
 |step h h0 hq hd hw ih=>
  intro w' h'
  cases h' with
  |top h1 h2=>rw[h] at h1;cases h1;exact absurd h2 h0
  |step h1 h2 _ _ h5=>rw[h] at h1;cases h1;rw[ih h5]
theorem Up.hd {x:au} {w:List au} (h:Up T x w): ∃r,w=x::r:=by
 cases h with
 |top=>exact⟨_,rfl⟩
 |step=>exact⟨_,rfl⟩
theorem Up.at {x:au} {w:List au} (h:Up T x w): ∃p,eb T x=some p:=by
 cases h with
 |top h=>exact⟨_,h⟩
 |step h=>exact⟨_,h⟩
theorem Up.sub {x:au} {w:List au} (h:Up T x w): ∀u∈w,∃w',Up T u w'/\w'.length<=w.length/\ ∃v,w=v++w':=by
 induction h with
 |top h h0=>
  intro u hu
  simp at hu
  subst hu
  exact⟨_,.top h h0,by simp,[],rfl⟩
 | @step x p q w h h0 hq hd hw ih=>
  intro u hu
  rcases zav.1 hu with rfl |hu
  ·exact⟨_,.step h h0 hq hd hw,zaj _,[],rfl⟩
  ·obtain⟨w',h1,h2,v,h3⟩:=ih u hu
   exact⟨w',h1,by simp;omega,x::v,by rw[h3];rfl⟩
theorem Up.nodup {x:au} {w:List au} (h:Up T x w):w.Nodup:=by
 induction h with
 |top=>simp
 | @step x p q w h h0 hq hd hw ih=>
  refine za7.2 ⟨fun hx=> ?_,ih⟩
  obtain⟨w',h1,h2,_⟩:=hw.sub x hx
  have:=h1.one (.step h h0 hq hd hw)
  rw[this] at h2
  simp at h2
  omega
theorem Up.len {x:au} {w:List au} (h:Up T x w):w.length<=T.length:=by
 have:w⊆T.map (·.1):=fun u hu=>by
  obtain⟨w',h1,_⟩:=h.sub u hu
  obtain⟨p,hp⟩:=h1.at
  obtain⟨h2,h3⟩:=jv hp
  exact zaA.2 ⟨p,h2,h3⟩
 simpa using h.nodup.length_le_of_subset this
theorem QR: ∀(n:Nat) (x:au) (out l:List au),W3 T n x out=some l->(∀p,0<out.length->eb T x=some p->p.2.2.2=true)-> ∃w,l=out++w/\Up T x w
 |0,_,_,_,h,_=>by cases h
 |n+1,x,out,l,h,hd=>by
  unfold W3 at h
  cases hp:eb T x with
  |none=>rw[hp] at h;cases h
  |some p=>
   rw[hp] at h
   simp only at h
   split at h
   ·cases h
   ·split at h
    ·cases h
     exact⟨[x],rfl,.top hp (by assumption)⟩
    ·rename_i h0 h1
     cases hq:eb T p.2.1 with
     |none=>
      cases n with
      |zero=>cases h
      |succ n=>unfold W3 at h;rw[hq] at h;cases h
     |some q=>
      have qfK:q.2.2.2=true:=by
       cases n with
       |zero=>cases h
       |succ n=>
        unfold W3 at h
        rw[hq] at h
        simp only at h
        split at h
        ·cases h
        ·rename_i hh
         cases hqd:q.2.2.2 with
         |true=>rfl
         |false=>exact absurd ⟨by simp,hqd⟩ hh
      obtain⟨w,e,hw⟩:=QR n p.2.1 (out++[x]) l h fun p' _ Oc=>by rw[hq] at Oc;cases Oc;exact qfK
      exact⟨x::w,by rw[e];simp,.step hp h1 hq qfK hw⟩
theorem qcs {x:au} {w:List au} (h:Up T x w): ∀(n:Nat) (out:List au),w.length<=n->(∀p,0<out.length->eb T x=some p->p.2.2.2=true)->W3 T n x out=some (out++w):=by
 induction h with
 | @top x p h h0=>
  intro n out hn hd
  cases n with
  |zero=>simp at hn
  |succ n=>
   unfold W3
   simp only[h]
   rw[zam (fun hh=>by have:=hd p hh.1 h;rw[hh.2] at this;cases this),zao h0]
 | @step x p q w h h0 hq PS hw ih=>
  intro n out hn hd
  cases n with
  |zero=>simp at hn
  |succ n=>
   unfold W3
   simp only[h]
   rw[zam (fun hh=>by have:=hd p hh.1 h;rw[hh.2] at this;cases this),zam h0]
   rw[ih n (out++[x]) (by simp at hn;omega) fun p' _ Oc=>by rw[hq] at Oc;cases Oc;exact PS]
   simp
theorem IK {x:au} {w:List au}:wy T x=some w↔Up T x w:=by
 constructor
 ·intro h
  obtain⟨w',e,hw⟩:=QR _ _ _ _ h (fun _ h=>by simp at h)
  rw[e]
  exact hw
 ·intro h
  have:=qcs h (T.length+1) [] (by have:=h.len;omega) (fun _ h=>by simp at h)
  rw[zbh] at this
  exact this
def sQ (T:List Pl):Nat->au->Bool
 |0,_=>false
 |n+1,x=>match eb T x with
  |none=>false
  |some p=>if p.2.1=aA then true else match eb T p.2.1 with
   |none=>false
   |some q=>if q.2.2.2=false then false else sQ T n p.2.1
def lg (T:List Pl) (x:au):Bool:=sQ T (T.length+1) x
theorem FO: ∀(n:Nat) (x:au),sQ T n x=true-> ∃w,Up T x w
 |0,_,h=>by cases h
 |n+1,x,h=>by
  unfold sQ at h
  cases hp:eb T x with
  |none=>rw[hp] at h;cases h
  |some p=>
   rw[hp] at h
   simp only at h
   split at h
   ·exact⟨_,.top hp (by assumption)⟩
   ·rename_i h0
    cases hq:eb T p.2.1 with
    |none=>rw[hq] at h;cases h
    |some q=>
     rw[hq] at h
     simp only at h
     split at h
     ·cases h
     ·rename_i hd
      obtain⟨w,hw⟩:=FO n _ h
      exact⟨_,.step hp h0 hq (by simpa using hd) hw⟩
theorem QS {x:au} {w:List au} (h:Up T x w): ∀n,w.length<=n->sQ T n x=true:=by
 induction h with
 | @top x p h h0=>
  intro n hn
  cases n with
  |zero=>simp at hn
  |succ n=>unfold sQ;simp only[h];rw[zao h0]
 | @step x p q w h h0 hq hd hw ih=>
  intro n hn
  cases n with
  |zero=>simp at hn
  |succ n=>
   unfold sQ
   simp only[h,hq]
   rw[zam h0,zam (by rw[hd];simp)]
   exact ih n (by simp at hn;omega)
theorem yo {x:au}:lg T x=true↔ ∃w,Up T x w:=
 ⟨FO _ _,fun⟨_,h⟩=>QS h _ (by have:=h.len;omega)⟩
def lU (T:List Pl):Nat->au->au->Bool
 |0,_,_=>true
 |n+1,x,up=>if x=up then true else match eb T x with
  |none=>false
  |some p=>lU T n p.2.1 up
def within (T:List Pl) (x up:au):Bool:=lU T (T.length+1) x up
theorem IL {x:au} {w:List au} (h:Up T x w) {up:au} (hu:up≠aA) (h00:eb T aA=none): ∀n,w.length<n->lU T n x up=decide (up∈w):=by
 induction h with
 | @top x p h h0=>
  intro n hn
  match n,hn with
  |n+2,_=>
   unfold lU
   simp only[h]
   split
   ·rename_i e;simp[e]
   ·rename_i e
    unfold lU
    rw[h0,zam (fun h=>hu h.symm)]
    simp only[h00]
    simpa using fun h:up=x=>e h.symm
  |1,hn=>simp at hn
 | @step x p q w h h0 hq hd hw ih=>
  intro n hn
  cases n with
  |zero=>simp at hn
  |succ n=>
   unfold lU
   simp only[h]
   split
   ·rename_i e;simp[e]
   ·rename_i e
    rw[ih n (by simp at hn;omega)]
    have:up≠x:=fun h=>e h.symm
    simp[this]
def marked (T:List Pl) (live:List au) (z:au):Bool:=live.any fun x=>match wy T x with |some w=>w.contains z |none=>false
theorem rE {live:List au} {z:au}:marked T live z=true↔ ∃x∈live,∃w,Up T x w/\z∈w:=by
 unfold marked
 rw[zbx]
 constructor
 ·rintro⟨x,hx,h⟩
  cases hw:wy T x with
  |none=>rw[hw] at h;cases h
  |some w=>rw[hw] at h;exact⟨x,hx,w,IK.1 hw,by simpa using h⟩
 ·rintro⟨x,hx,w,hw,hz⟩
  exact⟨x,hx,by rw[IK.2 hw];simpa using hz⟩
def bb (T:List Pl) (live:List au):List Pl:=T.filter fun p=>marked T live p.1
theorem Bk {live:List au} {z:au} (h:marked T live z=true): ∃w,Up T z w/\ ∀u∈w,marked T live u=true:=by
 obtain⟨x,hx,w,hw,hz⟩:=rE.1 h
 obtain⟨w',h1,_,v,h3⟩:=hw.sub z hz
 exact⟨w',h1,fun u hu=>rE.2 ⟨x,hx,w,hw,by rw[h3];exact zbb _ hu⟩⟩
def mkF (S:List au):List au->List au
 | []=>S
 |u::r=>if u∈S then S else mkF (S++[u]) r
def UpC (T:List Pl) (S:List au):Prop:= ∀z∈S,∃w,Up T z w/\ ∀u∈w,u∈S
theorem W4 {x:au} {w:List au} (h:Up T x w): ∀{S:List au},(∀u∈w,u∈S-> ∀w',Up T u w'-> ∀z∈w',z∈S)-> ∀z,z∈mkF S w↔z∈S\/z∈w:=by
 induction h with
 | @top x p h h0=>
  intro S hC z
  unfold mkF
  split
  ·rename_i hx
   exact⟨.inl,fun h=>h.elim id fun hz=>by simp at hz;exact hz▸hx⟩
  ·simp[mkF]
 | @step x p q w h h0 hq hd hw ih=>
  intro S hC z
  unfold mkF
  split
  ·rename_i hx
   exact⟨.inl,fun hz=>hz.elim id fun hz=>hC x (by simp) hx _ (.step h h0 hq hd hw) z hz⟩
  ·rename_i hx
   have hn:=(Up.step h h0 hq hd hw).nodup
   have hxw:x∉w:=(za7.1 hn).1
   rw[ih (fun u hu hS w' Fj z hz=>by
    have hS':u∈S:=by
     rcases zaG.1 hS with h |h
     ·exact h
     ·simp at h;subst h;exact absurd hu hxw
    exact zbz _ (hC u (by simp[hu]) hS' w' Fj z hz))]
   simp[or_assoc]
theorem UpC.in {S:List au} (h:UpC T S) {z:au} (hz:z∈S) {w:List au} (hw:Up T z w): ∀u∈w,u∈S:=by
 obtain⟨w',h1,h2⟩:=h z hz
 rw[hw.one h1]
 exact h2
theorem UpC.mk {x:au} {w:List au} (h:Up T x w) {S:List au} (hS:UpC T S):UpC T (mkF S w)/\ ∀z,z∈mkF S w↔z∈S\/z∈w:=by
 have hm:=W4 h (S:=S) fun u _ hu w' Fj=>hS.in hu Fj
 refine⟨fun z hz=> ?_,hm⟩
 rcases(hm z).1 hz with hz |hz
 ·obtain⟨w',h1,h2⟩:=hS z hz
  exact⟨w',h1,fun u hu=>(hm u).2 (.inl (h2 u hu))⟩
 ·obtain⟨w',h1,_,v,h3⟩:=h.sub z hz
  exact⟨w',h1,fun u hu=>(hm u).2 (.inr (by rw[h3];exact zbb _ hu))⟩
def qfL (T:List Pl) (live:List au):List au:=(bb T live).map (·.1)
def Uq (T:List Pl):Prop:=(T.map (·.1)).Nodup
theorem KO (hu:Uq T) {p:Pl} (hp:p∈T):eb T p.1=some p:=by
 unfold eb
 unfold Uq at hu
 induction T with
 |nil=>cases hp
 |cons a r ih=>
  rw[zbl,za7] at hu
  rw[List.find?_cons]
  rcases zav.1 hp with rfl |hp
  ·simp
  ·have:(a.1==p.1)=false:=by
    simp only[zcL,ne_eq]
    exact fun e=>hu.1 (e▸za6 hp)
   rw[this]
   exact ih hu.2 hp
theorem FP (hu:Uq T) (live:List au):(qfL T live).Nodup:=
 List.Nodup.sublist (zce.map _) hu
end
abbrev az:=Int×Int
structure aW where
 kind:Int
 node:au
 parent:au
 name:List UInt8
 dir:Bool
 b9:List az
 after:au
 elem:au
 text:List UInt8
 elems:List au
structure aj where
 s:az
 n:Int
 deps:List Int
 b7:az
 ops:List aW
abbrev lG (a b:az):Bool:=rD a.1 a.2 b.1 b.2
abbrev IP (a:az):Bool:=tU a.1 a.2
abbrev rgX (x:au):Bool:=cp x.1 x.2.1 x.2.2
abbrev FQ (x:au):az:=(x.1,x.2.1)
def lh (n:Nat) (f:Nat->Bool):Bool:=(List.range n).all f
theorem FR {n:Nat} {f:Nat->Bool}:lh n f=true↔ ∀i,i<n->f i=true:=by simp[lh]
theorem C5 {n i:Nat} {f:Nat->Bool} (hi:i<n) (h:f i=false):lh n f=false:=by
 cases hh:lh n f with
 |false=>rfl
 |true=>rw[FR.1 hh i hi] at h;cases h
theorem ua {n:Nat} {f:Nat->Bool} (h: ∀i,i<n->f i=true):lh n f=true:=FR.2 h
def cU (s:az) (k:Int) (x:au):Bool:=rgX x&&(lG (FQ x) s ||FQ x==s&&decide (x.2.2<k))
def lH (s:az) (k:Int) (x:au):Bool:=x==aA ||cU s k x
def lI (s:az) (l:List az) (i:Nat):Bool:=IP (l.getD i (0,0))&& !lG s (l.getD i (0,0))&&(i==0 ||lG (l.getD (i-1) (0,0)) (l.getD i (0,0)))
def mN (s:az) (l:List az):Bool:=lh l.length (lI s l)&&decide (l.length<=200)
def Bl (s:az) (k:Int) (l:List au) (i:Nat):Bool:=cU s k (l.getD i aA)&&(i==0 ||mh (l.getD (i-1) aA) (l.getD i aA))
def sR (s:az) (k:Int) (l:List au):Bool:=lh l.length (Bl s k l)&&decide (1<=l.length/\l.length<=2000)
def jX (o:aW) (place dir b9 run elems:Bool):Bool:=
 (place ||o.parent==aA&&o.name==[])&&(dir || !o.dir)&&(b9 ||o.b9.length==0)&&(run ||o.after==aA&&o.elem==aA&&o.text==[])&&(elems ||o.elems.length==0)
def fq (o:aW):Bool:=jX o (o.kind==0 ||o.kind==1) (o.kind==0) (o.kind==2) (o.kind==3) (o.kind==4)
def z6 (s:List UInt8):Int:=Lib.runeCount ⟨⟨s⟩⟩
def mO (s:List UInt8):Bool:=Lib.validD s&&decide (1<=z6 s/\z6 s<=2000)
def kh (s:az) (k:Int) (o:aW):Option Int:=
 if fq o=false then none
 else if o.kind=0 then(if o.node=(s.1,s.2,k)/\lH s k o.parent=true/\dH o.name=true then some 1 else none)
 else if o.kind=1 then(if cU s k o.node=true/\lH s k o.parent=true/\dH o.name=true then some 0 else none)
 else if o.kind=2 then(if cU s k o.node=true/\mN s o.b9=true then some 0 else none)
 else if o.kind=3 then(if cU s k o.node=true/\lH s k o.after=true/\o.elem=(s.1,s.2,k)/\mO o.text=true then some (z6 o.text) else none)
 else if o.kind=4 then(if cU s k o.node=true/\sR s k o.elems=true then some 0 else none)
 else none
def iT (s:az):Int->List aW->Bool
 |_,[]=>true
 |k,o::r=>match kh s k o with |some n=>iT s (k+n) r |none=>false
def Vb (g:aj):Bool:=IP g.s&&decide (1<=g.n/\g.n<=1099511627776)&&db g.deps&&(eo g.deps g.s.2==g.n-1)
def cx (g:aj):Bool:=Vb g&&(if g.b7≠(0,0) then IP g.b7&&lG g.b7 g.s&&g.ops.length==0 else decide (1<=g.ops.length/\g.ops.length<=200)&&iT g.s 0 g.ops)
def QT:Nat->List UInt8->List (List UInt8)
 |0,_=>[]
 |n+1,s=>if s=[] then [] else s.take (Lib.decodeL s).2::QT n (s.drop (Lib.decodeL s).2)
def G7 (s:List UInt8):List (List UInt8):=QT s.length s
theorem wx {s:List UInt8} (h:s≠[]):1<=(Lib.decodeL s).2:=by
 refine Lib.decode_width_pos ⟨s.toArray⟩ 0 ?_
 exact zbM.2 h
theorem uc: ∀(n m:Nat) (s:List UInt8),s.length<=n->s.length<=m->QT n s=QT m s
 |0,0,_,_,_=>rfl
 |0,m+1,s,h,_=>by
  have:s=[]:=zax (by omega)
  subst this
  rfl
 |n+1,0,s,_,h=>by
  have:s=[]:=zax (by omega)
  subst this
  rfl
 |n+1,m+1,s,h1,h2=>by
  unfold QT
  split
  ·rfl
  ·rename_i dG
   have:=wx dG
   have hl:0<s.length:=zbM.2 dG
   rw[uc n m _ (by rw[zbc];omega) (by rw[zbc];omega)]
theorem W5:G7 []=[]:=rfl
theorem FT {s:List UInt8} (h:s≠[]):G7 s=s.take (Lib.decodeL s).2::G7 (s.drop (Lib.decodeL s).2):=by
 have hl:0<s.length:=zbM.2 h
 have:=wx h
 unfold G7
 rw[uc s.length ((s.length-1)+1) s (zaj _) (by omega)]
 show(if s=[] then [] else _)=_
 rw[zam h]
 rw[uc (s.length-1) (s.drop (Lib.decodeL s).2).length _ (by rw[zbc];omega) (zaj _)]
theorem W6 {s:List UInt8} (h:s≠[]):Lib.runeCount ⟨s.toArray⟩=1+Lib.runeCount ⟨(s.drop (Lib.decodeL s).2).toArray⟩:=by
 have hl:0<s.length:=zbM.2 h
 have hp:=wx h
 have hle:=Lib.decodeL_le s h
 have hs:(ByteArray.mk s.toArray).size=s.length:=rfl
 have e1:Lib.runeCount ⟨s.toArray⟩=Lib.runeCountFrom ⟨s.toArray⟩ ((s.length-1)+1) 0:=by
  unfold Lib.runeCount
  exact Lib.fuel_enough _ _ _ _ (by omega) (by omega)
 rw[e1]
 unfold Lib.runeCountFrom
 rw[zao (by rw[hs];exact hl)]
 have ex:(ByteArray.mk (s.drop (Lib.decodeL s).2).toArray)=(ByteArray.mk s.toArray).extract (Lib.decodeL s).2 (ByteArray.mk s.toArray).size:=by
  apply ByteArray.ext
  simp[ByteArray.data_extract,hs]
  rw[<-zbc,zak]
 have e2:Lib.runeCount ⟨(s.drop (Lib.decodeL s).2).toArray⟩=Lib.runeCountFrom ⟨s.toArray⟩ (s.length-(Lib.decodeL s).2) (Lib.decodeL s).2:=by
  unfold Lib.runeCount
  have hz:(ByteArray.mk (s.drop (Lib.decodeL s).2).toArray).size=s.length-(Lib.decodeL s).2:=by
   show(s.drop (Lib.decodeL s).2).toArray.size=_
   simp
  rw[hz,ex,Lib.tail_count]
  rfl
 rw[e2]
 show 1+Lib.runeCountFrom _ (s.length-1) (0+(Lib.decodeL s).2)=_
 rw[zaF]
 congr 1
 exact Lib.fuel_enough _ _ _ _ (by omega) (by omega)
theorem IQ: ∀(n:Nat) (s:List UInt8),s.length<=n->Lib.runeCount ⟨s.toArray⟩=(G7 s).length
 |0,s,h=>by
  have:s=[]:=zax (by omega)
  subst this
  rfl
 |n+1,s,h=>by
  by_cases hs:s=[]
  ·subst hs;rfl
  ·have:=wx hs
   have hl:0<s.length:=zbM.2 hs
   rw[W6 hs,FT hs,zap,IQ n _ (by rw[zbc];omega)]
   omega
theorem yp (s:List UInt8):z6 s=((G7 s).length:Nat):=by
 unfold z6
 rw[<-IQ s.length s (zaj _)]
theorem C6 (s:List UInt8):(G7 s).length<=s.length:=by
 rw[<-IQ s.length s (zaj _)]
 exact Lib.runeCount_le _
def qct:S->K (PX×S):=fun st post=> ∃s,st=rsH s []/\s.length<=2000000/\(Lib.validD s=false-> ∀o:List (List UInt8),post (.ret,⟨29,[(2,.sl 0 0 0),(3,iD 60),(4,.sl 1 0 o.length)],[(0,⟨0,none,.arr 9 false []⟩),(1,⟨0,none,.arr 9 false (o.map D.str)⟩)]⟩))/\(Lib.validD s=true-> ∀o:List (List UInt8),o=G7 s->post (.exit 0,⟨29,[(4,.sl 0 0 o.length)],[(0,⟨0,none,.arr 9 false (o.map D.str)⟩)]⟩))
def sS:bq:=fun ps R post=> ∃s,ps=[sD s]/\R=[]/\s.length<=2000000/\(Lib.validD s=false->post (.cV [.sl 0 0 0,iD 60],[(0,⟨0,none,.arr 9 false []⟩)]))/\(Lib.validD s=true-> ∀o:List (List UInt8),o=G7 s->post (.cV [.sl 0 0 o.length,iD 0],[(0,⟨0,none,.arr 9 false (o.map D.str)⟩)]))
def Bm:bq:=fun ps R post=> ∃s,ps=[sD s]/\R=[]/\s.length<=2000000/\(Lib.validD s=false->post (.cV [iD 0,iD 60],[]))/\(Lib.validD s=true-> ∀n,n=z6 s->post (.cV [iD n,iD 0],[]))
theorem qfM (s:List UInt8) (post:P×List (Nat×En)->Prop):(∃(iA:List UInt8),Z1R s=Z1R iA/\GZ iA/\Z1T iA post/\(QK iA-> ∀(o:List (List UInt8)),o=G7 iA->Z1W post o))=(aJ [] [(2,ae (aL 144 2) qct)] 144 [sD s] []) post:=by kernel_rfl
theorem qfN (s:List UInt8) (post:P×List (Nat×En)->Prop):(∃(iA:List UInt8),vb s=vb iA/\Zx/\GZ iA/\(QL iA->post (P.cV (P.d Z7::Z1o),[]))/\(QK iA-> ∀(o:List (List UInt8)),o=G7 iA->Z1X post o))=(aJ [(144,sS)] [] 142 [sD s] []) post:=by kernel_rfl
section
variable {X:XF}
theorem W7:LD X 144 2 (ae (aL 144 2) qct):=LD.par (H:=[(168,IF)]) (hk:=[]) (by kernel_rfl) (by kernel_rfl) (.cons WX .nil) .nil
 (A:=List UInt8) (B:=List UInt8×List (List UInt8)) (fun _ b=>rsH b.1 b.2)
 (fun a b=>a.length<=2000000/\b.1.length+b.2.length<=a.length/\Lib.validD b.1=Lib.validD a/\b.2++G7 b.1=G7 a)
 (fun _ b=>b.1.length)
 (fun a x=>(Lib.validD a=false/\ ∃o:List (List UInt8),x=(.ret,⟨29,[(2,.sl 0 0 0),(3,iD 60),(4,.sl 1 0 o.length)],[(0,⟨0,none,.arr 9 false []⟩),(1,⟨0,none,.arr 9 false (o.map D.str)⟩)]⟩))\/(Lib.validD a=true/\ ∃o:List (List UInt8),o=G7 a/\x=(.exit 0,⟨29,[(4,.sl 0 0 o.length)],[(0,⟨0,none,.arr 9 false (o.map D.str)⟩)]⟩)))
 (by
  rintro a ⟨s,o⟩ ⟨ha,hl,hv,hpc⟩
  dsimp only at*
  (rw[<-qfC];delta QJ Zg Z1Z rC KK Z1Q ZQ GZ Zx vb C0)
  refine bf (fun h=> ?_) fun h=> ?_
  ·have dG:s≠[]:=fun e=>by subst e;simp at h
   have kO:=Lib.validD_step s dG
   refine⟨s,rfl,rfl,⟨dG,by omega⟩,fun hb c n=> .inl ⟨?_,o,rfl⟩,fun hb c n hn h1 hle=> ?_⟩
   ·unfold IE at hb
    rw[<-hv,kO,zao hb]
   ·unfold IE at hb
    rw[zam hb] at kO
    refine bs (by omega) (ao (qfo (by simp;omega) (by simp;omega) _ (by simp)) (bs (by omega) ?_))
    refine⟨_,?_,(s.drop n.toNat,o++[s.take n.toNat]),?_,⟨ha,?_,?_,?_⟩,rfl⟩
    ·dsimp only
     rw[zbc];omega
    ·rw[zak,zai (l:=List.map D.str o) (by simp),zcm]
     simp only[rsH,zaB,zbl,List.map_nil,zan,zap,zat]
    ·dsimp only
     rw[zbc,zan];simp;omega
    ·dsimp only
     rw[<-hv,kO,hn]
     rfl
    ·dsimp only
     rw[<-hpc,FT dG,zaY,hn]
     rfl
  ·have:s=[]:=zax (by omega)
   subst this
   exact .inr ⟨hv.symm.trans Lib.validD_nil,o,by rw[<-hpc,W5,zbj],rfl⟩)
 (by
  rintro st post ⟨s,rfl,hs,h1,h2⟩
  refine⟨s,(s,[]),rfl,⟨hs,by simp,rfl,rfl⟩,?_⟩
  rintro x (⟨h3,o,rfl⟩| ⟨h3,o,h4,rfl⟩)
  ·exact h1 h3 o
  ·exact h2 h3 o h4)
theorem FU:FD X 144 sS:=FD.mk (H:=[]) (hk:=[(2,ae (aL 144 2) qct)]) (by kernel_rfl) .nil (.cons W7 .nil) (by
 intro ps R post hh
 obtain⟨s,rfl,rfl,hs,h1,h2⟩:=hh
 (rw[<-qfM];delta QJ Z7 qu Z1W QK Z1Q Z1o ZQ QL Z1T rC GZ Z1R)
 exact⟨s,rfl,hs,fun h o=>h1 h,fun h o=>h2 h o⟩)
theorem W8:FD X 142 Bm:=FD.mk (H:=[(144,sS)]) (hk:=[]) (by kernel_rfl) (.cons FU .nil) .nil (by
 intro ps R post hh
 obtain⟨s,rfl,rfl,hs,h1,h2⟩:=hh
 (rw[<-qfN];delta Z7 qu Z1X QK Z1o QL rC GZ Zx vb)
 refine⟨s,rfl,rfl,hs,fun h=>h1 h,fun h o ho=>h2 h _ ?_⟩
 rw[ho,yp])
theorem qcu:FD X 115 Bm:=FD.mk (H:=[(148,IB),(149,IC)]) (hk:=[]) (by kernel_rfl) (.cons WT (.cons WU .nil)) .nil (by
 intro ps R post hh
 obtain⟨s,rfl,rfl,hs,h1,h2⟩:=hh
 (rw[<-qfB];delta Z7 qu Z1o rC GZ Zx vb)
 refine⟨s,rfl,rfl,hs,ax (fun h=>h1 (by simpa using h)) fun h=>⟨s,rfl,rfl,hs,h2 (by simpa using h) _ rfl⟩⟩)
end
def ud {α:Type} (t:α->Bool) (l:List α):Int:=match l.findIdx? t with |some i=>(i:Int)|none=> -1
theorem FV {α:Type} {t:α->Bool} {l:List α} {i:Nat} (hi:i<l.length) (ht:t l[i]=true) (hb: ∀j (hj:j<i),t (l[j]'(by omega))=false):ud t l=(i:Int):=by
 unfold ud
 rw[zbJ.2 ⟨hi,ht,fun j hj=>by rw[hb j hj];simp⟩]
theorem KP {α:Type} {t:α->Bool} {l:List α} (h: ∀j (hj:j<l.length),t l[j]=false):ud t l= -1:=by
 unfold ud
 rw[zbW.2 fun x hx=>by obtain⟨j,hj,rfl⟩:=zaU hx;exact h j hj]
theorem yq {α:Type} (t:α->Bool) (l:List α):ud t l<0↔l.any t=false:=by
 unfold ud
 split
 ·rename_i i h
  obtain⟨hi,ht,_⟩:=zbJ.1 h
  constructor
  ·intro h;omega
  ·intro h2
   rw[zcs] at h2
   exact absurd ht (h2 _ (zas hi))
 ·rename_i h
  refine⟨fun _=> ?_,fun _=>by omega⟩
  rw[zcs]
  intro x hx
  have:=(zbW.1 h) x hx
  simp[this]
variable {X:XF}
theorem LD.idx {H:List (FuncId×bq)} {hk:List (Nat×(S->K (PX×S)))} {f id:Nat} {g:S->K (PX×S)} (hu:uniq PR f=true) (hc:b8 (qe f) (bx PR f id)=true) (hH:HD X H) (hl:Qt X f hk)
  {A B:Type} (hd:A->B->Int->S) (len:A->Nat) (Inv:A->Nat->B->Prop) (Out:A->PX×S->Prop)
  (hr: ∀a b (k:Int) post,0<=k->k<len a->k.toNat<len a->Inv a k.toNat b->(∀b',Inv a (k.toNat+1) b'->post (.normal,hd a b' (k+1)))->(∀x,x.1≠ .normal->Out a x->post x)->aD H hk f id (hd a b k) post)
  (hx: ∀a b (k:Int) post,k=len a->Inv a (len a) b->(∀x,x.1≠ .normal->Out a x->post x)->aD H hk f id (hd a b k) post)
  (hg: ∀s post,g s post-> ∃a b,s=hd a b 0/\Inv a 0 b/\ ∀x,Out a x->post x):LD X f id (ae (aL f id) g):=
 LD.par hu hc hH hl (A:=A) (B:=B×Int) (fun a b=>hd a b.1 b.2) (fun a b=>0<=b.2/\b.2.toNat<=len a/\Inv a b.2.toNat b.1) (fun a b=>(len a-b.2).toNat) Out
  (by
   rintro a ⟨b,k⟩ ⟨h1,h2,h3⟩
   dsimp only at*
   have br: ∀x:PX×S,x.1≠ .normal->Out a x->roundPost ((len a-k).toNat) (fun m s=> ∃b':B×Int,s=hd a b'.1 b'.2/\(0<=b'.2/\b'.2.toNat<=len a/\Inv a b'.2.toNat b'.1)/\m=(len a-b'.2).toNat) (Out a) x:=by
    rintro⟨e,s⟩ dG hx
    cases e with
    |normal=>exact absurd rfl dG
    |exit i=>exact hx
    |ret=>exact hx
   by_cases hk:k<len a
   ·refine hr a b k _ h1 hk (by omega) h3 (fun b' hb=> ?_) br
    exact⟨((len a:Int)-(k+1)).toNat,by omega,(b',k+1),rfl,⟨by show 0<=k+1;omega,by show(k+1).toNat<=len a;omega,by show Inv a (k+1).toNat b';rw[show(k+1).toNat=k.toNat+1 by omega];exact hb⟩,rfl⟩
   ·have e:k=len a:=by omega
    refine hx a b k _ e ?_ br
    have:k.toNat=len a:=by omega
    rwa [this] at h3)
  (by
   intro s post hp
   obtain⟨a,b,h1,h2,h3⟩:=hg s post hp
   exact⟨a,(b,0),h1,⟨zby _,by simp,h2⟩,h3⟩)
theorem LD.find {H:List (FuncId×bq)} {hk:List (Nat×(S->K (PX×S)))} {f id:Nat} {g:S->K (PX×S)} (hu:uniq PR f=true) (hc:b8 (qe f) (bx PR f id)=true) (hH:HD X H) (hl:Qt X f hk)
  {A α:Type} (hd:A->Int->S) (oB:A->List α) (t:A->Nat->α->Bool) (C:A->Prop) (rt:A->Int->PX×S) (ex:A->PX×S) (qh5: ∀a k,(rt a k).1≠ .normal) (qh6: ∀a,(ex a).1≠ .normal)
  (hr: ∀a (k:Int) post (dO:k.toNat<(oB a).length),C a->0<=k->k<(oB a).length->(t a k.toNat (oB a)[k.toNat]=true->post (rt a k))->(t a k.toNat (oB a)[k.toNat]=false->post (.normal,hd a (k+1)))->aD H hk f id (hd a k) post)
  (hx: ∀a (k:Int) post,C a->k=(oB a).length->post (ex a)->aD H hk f id (hd a k) post)
  (hg: ∀s post,g s post-> ∃a,s=hd a 0/\C a/\(∀(i:Int) (hi:i.toNat<(oB a).length),0<=i->t a i.toNat (oB a)[i.toNat]=true->(∀j (hj:j<i.toNat),t a j ((oB a)[j]'(by omega))=false)->post (rt a i))/\((∀j (hj:j<(oB a).length),t a j (oB a)[j]=false)->post (ex a))):LD X f id (ae (aL f id) g):=
 LD.idx hu hc hH hl (A:=A) (B:=Unit) (fun a _ k=>hd a k) (fun a=>(oB a).length) (fun a k _=>C a/\ ∀j (hj:j<(oB a).length),j<k->t a j (oB a)[j]=false)
  (fun a x=>(∃(i:Int) (hi:i.toNat<(oB a).length),0<=i/\t a i.toNat (oB a)[i.toNat]=true/\(∀j (hj:j<i.toNat),t a j ((oB a)[j]'(by omega))=false)/\x=rt a i)\/((∀j (hj:j<(oB a).length),t a j (oB a)[j]=false)/\x=ex a))
  (by
   intro a _ k post h0 hk dO ⟨hC,hI⟩ hn ho
   refine hr a k post dO hC h0 hk (fun ht=>ho _ (qh5 a k) (.inl ⟨k,dO,h0,ht,fun j hj=>hI j (by omega) hj,rfl⟩)) fun ht=>hn () ⟨hC,fun j hj hjk=> ?_⟩
   by_cases e:j=k.toNat
   ·subst e;exact ht
   ·exact hI j hj (by omega))
  (by
   intro a _ k post hk ⟨hC,hI⟩ ho
   exact hx a k post hC hk (ho _ (qh6 a) (.inr ⟨fun j hj=>hI j hj hj,rfl⟩)))
  (by
   intro s post hp
   obtain⟨a,h1,h2,h3,h4⟩:=hg s post hp
   refine⟨a,(),h1,⟨h2,fun j _ hj=>by omega⟩,?_⟩
   rintro x (⟨i,hi,g1,g2,g3,rfl⟩| ⟨g1,rfl⟩)
   ·exact h3 i hi g1 g2 g3
   ·exact h4 g1)
abbrev iE (n:Int):D:= .int .i64 n
def bh (s:az):D:= .agg [iE s.1,iE s.2]
def eH (o:aW):D:= .agg [iE o.kind,iE o.node.1,iE o.node.2.1,iE o.node.2.2,iE o.parent.1,iE o.parent.2.1,iE o.parent.2.2,.str o.name,.bool o.dir,.sl 2 (o.b9.map bh),
 iE o.after.1,iE o.after.2.1,iE o.after.2.2,iE o.elem.1,iE o.elem.2.1,iE o.elem.2.2,.str o.text,.sl 3 (o.elems.map bB)]
def aU (g:aj):D:= .agg [iE g.s.1,iE g.s.2,iE g.n,.sl 1 (aZ g.deps),iE g.b7.1,iE g.b7.2,.sl 18 (g.ops.map eH)]
abbrev bP (l:List aj):P:= .d (.sl 7 (l.map aU))
abbrev qcv (l:List aW):P:= .d (.sl 18 (l.map eH))
abbrev ki (l:List az):P:= .d (.sl 2 (l.map bh))
structure MT (a b:az) (c:Int):Prop where
 lt:c<0↔lG a b=true
 gt:c>0↔lG b a=true
structure KQ (a b:au) (c:Int):Prop where
 lt:c<0↔mh a b=true
 gt:c>0↔mh b a=true
def yr:bq:=fun ps R post=> ∃a b,ps=[.d (bh a),.d (bh b)]/\R=[]/\ ∀c,MT a b c->post (iD c,[])
def qf:bq:=fun ps R post=> ∃x y,ps=[.d (bB x),.d (bB y)]/\R=[]/\ ∀c,KQ x y c->post (iD c,[])
def vF:bq:=fun ps R post=> ∃s,ps=[.d (bh s)]/\R=[]/\ ∀b,b=IP s->post (lz b,[])
def MU:bq:=fun ps R post=> ∃x,ps=[.d (bB x)]/\R=[]/\ ∀b,b=rgX x->post (lz b,[])
def lV:bq:=fun ps R post=> ∃a b,ps=[.d (bh a),.d (bh b)]/\R=[]/\ ∀r,r=lG a b->post (lz r,[])
abbrev ckB (g:aj) (k:Int):Obj:= .box 149 [iD g.s.1,iD g.s.2,iD g.n,.d (.sl 1 (aZ g.deps)),iD g.b7.1,iD g.b7.2,qcv g.ops,iD k]
abbrev ve (g:aj) (k:Int):List (Nat×En):=[(0,⟨0,some 0,ckB g k⟩)]
theorem qfO (s:az) (post:P×List (Nat×En)->Prop):(bif decide (Prod.fst s>=(1:Int)) then bif decide (Prod.fst s<=Z1) then bif decide (Prod.snd s>=(1:Int)) then post (P.d (D.bool (decide (Prod.snd s<=(16:Int)))),[]) else Z4 post else Z4 post else Z4 post)=(aJ [] [] 82 [.d (bh s)] []) post:=by kernel_rfl
theorem qcw (s:az) (post:P×List (Nat×En)->Prop):(bif decide (Prod.fst s>=(1:Int)) then bif decide (Prod.fst s<=Z1) then bif decide (Prod.snd s>=(1:Int)) then post (P.d (D.bool (decide (Prod.snd s<=(16:Int)))),[]) else Z4 post else Z4 post else Z4 post)=(aJ [] [] 104 [.d (bh s)] []) post:=by kernel_rfl
def mZ (g:aj):P:=P.d (D.sl 18 (List.map eH (aj.ops g)))
def jg (g:aj):D:=D.int .i64 (Prod.snd (aj.b7 g))
def jh (g:aj):D:=D.int .i64 (Prod.fst (aj.b7 g))
def lW (g:aj):P:=P.d (D.sl 1 (aZ (aj.deps g)))
def oC (g:aj):P:=P.d (D.int .i64 (aj.n g))
def iB (g:aj):Int:=Prod.snd (aj.s g)
def gK (g:aj):D:=D.int .i64 (iB g)
def iU (g:aj):Int:=Prod.fst (aj.s g)
def gN (g:aj):D:=D.int .i64 (iU g)
def MV (g:aj) (k:Int):Obj:=Obj.box (149:TypeId) (P.d (gN g)::P.d (gK g)::oC g::lW g::P.d (jh g)::P.d (jg g)::mZ g::Zv k)
def qW (g:aj) (k:Int):List (Nat×En):=[(0,En.mk 0 (some 0) (MV g k))]
def IU (post:P×List (Nat×En)->Prop) (g:aj) (k:Int):Prop:=post (P.d Z3,qW g k)
def gP (x:au):Int:=Prod.snd (Prod.snd x)
def h9 (x:au):Int:=Prod.fst (Prod.snd x)
def Z2w (x:au) (g:aj):Bool:=Prod.fst x==iU g&&(h9 x==iB g&&true)
def kj (a:az):D:=D.int .i64 (Prod.snd a)
def km (a:az):D:=D.int .i64 (Prod.fst a)
def r1 (a:az):P:=P.d (D.agg [km a,kj a])
def oP (b:az):List P:=[r1 b]
def ze (a:az) (b:az):List P:=r1 a::oP b
def IV (g:aj):P:=P.d (D.agg [gN g,gK g])
def DW (g:aj):List P:=[IV g]
def gB (x:au):D:=D.int .i64 (h9 x)
def gC (x:au):D:=D.int .i64 (Prod.fst x)
def gO (x:au):D:=D.int .i64 (gP x)
def uf (x:au):P:=P.d (D.agg [gC x,gB x,gO x])
def iV (x:au):List P:=[uf x]
theorem W9 (g:aj) (k:Int) (x:au) (post:P×List (Nat×En)->Prop):(∃(aI:au),iV x=iV aI/\Zx/\ ∀(b:Bool),b=rgX aI->bif b then∃(a:az) (b:az),P.d (D.agg [gC x,gB x])::DW g=ze a b/\Zx/\ ∀(c:Int),MT a b c->bif U8 c then post (ZO,qW g k) else bif Z2w x g then post (P.d (D.bool (decide (gP x<k))),qW g k) else IU post g k else IU post g k)=(aJ [(147,MU),(66,yr)] [] 113 [.ref 0 0 0,.d (bB x)] (ve g k)) post:=by kernel_rfl
def rF:bq:=fun ps R post=> ∃g k x,ps=[.ref 0 0 0,.d (bB x)]/\R=ve g k/\ ∀b,b=cU g.s k x->post (lz b,ve g k)
def gh (b:Bool):P:=P.d (D.bool b)
def zf (b:Bool) (aO:aj) (bS:Int) (aI:au):Prop:=b=cU (aj.s aO) bS aI
def Bn (g:aj) (k:Int) (aO:aj) (bS:Int):Prop:=qW g k=qW aO bS
def bT:P:=P.ref 0 0 0
def Z2y (x:au):Bool:=Prod.fst x==(0:Int)&&(h9 x==(0:Int)&&true)&&(gP x==(0:Int)&&true)
theorem QU (g:aj) (k:Int) (x:au) (post:P×List (Nat×En)->Prop):(bif Z2y x then post (ZO,qW g k) else∃(aO:aj) (bS:Int) (aI:au),bT::iV x=bT::iV aI/\Bn g k aO bS/\ ∀(b:Bool),zf b aO bS aI->post (gh b,qW aO bS))=(aJ [(113,rF)] [] 111 [.ref 0 0 0,.d (bB x)] (ve g k)) post:=by kernel_rfl
def C7:bq:=fun ps R post=> ∃g k x,ps=[.ref 0 0 0,.d (bB x)]/\R=ve g k/\ ∀b,b=lH g.s k x->post (lz b,ve g k)
def plainO (o:aW):aW:=
 if o.kind=0 then⟨o.kind,o.node,o.parent,o.name,o.dir,[],aA,aA,[],[]⟩
 else if o.kind=1 then⟨o.kind,o.node,o.parent,o.name,false,[],aA,aA,[],[]⟩
 else if o.kind=2 then⟨o.kind,o.node,aA,[],false,o.b9,aA,aA,[],[]⟩
 else if o.kind=3 then⟨o.kind,o.node,aA,[],false,[],o.after,o.elem,o.text,[]⟩
 else if o.kind=4 then⟨o.kind,o.node,aA,[],false,[],aA,aA,[],o.elems⟩
 else⟨o.kind,o.node,aA,[],false,[],aA,aA,[],[]⟩
def C8:bq:=fun ps R post=> ∃o,ps=[.d (eH o)]/\R=[]/\ ∀p,p=plainO o->post (.d (eH p),[])
def QV (o:aW):List D:=[D.sl 3 (List.map bB (aW.elems o))]
def Z2N:List D:=[D.sl 3 []]
def vG (o:aW):Int:=Prod.snd (Prod.snd (aW.elem o))
def vH (o:aW):Int:=Prod.fst (Prod.snd (aW.elem o))
def vI (o:aW):Int:=Prod.fst (aW.elem o)
def zg (o:aW):Int:=Prod.snd (Prod.snd (aW.after o))
def z7 (o:aW):D:=D.int .i64 (zg o)
def zh (o:aW):Int:=Prod.fst (Prod.snd (aW.after o))
def z8 (o:aW):D:=D.int .i64 (zh o)
def Aa (o:aW):D:=D.int .i64 (Prod.fst (aW.after o))
def lj (o:aW):D:=D.sl 2 (List.map bh (aW.b9 o))
def Vc:List D:=Z7::Z7::Z7::Z7::Z7::Z7::zd::Z2N
def Oh:D:=D.sl 2 []
def Z2P:List D:=Z3::Oh::Vc
def zi (o:aW):Int:=Prod.snd (Prod.snd (aW.parent o))
def zj (o:aW):D:=D.int .i64 (zi o)
def zk (o:aW):Int:=Prod.fst (Prod.snd (aW.parent o))
def zl (o:aW):D:=D.int .i64 (zk o)
def zm (o:aW):D:=D.int .i64 (Prod.fst (aW.parent o))
def ug (o:aW):D:=D.int .i64 (Prod.snd (Prod.snd (aW.node o)))
def uh (o:aW):D:=D.int .i64 (Prod.fst (Prod.snd (aW.node o)))
def ui (o:aW):D:=D.int .i64 (Prod.fst (aW.node o))
def vJ (o:aW):D:=D.int .i64 (aW.kind o)
theorem QW (o:aW) (post:P×List (Nat×En)->Prop):(bif aW.kind o==(0:Int) then post (P.d (D.agg (vJ o::ui o::uh o::ug o::zm o::zl o::zj o::D.str (aW.name o)::D.bool (aW.dir o)::Oh::Vc)),[]) else bif aW.kind o==(1:Int) then post (P.d (D.agg (vJ o::ui o::uh o::ug o::zm o::zl o::zj o::D.str (aW.name o)::Z2P)),[]) else bif aW.kind o==(2:Int) then post (P.d (D.agg (vJ o::ui o::uh o::ug o::Z7::Z7::Z7::zd::Z3::lj o::Vc)),[]) else bif aW.kind o==(3:Int) then post (P.d (D.agg (vJ o::ui o::uh o::ug o::Z7::Z7::Z7::zd::Z3::Oh::Aa o::z8 o::z7 o::D.int .i64 (vI o)::D.int .i64 (vH o)::D.int .i64 (vG o)::D.str (aW.text o)::Z2N)),[]) else bif aW.kind o==(4:Int) then post (P.d (D.agg (vJ o::ui o::uh o::ug o::Z7::Z7::Z7::zd::Z3::Oh::Z7::Z7::Z7::Z7::Z7::Z7::zd::QV o)),[]) else post (P.d (D.agg (vJ o::ui o::uh o::ug o::Z7::Z7::Z7::zd::Z2P)),[]))=(aJ [] [] 145 [.d (eH o)] []) post:=by kernel_rfl
def Z32 (p:aW):Int:=(↑(List.length (List.map bB (aW.elems p))):Int)
def nb (p:aW):Int:=(↑(List.length (List.map bh (aW.b9 p))):Int)
def Ab (o:aW):D:=D.agg (vJ o::ui o::uh o::ug o::zm o::zl o::zj o::D.str (aW.name o)::D.bool (aW.dir o)::lj o::Aa o::z8 o::z7 o::D.int .i64 (vI o)::D.int .i64 (vH o)::D.int .i64 (vG o)::D.str (aW.text o)::QV o)
theorem qcx (o:aW) (post:P×List (Nat×En)->Prop):(∃(aP:aW),[P.d (Ab o)]=[P.d (Ab aP)]/\Zx/\ ∀(p:aW),p=plainO aP->bif Prod.fst (aW.parent p)==Prod.fst (aW.parent o)&&(zk p==zk o&&true)&&(zi p==zi o&&true) then bif aW.name p==aW.name o then bif aW.dir p==aW.dir o then bif Prod.fst (aW.after p)==Prod.fst (aW.after o)&&(zh p==zh o&&true)&&(zg p==zg o&&true) then bif vI p==vI o&&(vH p==vH o&&true)&&(vG p==vG o&&true) then bif aW.text p==aW.text o then bif nb p==nb o then post (P.d (D.bool (Z32 p==Z32 o)),[]) else Z4 post else Z4 post else Z4 post else Z4 post else Z4 post else Z4 post else Z4 post)=(aJ [(145,C8)] [] 109 [.d (eH o)] []) post:=by kernel_rfl
def IW:bq:=fun ps R post=> ∃o,ps=[.d (eH o)]/\R=[]/\ ∀b,b=fq o->post (lz b,[])
abbrev dtH (g:aj) (k:Int) (l:List az) (i:Int):S:=⟨45,[(0,.ref 0 0 0),(1,ki l),(7,ki l),(8,iD ((l.map bh).length:Int)),(9,iD i)],ve g k⟩
def eK (l:List az):List D:=List.map bh l
def uj (l:List az):P:=P.d (D.sl 2 (eK l))
def IX (l:List az):Nat×P:=(1,uj l)
def eW:Nat×P:=(0,bT)
def C9 (l:List az):Int:=(↑(List.length (eK l)):Int)
def Z3i (i:Int) (post:PX×S->Prop) (l:List az) (g:aj) (k:Int):Prop:=bif Zj i then post (PX.normal,S.mk 45 (eW::IX l::(7,uj l)::(8,P.d (D.int .i64 (C9 l)))::ZH i) (qW g k)) else False
def Xa (l:List az) (i:Int):List D:=[D.int .i64 (D.ah (D.aq (D.nth (eK l) (Zc i)) 0)),D.int .i64 (D.ah (D.aq (D.nth (eK l) (Zc i)) 1))]
noncomputable def Xb (l:List az) (i:Int):Bool:=cC PR (30:TypeId) (D.nth (eK l) (Zc i))
def Z3f (post:PX×S->Prop) (l:List az) (g:aj) (k:Int):Prop:=post (PX.ret,S.mk 45 (eW::IX l::Zi) (qW g k))
def jY (b:Bool):Bool:= !b
def IY (l:List az) (i:Int):Int:=D.ah (D.aq (D.nth (eK l) (Zg i)) 1)
def G8 (l:List az) (i:Int):Int:=D.ah (D.aq (D.nth (eK l) (Zg i)) 0)
def Ac (l:List az) (i:Int):List D:=[D.int .i64 (G8 l i),D.int .i64 (IY l i)]
noncomputable def vK (l:List az) (i:Int):Bool:=cC PR (30:TypeId) (D.nth (eK l) (Zg i))
def QX (i:Int) (l:List az):Bool:=decide ((0:Int)<=i/\i<C9 l)
def Xc (i:Int) (l:List az):Bool:=decide (i<C9 l)
theorem KR (g:aj) (k:Int) (l:List az) (i:Int) (post:PX×S->Prop):(bif Xc i l then bif QX i l then bif vK l i then∃(s:az),[P.d (D.agg (Ac l i))]=oP s/\Zx/\ ∀(b:Bool),b=IP s->bif jY b then Z3f post l g k else∃(a:az) (b:az),P.d (D.agg (Ac l i))::DW g=ze a b/\Zx/\ ∀(c:Int),MT a b c->bif Zr c then Z3f post l g k else bif Zr i then bif Zb i then bif decide ((0:Int)<=i-(1:Int)/\i-(1:Int)<C9 l) then bif Xb l i then∃(a:az) (b:az),[P.d (D.agg (Xa l i)),P.d (D.agg (Ac l i))]=ze a b/\Zx/\ ∀(c:Int),MT a b c->bif Z2 c then Z3f post l g k else Z3i i post l g k else False else False else False else Z3i i post l g k else False else False else post (PX.exit 0,S.mk 45 [eW,IX l] (qW g k)))=(aD [(82,vF),(66,yr)] [] 114 2 (dtH g k l i)) post:=by kernel_rfl
abbrev elH (g:aj) (k:Int) (l:List au) (i:Int):S:=⟨41,[(0,.ref 0 0 0),(1,cO l),(7,cO l),(8,iD ((l.map bB).length:Int)),(9,iD i)],ve g k⟩
def gq (l:List au):List D:=List.map bB l
def pL (l:List au):Nat:=List.length (gq l)
def vf (l:List au):Int:=(↑(pL l):Int)
def lJ (l:List au):P:=P.d (D.sl 3 (gq l))
def nc (l:List au):Nat×P:=(1,lJ l)
def Z3x (i:Int) (post:PX×S->Prop) (l:List au) (aO:aj) (bS:Int):Prop:=bif Zj i then post (PX.normal,S.mk 41 (eW::nc l::(7,lJ l)::(8,P.d (D.int .i64 (vf l)))::ZH i) (qW aO bS)) else False
def IZ (l:List au) (i:Int):Int:=D.ah (D.aq (D.nth (gq l) (Zg i)) 2)
def I0 (l:List au) (i:Int):Int:=D.ah (D.aq (D.nth (gq l) (Zg i)) 1)
def I1 (l:List au) (i:Int):Int:=D.ah (D.aq (D.nth (gq l) (Zg i)) 0)
def MW (l:List au) (i:Int):List D:=[D.int .i64 (I1 l i),D.int .i64 (I0 l i),D.int .i64 (IZ l i)]
def Vd (l:List au) (i:Int):List D:=[D.int .i64 (D.ah (D.aq (D.nth (gq l) (Zc i)) 0)),D.int .i64 (D.ah (D.aq (D.nth (gq l) (Zc i)) 1)),D.int .i64 (D.ah (D.aq (D.nth (gq l) (Zc i)) 2))]
def Z3w (l:List au) (i:Int) (x:au) (y:au):Prop:=[P.d (D.agg (Vd l i)),P.d (D.agg (MW l i))]=uf x::iV y
noncomputable def Oi (l:List au) (i:Int):Bool:=cC PR (50:TypeId) (D.nth (gq l) (Zc i))
noncomputable def wz (l:List au) (i:Int):Bool:=cC PR (50:TypeId) (D.nth (gq l) (Zg i))
def MX (i:Int) (l:List au):Bool:=decide ((0:Int)<=i/\i<vf l)
theorem FW (g:aj) (k:Int) (l:List au) (i:Int) (post:PX×S->Prop):(bif decide (i<vf l) then bif MX i l then bif wz l i then∃(aO:aj) (bS:Int) (x:au),[bT,P.d (D.agg (MW l i))]=bT::iV x/\Bn g k aO bS/\ ∀(b:Bool),zf b aO bS x->bif jY b then post (PX.ret,S.mk 41 (eW::nc l::Zi) (qW aO bS)) else bif Zr i then bif Zb i then bif decide ((0:Int)<=i-(1:Int)/\i-(1:Int)<vf l) then bif Oi l i then∃(x:au) (y:au),Z3w l i x y/\Zx/\ ∀(c:Int),KQ x y c->bif Z2 c then post (PX.ret,S.mk 41 (eW::nc l::Zi) (qW aO bS)) else Z3x i post l aO bS else False else False else False else Z3x i post l aO bS else False else False else post (PX.exit 0,S.mk 41 [eW,nc l] (qW g k)))=(aD [(113,rF),(150,qf)] [] 116 2 (elH g k l i)) post:=by kernel_rfl
theorem Da (a b:az):MT a b (pJ a.1 a.2 b.1 b.2) where
 lt:=by
  simp only[rD,pJ,KL,qv,zah]
  (repeat' split)<;>omega
 gt:=by
  simp only[rD,pJ,KL,qv,zah]
  (repeat' split)<;>omega
theorem FX (a b:au):KQ a b (yg a.1 a.2.1 a.2.2 b.1 b.2.1 b.2.2) where
 lt:=hZ a b
 gt:=by
  simp only[mh,yg,pJ,KL,qv,zah]
  (repeat' split)<;>omega
theorem jP (s:az):cC PR 30 (bh s)=true:=by kernel_rfl
theorem I2 (o:aW):cC PR 54 (eH o)=true:=by kernel_rfl
theorem ft (g:aj):cC PR 34 (aU g)=true:=by kernel_rfl
theorem MY (a b:az):(a.1==b.1&&(a.2==b.2&&true))=(a==b):=by
 obtain⟨x,y⟩:=a
 obtain⟨z,u⟩:=b
 rw[zaE]
 simp
theorem DX (a b:au):(a.1==b.1&&(a.2.1==b.2.1&&true)&&(a.2.2==b.2.2&&true))=(a==b):=by
 obtain⟨x,y,z⟩:=a
 obtain⟨u,v,w⟩:=b
 rw[zaE]
 simp[and_assoc]
theorem lnE (m n:Nat):((m:Int)==(n:Int))=(m==n):=by
 rw[zaE,zaS,zaS]
 omega
theorem QY (o:aW):fq o=((plainO o).parent==o.parent&&((plainO o).name==o.name&&((plainO o).dir==o.dir&&((plainO o).after==o.after&&((plainO o).elem==o.elem&&((plainO o).text==o.text&&((plainO o).b9.length==o.b9.length&&(plainO o).elems.length==o.elems.length))))))):=by
 have h0: ∀x:au,(aA==x)=(x==aA):=fun x=>by rw[zaE,zaS,zaS];exact eq_comm
 have h1: ∀s:List UInt8,(([]:List UInt8)==s)=(s==[]):=fun s=>by rw[zaE,zaS,zaS];exact eq_comm
 have h2:(false==o.dir)= !o.dir:=by cases o.dir<;>rfl
 have h3: ∀n:Nat,((0:Nat)==n)=(n==0):=fun n=>by rw[zaE,zaS,zaS];exact eq_comm
 unfold fq jX plainO
 by_cases e0:o.kind=0
 ·have g0:(o.kind==0)=true:=by simpa using e0
  have g1:(o.kind==1)=false:=by rw[e0];rfl
  have g2:(o.kind==2)=false:=by rw[e0];rfl
  have g3:(o.kind==3)=false:=by rw[e0];rfl
  have g4:(o.kind==4)=false:=by rw[e0];rfl
  rw[zao e0,g0,g1,g2,g3,g4]
  simp only[zbG,zat,h0,h1,h3,zb9,zaQ,zbt,zbo,zbT]
  rw[zaE]
  simp only[zab]
  constructor
  ·rintro⟨⟨a,⟨b,c⟩,d⟩,e⟩;exact⟨b,c,d,a,e⟩
  ·rintro⟨b,c,d,a,e⟩;exact⟨⟨a,⟨b,c⟩,d⟩,e⟩
 ·have f0:(o.kind==0)=false:=by simpa using e0
  by_cases e1:o.kind=1
  ·have g1:(o.kind==1)=true:=by simpa using e1
   have g2:(o.kind==2)=false:=by rw[e1];rfl
   have g3:(o.kind==3)=false:=by rw[e1];rfl
   have g4:(o.kind==4)=false:=by rw[e1];rfl
   rw[zam e0,zao e1,f0,g1,g2,g3,g4]
   simp only[zbG,zat,h0,h1,h2,h3,zb9,Bool.or_true,zaQ,zbo]
   rw[zaE]
   simp only[zab]
   constructor
   ·rintro⟨⟨⟨a,f⟩,⟨b,c⟩,d⟩,e⟩;exact⟨a,b,c,d,f,e⟩
   ·rintro⟨a,b,c,d,f,e⟩;exact⟨⟨⟨a,f⟩,⟨b,c⟩,d⟩,e⟩
  ·have f1:(o.kind==1)=false:=by simpa using e1
   by_cases e2:o.kind=2
   ·have g2:(o.kind==2)=true:=by simpa using e2
    have g3:(o.kind==3)=false:=by rw[e2];rfl
    have g4:(o.kind==4)=false:=by rw[e2];rfl
    rw[zam e0,zam e1,zao e2,f0,f1,g2,g3,g4]
    simp only[zbG,zat,h0,h1,h2,h3,zb9,zaQ,zbt,zbo,zbT]
    rw[zaE]
    simp only[zab]
    constructor
    ·rintro⟨⟨⟨⟨a,b⟩,c⟩,⟨d,e⟩,f⟩,g⟩;exact⟨a,b,c,d,e,f,g⟩
    ·rintro⟨a,b,c,d,e,f,g⟩;exact⟨⟨⟨⟨a,b⟩,c⟩,⟨d,e⟩,f⟩,g⟩
   ·have g2:(o.kind==2)=false:=by simpa using e2
    by_cases e3:o.kind=3
    ·have g3:(o.kind==3)=true:=by simpa using e3
     have g4:(o.kind==4)=false:=by rw[e3];rfl
     rw[zam e0,zam e1,zam e2,zao e3,f0,f1,g2,g3,g4]
     simp only[zbG,zat,h0,h1,h2,h3,zb9,zaQ,zbt,zbo,zbT]
     rw[zaE]
     simp only[zab]
     constructor
     ·rintro⟨⟨⟨⟨a,b⟩,c⟩,f⟩,g⟩;exact⟨a,b,c,f,g⟩
     ·rintro⟨a,b,c,f,g⟩;exact⟨⟨⟨⟨a,b⟩,c⟩,f⟩,g⟩
    ·have g3:(o.kind==3)=false:=by simpa using e3
     by_cases e4:o.kind=4
     ·have g4:(o.kind==4)=true:=by simpa using e4
      rw[zam e0,zam e1,zam e2,zam e3,zao e4,f0,f1,g2,g3,g4]
      simp only[zat,h0,h1,h2,h3,zbG,zb9,zbt,zbo,zbT]
      rw[zaE]
      simp only[zab]
      constructor
      ·rintro⟨⟨⟨⟨a,b⟩,c⟩,f⟩,⟨d,e⟩,g⟩;exact⟨a,b,c,d,e,g,f⟩
      ·rintro⟨a,b,c,d,e,g,f⟩;exact⟨⟨⟨⟨a,b⟩,c⟩,f⟩,⟨d,e⟩,g⟩
     ·have g4:(o.kind==4)=false:=by simpa using e4
      rw[zam e0,zam e1,zam e2,zam e3,zam e4,f0,f1,g2,g3,g4]
      simp only[zat,h0,h1,h2,h3,zbo,zbT]
      rw[zaE]
      simp only[zab]
      constructor
      ·rintro⟨⟨⟨⟨⟨a,b⟩,c⟩,f⟩,⟨d,e⟩,g⟩,h⟩;exact⟨a,b,c,d,e,g,f,h⟩
      ·rintro⟨a,b,c,d,e,g,f,h⟩;exact⟨⟨⟨⟨⟨a,b⟩,c⟩,f⟩,⟨d,e⟩,g⟩,h⟩
theorem yu {p:Prop} [Decidable p] {A B:Prop} (h1:p) (h2:A):cond (decide p) A B:=ju (zaR h1) h2
section
variable {X:XF}
theorem I3:FD X 66 yr:=qaJ.weaken fun ps R post h=>by
 obtain⟨a,b,rfl,rfl,hp⟩:=h
 exact⟨_,_,_,_,rfl,rfl,hp _ (Da a b)⟩
theorem QZ:FD X 150 qf:=W2.weaken fun ps R post h=>by
 obtain⟨a,b,rfl,rfl,hp⟩:=h
 exact⟨_,_,_,_,_,_,rfl,rfl,hp _ (FX a b)⟩
theorem MZ:FD X 88 qf:=mM.weaken fun ps R post h=>by
 obtain⟨a,b,rfl,rfl,hp⟩:=h
 exact⟨_,_,_,_,_,_,rfl,rfl,hp _ (FX a b)⟩
theorem uk:FD X 14 lV:=FJ.weaken fun ps R post h=>by
 obtain⟨a,b,rfl,rfl,hp⟩:=h
 exact⟨_,_,_,_,rfl,rfl,hp _ rfl⟩
theorem qfP:FD X 147 MU:=MK.weaken fun ps R post h=>by
 obtain⟨x,rfl,rfl,hp⟩:=h
 exact⟨_,_,_,rfl,rfl,hp _ rfl⟩
theorem qcy:FD X 151 MU:=rA.weaken fun ps R post h=>by
 obtain⟨x,rfl,rfl,hp⟩:=h
 exact⟨_,_,_,rfl,rfl,hp _ rfl⟩
theorem Q0:FD X 82 vF:=FD.mk (H:=[]) (by kernel_rfl) .nil .nil (by
 intro ps R post hh
 obtain⟨s,rfl,rfl,hp⟩:=hh
 (rw[<-qfO];delta Z3 Z4 Z1)
 refine bf (fun h1=>bf (fun h2=>bf (fun h3=>hp _ ?_) fun h3=>hp _ ?_) fun h2=>hp _ ?_) fun h1=>hp _ ?_
 all_goals (simp only[tU];rw[eq_comm];first | (rw[zbH];omega)| (rw[zaO];omega)))
theorem Q5:FD X 104 vF:=FD.mk (H:=[]) (by kernel_rfl) .nil .nil (by
 intro ps R post hh
 obtain⟨s,rfl,rfl,hp⟩:=hh
 (rw[<-qcw];delta Z3 Z4 Z1)
 refine bf (fun h1=>bf (fun h2=>bf (fun h3=>hp _ ?_) fun h3=>hp _ ?_) fun h2=>hp _ ?_) fun h1=>hp _ ?_
 all_goals (simp only[tU];rw[eq_comm];first | (rw[zbH];omega)| (rw[zaO];omega)))
theorem Db:FD X 113 rF:=FD.mk (H:=[(147,MU),(66,yr)]) (by kernel_rfl) (.cons qfP (.cons I3 .nil)) .nil (by
 intro ps R post hh
 obtain⟨g,k,x,rfl,rfl,hp⟩:=hh
 (rw[<-W9];delta Zt Zv mZ jg jh lW oC iB gK iU gN MV qW Z3 IU gP h9 Z2w ZO U8 kj km r1 oP ze IV DW gB gC Zx gO uf iV)
 refine⟨x,rfl,rfl,fun b hb=>ax (fun h1=>⟨FQ x,g.s,rfl,rfl,fun c hc=>bf (fun h2=>hp _ ?_) fun h2=>ax (fun h3=>hp _ ?_) fun h3=>hp _ ?_⟩) fun h1=>hp _ ?_⟩
 ·rw[cU,<-hb,h1,hc.lt.1 h2];rfl
 ·have e:FQ x=g.s:=by rw[MY (FQ x) g.s] at h3;simpa using h3
  have e2:lG (FQ x) g.s=false:=by rw[<-zaV,<-hc.lt];exact h2
  rw[cU,<-hb,h1,e2,e];simp
 ·have e:(FQ x==g.s)=false:=by rw[<-MY (FQ x) g.s];exact h3
  have e2:lG (FQ x) g.s=false:=by rw[<-zaV,<-hc.lt];exact h2
  rw[cU,<-hb,h1,e2,e];rfl
 ·rw[cU,<-hb,h1];rfl)
theorem Q6:FD X 111 C7:=FD.mk (H:=[(113,rF)]) (by kernel_rfl) (.cons Db .nil) .nil (by
 intro ps R post hh
 obtain⟨g,k,x,rfl,rfl,hp⟩:=hh
 (rw[<-QU];delta gh zf Zt Zv mZ jg jh lW oC iB gK iU gN MV qW Bn gP gO h9 gB gC uf iV bT ZO Z2y)
 refine ax (fun h1=>hp _ ?_) fun h1=>⟨g,k,x,rfl,rfl,fun b hb=>hp _ ?_⟩
 ·rw[lH,<-DX x aA,h1];rfl
 ·rw[lH,<-DX x aA,h1,hb];rfl)
theorem Q7:FD X 145 C8:=FD.mk (H:=[]) (by kernel_rfl) .nil .nil (by
 intro ps R post hh
 obtain⟨o,rfl,rfl,hp⟩:=hh
 (rw[<-QW];delta QV Z2N vG vH vI zg z7 zh z8 Aa lj Z3 zd Z7 Vc Oh Z2P zi zj zk zl zm ug uh ui vJ)
 refine hQ (fun h1=> ?_) fun h1=>hQ (fun h2=> ?_) fun h2=>hQ (fun h3=> ?_) fun h3=>hQ (fun h4=> ?_) fun h4=>hQ (fun h5=> ?_) fun h5=> ?_
 ·exact hp _ (by rw[plainO,zao h1])
 ·exact hp _ (by rw[plainO,zam h1,zao h2])
 ·exact hp _ (by rw[plainO,zam h1,zam h2,zao h3])
 ·exact hp _ (by rw[plainO,zam h1,zam h2,zam h3,zao h4])
 ·exact hp _ (by rw[plainO,zam h1,zam h2,zam h3,zam h4,zao h5])
 ·exact hp _ (by rw[plainO,zam h1,zam h2,zam h3,zam h4,zam h5]))
theorem Xd:FD X 109 IW:=FD.mk (H:=[(145,C8)]) (by kernel_rfl) (.cons Q7 .nil) .nil (by
 intro ps R post hh
 obtain⟨o,rfl,rfl,hp⟩:=hh
 (rw[<-qcx];delta Z3 Z4 Z32 nb vG vH vI zg zh zi zk Zx QV z7 z8 Aa lj zj zl zm ug uh ui vJ Ab)
 refine⟨o,rfl,rfl,fun p Xe=> ?_⟩
 have key:=QY o
 rw[<-Xe] at key
 rw[DX,DX,DX]
 simp only[zaa,lnE]
 refine ax (fun h1=>ax (fun h2=>ax (fun h3=>ax (fun h4=>ax (fun h5=>ax (fun h6=>ax (fun h7=>hp _ ?_) fun h7=>hp _ ?_) fun h6=>hp _ ?_) fun h5=>hp _ ?_) fun h4=>hp _ ?_) fun h3=>hp _ ?_) fun h2=>hp _ ?_) fun h1=>hp _ ?_
 all_goals (clear Xe;rw[key];simp only[*,zaQ,Bool.false_and]))
def Q8:S->K (PX×S):=fun st post=> ∃g k l,st=dtH g k l 0/\l.length<=9223372036854775807/\(lh l.length (lI g.s l)=false->post (.ret,⟨45,[(0,.ref 0 0 0),(1,ki l),(4,lz false)],ve g k⟩))/\(lh l.length (lI g.s l)=true->post (.exit 0,⟨45,[(0,.ref 0 0 0),(1,ki l)],ve g k⟩))
theorem dR {α:Type} {l:List α} {i:Nat} (h:i<l.length) (d:α):l.getD i d=l[i]:=by simp[zac,h]
theorem Q9:LD X 114 2 (ae (aL 114 2) Q8):=LD.find (H:=[(82,vF),(66,yr)]) (hk:=[]) (by kernel_rfl) (by kernel_rfl) (.cons Q0 (.cons I3 .nil)) .nil
 (A:=aj×Int×List az) (fun a k=>dtH a.1 a.2.1 a.2.2 k) (fun a=>a.2.2) (fun a j _=> !lI a.1.s a.2.2 j) (fun a=>a.2.2.length<=9223372036854775807)
 (fun a _=>(.ret,⟨45,[(0,.ref 0 0 0),(1,ki a.2.2),(4,lz false)],ve a.1 a.2.1⟩)) (fun a=>(.exit 0,⟨45,[(0,.ref 0 0 0),(1,ki a.2.2)],ve a.1 a.2.1⟩)) (fun _ _ h=>by cases h) (fun _ h=>by cases h)
 (by
  rintro⟨g,k,l⟩ i post hi hC h0 bN ht hn
  dsimp only at*
  (rw[<-KR];delta Zt Zv mZ jg jh lW oC iB gK iU gN MV qW eK uj IX bT eW Zn ZH C9 Za Z9 Zj Z3i Z2 Zc Xa Xb Zb Zr kj km r1 oP ze IV DW Z3 Zi Z3f jY Zx Zg IY G8 Ac vK QX Xc)
  have e1:D.nth (l.map bh) i.toNat=bh l[i.toNat]:=ay _ _ _ hi
  have d1:=dR hi ((0,0):az)
  rw[e1]
  simp only[dtH,zaa] at hn⊢
  refine yu bN (bs ⟨h0,bN⟩ (ao (jP _) ⟨l[i.toNat],rfl,rfl,fun b hb=>ax (fun h1=> ?_) fun h1=>⟨l[i.toNat],g.s,rfl,rfl,fun c hc=>bf (fun h2=> ?_) fun h2=>bf (fun h3=> ?_) fun h3=> ?_⟩⟩))
  ·refine ht ?_
   rw[lI,d1,<-hb,show b=false by simpa using h1];rfl
  ·refine ht ?_
   rw[lI,d1,hc.gt.1 h2];simp
  ·have e2:D.nth (l.map bh) (i-1).toNat=bh (l[(i-1).toNat]'(by omega)):=ay _ _ _ (by omega)
   have d2:=dR (show(i-1).toNat<l.length by omega) ((0,0):az)
   rw[e2]
   have e3:lG g.s l[i.toNat]=false:=by rw[<-zaV,<-hc.gt];exact h2
   refine bs (by omega) (bs ⟨by omega,by omega⟩ (ao (jP _) ⟨l[(i-1).toNat],l[i.toNat],rfl,rfl,fun c' qP=>bf (fun h4=>ht ?_) fun h4=>bs (by omega) (hn ?_)⟩))
   ·have e4:lG l[(i-1).toNat] l[i.toNat]=false:=by rw[<-zaV,<-qP.lt];omega
    rw[lI,d1,show i.toNat-1=(i-1).toNat by omega,d2,e4,show(i.toNat==0)=false by simp;omega];simp
   ·have e4:lG l[(i-1).toNat] l[i.toNat]=true:=by rw[<-qP.lt];omega
    rw[lI,d1,show i.toNat-1=(i-1).toNat by omega,d2,e3,e4,<-hb,show b=true by simpa using h1];simp
  ·have e3:lG g.s l[i.toNat]=false:=by rw[<-zaV,<-hc.gt];exact h2
   refine bs (by omega) (hn ?_)
   rw[lI,d1,e3,<-hb,show b=true by simpa using h1,show(i.toNat==0)=true by simp;omega];simp)
 (by
  rintro⟨g,k,l⟩ i post hC hi hp
  dsimp only at*
  (rw[<-KR];delta Zt Zv mZ jg jh lW oC iB gK iU gN MV qW eK uj IX bT eW Zn ZH C9 Za Z9 Zj Z3i Z2 Zc Xa Xb Zb Zr kj km r1 oP ze IV DW Z3 Zi Z3f jY Zx Zg IY G8 Ac vK QX Xc)
  simp only[zaa]
  exact bf (fun h=>by omega) fun h=>hp)
 (by
  rintro s post ⟨g,k,l,rfl,hl,h1,h2⟩
  refine⟨(g,k,l),rfl,hl,fun i hi h0 ht _=>h1 (C5 (i:=i.toNat) hi (by simpa using ht)),fun h=>h2 (ua fun i hi=>by simpa using h i hi)⟩)
def I4:S->K (PX×S):=fun st post=> ∃g k l,st=elH g k l 0/\l.length<=9223372036854775807/\(lh l.length (Bl g.s k l)=false->post (.ret,⟨41,[(0,.ref 0 0 0),(1,cO l),(4,lz false)],ve g k⟩))/\(lh l.length (Bl g.s k l)=true->post (.exit 0,⟨41,[(0,.ref 0 0 0),(1,cO l)],ve g k⟩))
theorem M0:LD X 116 2 (ae (aL 116 2) I4):=LD.find (H:=[(113,rF),(150,qf)]) (hk:=[]) (by kernel_rfl) (by kernel_rfl) (.cons Db (.cons QZ .nil)) .nil
 (A:=aj×Int×List au) (fun a k=>elH a.1 a.2.1 a.2.2 k) (fun a=>a.2.2) (fun a j _=> !Bl a.1.s a.2.1 a.2.2 j) (fun a=>a.2.2.length<=9223372036854775807)
 (fun a _=>(.ret,⟨41,[(0,.ref 0 0 0),(1,cO a.2.2),(4,lz false)],ve a.1 a.2.1⟩)) (fun a=>(.exit 0,⟨41,[(0,.ref 0 0 0),(1,cO a.2.2)],ve a.1 a.2.1⟩)) (fun _ _ h=>by cases h) (fun _ h=>by cases h)
 (by
  rintro⟨g,k,l⟩ i post hi hC h0 bN ht hn
  dsimp only at*
  (rw[<-FW];delta Zt Zv mZ jg jh lW oC iB gK iU gN MV qW Zn ZH gq pL vf lJ nc bT eW Za Z9 Zj Z3x Z2 Zx gP gO h9 gB gC uf iV Zg IZ I0 I1 MW Zc Vd Z3w Oi Zb Zr Z3 Zi jY zf Bn wz MX)
  have e1:D.nth (l.map bB) i.toNat=bB l[i.toNat]:=ay _ _ _ hi
  have d1:=dR hi aA
  rw[e1]
  simp only[elH,zaa] at hn⊢
  refine yu bN (bs ⟨h0,bN⟩ (ao (lF _) ⟨g,k,l[i.toNat],rfl,rfl,fun b hb=>ax (fun h1=> ?_) fun h1=>bf (fun h3=> ?_) fun h3=> ?_⟩))
  ·refine ht ?_
   rw[Bl,d1,<-hb,show b=false by simpa using h1];rfl
  ·have e2:D.nth (l.map bB) (i-1).toNat=bB (l[(i-1).toNat]'(by omega)):=ay _ _ _ (by omega)
   have d2:=dR (show(i-1).toNat<l.length by omega) aA
   rw[e2]
   refine bs (by omega) (bs ⟨by omega,by omega⟩ (ao (lF _) ⟨l[(i-1).toNat],l[i.toNat],rfl,rfl,fun c' qP=>bf (fun h4=>ht ?_) fun h4=>bs (by omega) (hn ?_)⟩))
   ·have e4:mh l[(i-1).toNat] l[i.toNat]=false:=by rw[<-zaV,<-qP.lt];omega
    rw[Bl,d1,show i.toNat-1=(i-1).toNat by omega,d2,e4,show(i.toNat==0)=false by simp;omega];simp
   ·have e4:mh l[(i-1).toNat] l[i.toNat]=true:=by rw[<-qP.lt];omega
    rw[Bl,d1,show i.toNat-1=(i-1).toNat by omega,d2,e4,<-hb,show b=true by simpa using h1];simp
  ·refine bs (by omega) (hn ?_)
   rw[Bl,d1,<-hb,show b=true by simpa using h1,show(i.toNat==0)=true by simp;omega];simp)
 (by
  rintro⟨g,k,l⟩ i post hC hi hp
  dsimp only at*
  (rw[<-FW];delta Zt Zv mZ jg jh lW oC iB gK iU gN MV qW Zn ZH gq pL vf lJ nc bT eW Za Z9 Zj Z3x Z2 Zx gP gO h9 gB gC uf iV Zg IZ I0 I1 MW Zc Vd Z3w Oi Zb Zr Z3 Zi jY zf Bn wz MX)
  simp only[zaa]
  exact bf (fun h=>by omega) fun h=>hp)
 (by
  rintro s post ⟨g,k,l,rfl,hl,h1,h2⟩
  refine⟨(g,k,l),rfl,hl,fun i hi h0 ht _=>h1 (C5 (i:=i.toNat) hi (by simpa using ht)),fun h=>h2 (ua fun i hi=>by simpa using h i hi)⟩)
end
def eu (ar:List az):Nat:=List.length ar
def Z3y:List (Nat×P):=[(9,P.d Z7)]
def Z3z (l:List az) (g:aj) (k:Int):S:=S.mk 45 (eW::IX l::(7,uj l)::(8,P.d (D.int .i64 (C9 l)))::Z3y) (qW g k)
theorem qcz (g:aj) (k:Int) (l:List az) (post:P×List (Nat×En)->Prop):(∃(aO:aj) (bS:Int) (ar:List az),Z3z l g k=Z3z ar aO bS/\eu ar<=Zy/\(lh (eu ar) (lI (aj.s aO) ar)=false->IU post aO bS)/\(lh (eu ar) (lI (aj.s aO) ar)=true->post (P.d (D.bool (decide (C9 ar<=(200:Int)))),qW aO bS)))=(aJ [] [(2,ae (aL 114 2) Q8)] 114 [.ref 0 0 0,ki l] (ve g k)) post:=by kernel_rfl
def ia (ar:List au):Nat:=List.length ar
def Z3B (l:List au) (g:aj) (k:Int):S:=S.mk 41 (eW::nc l::(7,lJ l)::(8,P.d (D.int .i64 (vf l)))::Z3y) (qW g k)
theorem Xf (g:aj) (k:Int) (l:List au) (post:P×List (Nat×En)->Prop):(∃(aO:aj) (bS:Int) (ar:List au),Z3B l g k=Z3B ar aO bS/\ia ar<=Zy/\(lh (ia ar) (Bl (aj.s aO) bS ar)=false->IU post aO bS)/\(lh (ia ar) (Bl (aj.s aO) bS ar)=true->bif decide (vf ar>=(1:Int)) then post (P.d (D.bool (decide (vf ar<=(2000:Int)))),qW aO bS) else IU post aO bS))=(aJ [] [(2,ae (aL 116 2) I4)] 116 [.ref 0 0 0,cO l] (ve g k)) post:=by kernel_rfl
def I5:bq:=fun ps R post=> ∃g k l,ps=[.ref 0 0 0,ki l]/\R=ve g k/\l.length<=9223372036854775807/\ ∀b,b=mN g.s l->post (lz b,ve g k)
def Dc:bq:=fun ps R post=> ∃g k l,ps=[.ref 0 0 0,cO l]/\R=ve g k/\l.length<=9223372036854775807/\ ∀b,b=sR g.s k l->post (lz b,ve g k)
def um:bq:=fun ps R post=> ∃s,ps=[sD s]/\R=[]/\ ∀b,b=dH s->post (lz b,[])
def Ra (o:aW):List P:=[P.d (D.sl 3 (List.map bB (aW.elems o)))]
def Z3N (g:aj) (k:Int) (n:Int):List (Nat×En):=[(0,En.mk 0 (some 0) (Obj.box (149:TypeId) [P.d (gN g),P.d (gK g),oC g,lW g,P.d (jh g),P.d (jg g),mZ g,P.d (D.int .i64 (k+n))]))]
def Z3M (k:Int) (n:Int):Bool:=decide (Z9<=k+n/\k+n<=Za)
def Z3O (k:Int) (n:Int) (post:P×List (Nat×En)->Prop) (g:aj):Prop:=bif Z3M k n then post (P.d Z3,Z3N g k n) else False
def Z3L (k:Int) (post:P×List (Nat×En)->Prop) (g:aj):Prop:=bif decide (Z9<=k+(0:Int)/\k+(0:Int)<=Za) then post (P.d Z3,[(0,En.mk 0 (some 0) (Obj.box (149:TypeId) [P.d (gN g),P.d (gK g),oC g,lW g,P.d (jh g),P.d (jg g),mZ g,P.d (D.int .i64 (k+(0:Int)))]))]) else False
def Z3K (o:aW) (g:aj) (k:Int):Bool:=vI o==iU g&&(vH o==iB g&&true)&&(vG o==k&&true)
def Z3J (o:aW):P:=P.d (D.agg [Aa o,z8 o,z7 o])
def Z3H (o:aW):P:=P.d (D.agg [ui o,uh o,ug o])
def Z3I (o:aW) (x:au):Prop:=[bT,Z3H o]=bT::iV x
def Z3G (aO:aj) (bS:Int):List (Nat×En):=[(0,En.mk 0 (some 0) (Obj.box (149:TypeId) [P.d (gN aO),P.d (gK aO),oC aO,lW aO,P.d (jh aO),P.d (jg aO),mZ aO,P.d (Zn bS)]))]
def Z3F (o:aW) (s:List UInt8):Prop:=[P.d (D.str (aW.name o))]=vb s
def Z3E (o:aW):P:=P.d (D.agg [zm o,zl o,zj o])
def Z3D (o:aW) (g:aj) (k:Int):Bool:=Prod.fst (aW.node o)==iU g&&(Prod.fst (Prod.snd (aW.node o))==iB g&&true)&&(Prod.snd (Prod.snd (aW.node o))==k&&true)
theorem qfQ (g:aj) (k:Int) (o:aW) (post:P×List (Nat×En)->Prop):(∃(aP:aW),[P.d (Ab o)]=[P.d (Ab aP)]/\Zx/\ ∀(b:Bool),b=fq aP->bif jY b then IU post g k else bif aW.kind o==(0:Int) then bif Z3D o g k then∃(aO:aj) (bS:Int) (x:au),[bT,Z3E o]=bT::iV x/\Bn g k aO bS/\ ∀(b:Bool),b=lH (aj.s aO) bS x->bif b then∃(s:List UInt8),Z3F o s/\Zx/\ ∀(b:Bool),b=dH s->bif Zj bS then post (gh b,Z3G aO bS) else False else bif Zj bS then post (P.d Z3,Z3G aO bS) else False else bif Zj k then post (P.d Z3,Z3G g k) else False else bif aW.kind o==(1:Int) then∃(aO:aj) (bS:Int) (x:au),Z3I o x/\Bn g k aO bS/\ ∀(b:Bool),zf b aO bS x->bif b then∃(g:aj) (k:Int) (x:au),[bT,Z3E o]=bT::iV x/\Bn aO bS g k/\ ∀(b:Bool),b=lH (aj.s g) k x->bif b then∃(s:List UInt8),Z3F o s/\Zx/\ ∀(b:Bool),b=dH s->post (gh b,qW g k) else IU post g k else IU post aO bS else bif aW.kind o==(2:Int) then∃(aO:aj) (bS:Int) (x:au),Z3I o x/\Bn g k aO bS/\ ∀(b:Bool),zf b aO bS x->bif b then∃(g:aj) (k:Int) (l:List az),[bT,P.d (lj o)]=[bT,uj l]/\Bn aO bS g k/\eu l<=Zy/\ ∀(b:Bool),b=mN (aj.s g) l->post (gh b,qW g k) else IU post aO bS else bif aW.kind o==(3:Int) then∃(s:List UInt8),[P.d (D.str (aW.text o))]=vb s/\Zx/\GZ s/\(QL s-> ∃(aO:aj) (bS:Int) (x:au),Z3I o x/\Bn g k aO bS/\ ∀(b:Bool),zf b aO bS x->bif b then∃(g:aj) (k:Int) (x:au),[bT,Z3J o]=bT::iV x/\Bn aO bS g k/\ ∀(b:Bool),b=lH (aj.s g) k x->bif b then bif Z3K o g k then Z3L k post g else Z3L k post g else Z3L k post g else Z3L bS post aO)/\(QK s-> ∀(n:Int),n=z6 s-> ∃(aO:aj) (bS:Int) (x:au),Z3I o x/\Bn g k aO bS/\ ∀(b:Bool),zf b aO bS x->bif b then∃(g:aj) (k:Int) (x:au),[bT,Z3J o]=bT::iV x/\Bn aO bS g k/\ ∀(b:Bool),b=lH (aj.s g) k x->bif b then bif Z3K o g k then bif Z0 n then bif Z3M k n then post (P.d (D.bool (decide (n<=(2000:Int)))),Z3N g k n) else False else Z3O k n post g else Z3O k n post g else Z3O k n post g else Z3O bS n post aO) else bif aW.kind o==(4:Int) then∃(aO:aj) (bS:Int) (x:au),Z3I o x/\Bn g k aO bS/\ ∀(b:Bool),zf b aO bS x->bif b then∃(g:aj) (k:Int) (l:List au),bT::Ra o=[bT,lJ l]/\Bn aO bS g k/\ia l<=Zy/\ ∀(b:Bool),b=sR (aj.s g) k l->post (gh b,qW g k) else IU post aO bS else IU post g k)=(aJ [(109,IW),(113,rF),(111,C7),(112,um),(114,I5),(116,Dc),(115,Bm)] [] 83 [.ref 0 0 0,.d (eH o)] (ve g k)) post:=by kernel_rfl
def SmO (o:aW):Prop:=o.text.length<=2000000/\o.b9.length<=9223372036854775807/\o.elems.length<=9223372036854775807
def kOk (k:Int):Prop:=0<=k/\k<=1000000000000
def qcA:bq:=fun ps R post=> ∃g k o,ps=[.ref 0 0 0,.d (eH o)]/\R=ve g k/\(SmO o/\kOk k)/\(kh g.s k o=none-> ∀k',post (lz false,ve g k'))/\(∀n k',kh g.s k o=some n->k'=k+n->post (lz true,ve g k'))
def Oj (g:aj):Prop:=(∀o∈g.ops,SmO o)/\g.ops.length<=9223372036854775807/\g.deps.length<=1000000
def Bo:bq:=fun ps R post=> ∃v,ps=[vD v]/\R=[]/\v.length<=1000000/\ ∀b,b=db v->post (lz b,[])
def FY:bq:=fun ps R post=> ∃v r,ps=[vD v,iD r]/\R=[]/\v.length<=1000000/\ ∀n,n=eo v r->post (iD n,[])
def Z3S (g:aj):Bool:=decide (Z9<=aj.n g-(1:Int)/\aj.n g-(1:Int)<=Za)
def Z3R (g:aj) (v:List Int) (r:Int):Prop:=[lW g,P.d (gK g)]=Zk v::Zv r
def G9 (v:List Int):Prop:=List.length v<=1000000
theorem Xg (g:aj) (post:P×List (Nat×En)->Prop):(∃(s:az),DW g=oP s/\Zx/\ ∀(b:Bool),b=IP s->bif b then bif decide (aj.n g>=(1:Int)) then bif decide (aj.n g<=Z1) then∃(v:List Int),[lW g]=ZW v/\Zx/\G9 v/\ ∀(b:Bool),b=db v->bif b then∃(v:List Int) (r:Int),Z3R g v r/\Zx/\G9 v/\ ∀(n:Int),n=eo v r->bif Z3S g then post (P.d (D.bool (n==aj.n g-(1:Int))),[]) else False else Z4 post else Z4 post else Z4 post else Z4 post)=(aJ [(82,vF),(108,Bo),(31,FY)] [] 81 [.d (aU g)] []) post:=by kernel_rfl
def I6:bq:=fun ps R post=> ∃g,ps=[.d (aU g)]/\R=[]/\Oj g/\ ∀b,b=Vb g->post (lz b,[])
abbrev qh7 (g:aj) (k:Int):List (Nat×En):=[(0,⟨0,none,ckB g k⟩)]
abbrev wcH (g:aj) (k i:Int):S:=⟨59,[(3,.ref 0 0 0),(48,qcv g.ops),(49,iD ((g.ops.map eH).length:Int)),(50,iD i)],qh7 g k⟩
def vg (g:aj):Int:=(↑(List.length (List.map eH (aj.ops g))):Int)
def dF:Nat×P:=(3,bT)
def Z45:List (Nat×P):=[(2,P.d (D.int .i64 (80:Int)))]
def jB (g:aj) (i:Int):D:=D.nth (List.map eH (aj.ops g)) (Zg i)
def Xh (g:aj) (i:Int):D:=D.int .i64 (D.ah (D.aq (jB g i) 6))
def Xi (g:aj) (i:Int):D:=D.int .i64 (D.ah (D.aq (jB g i) 5))
def Xj (g:aj) (i:Int):D:=D.int .i64 (D.ah (D.aq (jB g i) 4))
def Rb (g:aj) (i:Int):D:=D.int .i64 (D.ah (D.aq (jB g i) 3))
def Rc (g:aj) (i:Int):D:=D.int .i64 (D.ah (D.aq (jB g i) 2))
def Re (g:aj) (i:Int):D:=D.int .i64 (D.ah (D.aq (jB g i) 1))
def Z44 (g:aj) (i:Int):P:=P.d (D.agg [D.int .i64 (D.ah (D.aq (jB g i) 0)),Re g i,Rc g i,Rb g i,Xj g i,Xi g i,Xh g i,D.str (D.eI (D.aq (jB g i) 7)),D.bool (D.e7 (D.aq (jB g i) 8)),D.sl 2 (D.e8 (D.aq (jB g i) 9)),D.int .i64 (D.ah (D.aq (jB g i) 10)),D.int .i64 (D.ah (D.aq (jB g i) 11)),D.int .i64 (D.ah (D.aq (jB g i) 12)),D.int .i64 (D.ah (D.aq (jB g i) 13)),D.int .i64 (D.ah (D.aq (jB g i) 14)),D.int .i64 (D.ah (D.aq (jB g i) 15)),D.str (D.eI (D.aq (jB g i) 16)),D.sl 3 (D.e8 (D.aq (jB g i) 17))])
noncomputable def Ol (g:aj) (i:Int):Bool:=cC PR (54:TypeId) (jB g i)
def Om (i:Int) (g:aj):Bool:=decide ((0:Int)<=i/\i<vg g)
def Rf (i:Int) (g:aj):Bool:=decide (i<vg g)
theorem Rg (g:aj) (k i:Int) (post:PX×S->Prop):(bif Rf i g then bif Om i g then bif Ol g i then∃(aO:aj) (bS:Int) (o:aW),[bT,Z44 g i]=[bT,P.d (Ab o)]/\Bn g k aO bS/\(SmO o/\kOk bS)/\(kh (aj.s aO) bS o=none-> ∀(_:Int),post (PX.ret,S.mk 59 Z45 []))/\ ∀(n k':Int),kh (aj.s aO) bS o=some n->k'=bS+n->bif Zj i then post (PX.normal,S.mk 59 [dF,(48,mZ g),(49,P.d (D.int .i64 (vg g))),(50,P.d (Zn i))] [(0,En.mk 0 none (MV aO k'))]) else False else False else False else post (PX.exit 1,S.mk 59 [] []))=(aD [(83,qcA)] [] 51 11 (wcH g k i)) post:=by kernel_rfl
def qcB:S->K (PX×S):=fun st post=> ∃g,st=wcH g 0 0/\(Oj g/\g.ops.length<=200)/\(iT g.s 0 g.ops=false->post (.ret,⟨59,[(2,iD 80)],[]⟩))/\(iT g.s 0 g.ops=true->post (.exit 1,⟨59,[],[]⟩))
def Dd (post:P×List (Nat×En)->Prop):Prop:=post (P.d (D.int .i64 (80:Int)),[])
def Z4f (sT:aj):Prop:=List.length (aj.ops sT)<=200
def Z4g (sT:aj) (post:P×List (Nat×En)->Prop):Prop:=(Oj sT/\Z4f sT)/\(iT (aj.s sT) (0:Int) (aj.ops sT)=false->Dd post)/\(iT (aj.s sT) (0:Int) (aj.ops sT)=true->Z8 post)
def Z4e (g:aj):S:=S.mk 59 [dF,(48,mZ g),(49,P.d (D.int .i64 (vg g))),(50,P.d Z7)] [(0,En.mk 0 none (Obj.box (149:TypeId) (P.d (gN g)::P.d (gK g)::oC g::lW g::P.d (jh g)::P.d (jg g)::mZ g::qu)))]
def Z4d (g:aj):Bool:=decide (vg g>(0:Int))
def Z4c (g:aj) (a:az) (b:az):Prop:=P.d (D.agg [jh g,jg g])::DW g=ze a b
def Z4b (g:aj) (s:az):Prop:=[P.d (D.agg [jh g,jg g])]=oP s
def Z4a (g:aj):Bool:= !(Prod.fst (aj.b7 g)==(0:Int)&&(Prod.snd (aj.b7 g)==(0:Int)&&true))
def oQ (g:aj):P:=P.d (D.agg [gN g,gK g,D.int .i64 (aj.n g),D.sl 1 (aZ (aj.deps g)),jh g,jg g,D.sl 18 (List.map eH (aj.ops g))])
def I7 (g:aj):List P:=[oQ g]
theorem qfR (g:aj) (post:P×List (Nat×En)->Prop):(∃(aO:aj),I7 g=I7 aO/\Zx/\Oj aO/\ ∀(b:Bool),b=Vb aO->bif jY b then Dd post else bif Z4a g then∃(s:az),Z4b g s/\Zx/\ ∀(b:Bool),b=IP s->bif jY b then Dd post else∃(a:az) (b:az),Z4c g a b/\Zx/\ ∀(c:Int),MT a b c->bif Z2 c then Dd post else bif Z4d g then Dd post else Z8 post else bif decide (vg g<(1:Int)) then Dd post else bif decide (vg g>(200:Int)) then Dd post else∃(sT:aj),Z4e g=Z4e sT/\Z4g sT post)=(aJ [(81,I6),(82,vF),(66,yr)] [(11,ae (aL 51 11) qcB)] 51 [.d (aU g)] []) post:=by kernel_rfl
def FZ:bq:=fun ps R post=> ∃g,ps=[.d (aU g)]/\R=[]/\Oj g/\ ∀e,e=(if cx g=true then 0 else 80)->post (iD e,[])
section
variable {X:XF}
theorem Xk:FD X 114 I5:=FD.mk (H:=[]) (hk:=[(2,ae (aL 114 2) Q8)]) (by kernel_rfl) .nil (.cons Q9 .nil) (by
 intro ps R post hh
 obtain⟨g,k,l,rfl,rfl,hl,hp⟩:=hh
 (rw[<-qcz];delta Zt Zv mZ jg jh lW oC iB gK iU gN MV qW eK C9 Z3 IU Zy eu Z7 Z3y uj IX bT eW Z3z)
 refine⟨g,k,l,rfl,hl,fun h=>hp _ ?_,fun h=>hp _ ?_⟩
 ·rw[mN,h];rfl
 ·rw[mN,h,zaa,zaQ,zbH];omega)
theorem Rh:FD X 116 Dc:=FD.mk (H:=[]) (hk:=[(2,ae (aL 116 2) I4)]) (by kernel_rfl) .nil (.cons M0 .nil) (by
 intro ps R post hh
 obtain⟨g,k,l,rfl,rfl,hl,hp⟩:=hh
 (rw[<-Xf];delta Zt Zv mZ jg jh lW oC iB gK iU gN MV qW gq pL vf Z3 IU Zy ia Z7 Z3y lJ nc bT eW Z3B)
 simp only[zaa]
 refine⟨g,k,l,by simp only[],hl,fun h=>hp _ ?_,fun h=>bf (fun h2=>hp _ ?_) fun h2=>hp _ ?_⟩
 ·rw[sR,h];rfl
 ·rw[sR,h,zaQ,zbH];omega
 ·rw[sR,h,zaQ];exact(zaL (by omega)).symm)
theorem Xl:FD X 112 um:=qcl.weaken fun ps R post h=>by
 obtain⟨s,rfl,rfl,hp⟩:=h
 exact⟨s,rfl,rfl,hp _ rfl⟩
theorem Ri:FD X 138 um:=C1.weaken fun ps R post h=>by
 obtain⟨s,rfl,rfl,hp⟩:=h
 exact⟨s,rfl,rfl,hp _ rfl⟩
theorem qcC:FD X 108 Bo:=qfx.weaken fun ps R post h=>by
 obtain⟨s,rfl,rfl,hs,hp⟩:=h
 exact⟨s,rfl,rfl,hs,hp _ rfl⟩
theorem qcD:FD X 105 Bo:=qfy.weaken fun ps R post h=>by
 obtain⟨s,rfl,rfl,hs,hp⟩:=h
 exact⟨s,rfl,rfl,hs,hp _ rfl⟩
theorem qaM:FD X 31 FY:=qh1.weaken fun ps R post h=>by
 obtain⟨s,r,rfl,rfl,hs,hp⟩:=h
 exact⟨s,r,rfl,rfl,by omega,hp _ rfl⟩
theorem qcE:FD X 13 FY:=yc.weaken fun ps R post h=>by
 obtain⟨s,r,rfl,rfl,hs,hp⟩:=h
 exact⟨s,r,rfl,rfl,by omega,hp _ rfl⟩
theorem Xm:FD X 81 I6:=FD.mk (H:=[(82,vF),(108,Bo),(31,FY)]) (by kernel_rfl) (.cons Q0 (.cons qcC (.cons qaM .nil))) .nil (by
 intro ps R post hh
 obtain⟨g,rfl,rfl,hs,hp⟩:=hh
 (rw[<-Xg];delta Z3 Z4 Za Z9 Z3S Zt Zv Zk iB gK lW Z3R G9 ZW Z1 Zx kj km r1 oP iU gN IV DW)
 have key: ∀b,b=(IP g.s&&(decide (g.n>=1)&&(decide (g.n<=1099511627776)&&(db g.deps&&(eo g.deps g.s.2==g.n-1)))))->b=Vb g:=fun b hb=>by
  rw[hb,Vb]
  rw[zaE]
  simp only[zab,zah]
  constructor
  ·rintro⟨a,b,c,d,e⟩;exact⟨⟨⟨a,b,c⟩,d⟩,e⟩
  ·rintro⟨⟨⟨a,b,c⟩,d⟩,e⟩;exact⟨a,b,c,d,e⟩
 refine⟨g.s,rfl,rfl,fun b hb=>ax (fun h1=>bf (fun h2=>bf (fun h3=>⟨g.deps,rfl,rfl,hs.2.2,fun c hc=>ax (fun h4=>⟨g.deps,g.s.2,rfl,rfl,hs.2.2,fun n hn=>bs (by omega) (hp _ (key _ ?_))⟩) fun h4=>hp _ (key _ ?_)⟩) fun h3=>hp _ (key _ ?_)) fun h2=>hp _ (key _ ?_)) fun h1=>hp _ (key _ ?_)⟩
 ·rw[<-hb,h1,zaR h2,zaR h3,<-hc,h4,<-hn];rfl
 ·rw[<-hb,h1,zaR h2,zaR h3,<-hc,h4];rfl
 ·rw[<-hb,h1,zaR h2,zaL h3];rfl
 ·rw[<-hb,h1,zaL h2];rfl
 ·rw[<-hb,h1];rfl)
theorem Rj {s:az} {k n:Int} {o:aW} (h:kh s k o=some n) (ho:o.text.length<=2000000):0<=n/\n<=2000000:=by
 have h1:=yp o.text
 have h2:=C6 o.text
 unfold kh at h
 (repeat' split at h)<;>simp at h<;>omega
theorem qfS:FD X 83 qcA:=FD.mk (H:=[(109,IW),(113,rF),(111,C7),(112,um),(114,I5),(116,Dc),(115,Bm)]) (by kernel_rfl)
  (.cons Xd (.cons Db (.cons Q6 (.cons Xl (.cons Xk (.cons Rh (.cons qcu .nil))))))) .nil (by
 intro ps R post hh
 obtain⟨g,k,o,rfl,rfl,⟨hs,hk⟩,h1,h2⟩:=hh
 have fW:0<=k/\k<=1000000000000:=hk
 (rw[<-qfQ];delta ia gq lJ Ra mZ jg jh lW oC iB gK iU gN Z3N Z3 Za Z9 Z3M Z3O Z0 QK Z3L vG vH vI Z3K zg z7 zh z8 Aa Z3J QL rC GZ vb Zy eu eK uj lj Zt Zv MV qW zf gP gO h9 gB gC uf iV ug uh ui Z3H bT Z3I Zn Z3G gh Zj Z3F Bn zi zj zk zl zm Z3E Z3D IU jY Zx QV vJ Ab)
 refine⟨o,rfl,rfl,fun b hb=>ax (fun h0=>h1 ?_ k) fun h0=> ?_⟩
 ·have:fq o=false:=by rw[<-hb];simpa using h0
  rw[kh,zao this]
 have DY:fq o=true:=by rw[<-hb];simpa using h0
 have u:kh g.s k o=_:=kh.eq_1 g.s k o
 rw[zam (by rw[DY];simp)] at u
 refine hQ (fun e=> ?_) fun e0=>hQ (fun e=> ?_) fun e1=>hQ (fun e=> ?_) fun e2=>hQ (fun e=> ?_) fun e3=>hQ (fun e=> ?_) fun e4=>h1 ?_ k
 ·rw[zao e] at u
  rw[DX o.node (g.s.1,g.s.2,k)]
  refine ax (fun c1=>⟨g,k,o.parent,rfl,rfl,fun b2 cm=>ax (fun c2=>⟨o.name,rfl,rfl,fun b3 lA=>bs (by omega) ?_⟩) fun c2=>bs (by omega) (h1 ?_ _)⟩) fun c1=>bs (by omega) (h1 ?_ _)
  ·cases b3 with
   |true=>exact h2 1 _ (by rw[u,zao ⟨by simpa using c1,by rw[<-cm,c2],lA.symm⟩]) rfl
   |false=>exact h1 (by rw[u,zam (fun h=>by rw[h.2.2] at lA;cases lA)]) _
  ·rw[u,zam (fun h=>by rw[h.2.1] at cm;rw[cm] at c2;cases c2)]
  ·rw[u,zam (fun h=>by rw[h.1] at c1;simp at c1)]
 ·rw[zam e0,zao e] at u
  refine⟨g,k,o.node,rfl,rfl,fun b2 cm=>ax (fun c2=>⟨g,k,o.parent,rfl,rfl,fun b3 lA=>ax (fun c3=>⟨o.name,rfl,rfl,fun b4 hb4=> ?_⟩) fun c3=>h1 ?_ _⟩) fun c2=>h1 ?_ _⟩
  ·cases b4 with
   |true=>exact h2 0 k (by rw[u,zao ⟨by rw[<-cm,c2],by rw[<-lA,c3],hb4.symm⟩]) (by omega)
   |false=>exact h1 (by rw[u,zam (fun h=>by rw[h.2.2] at hb4;cases hb4)]) _
  ·rw[u,zam (fun h=>by rw[h.2.1] at lA;rw[lA] at c3;cases c3)]
  ·rw[u,zam (fun h=>by rw[h.1] at cm;rw[cm] at c2;cases c2)]
 ·rw[zam e0,zam e1,zao e] at u
  refine⟨g,k,o.node,rfl,rfl,fun b2 cm=>ax (fun c2=>⟨g,k,o.b9,rfl,rfl,hs.2.1,fun b3 lA=> ?_⟩) fun c2=>h1 ?_ _⟩
  ·cases b3 with
   |true=>exact h2 0 k (by rw[u,zao ⟨by rw[<-cm,c2],lA.symm⟩]) (by omega)
   |false=>exact h1 (by rw[u,zam (fun h=>by rw[h.2] at lA;cases lA)]) _
  ·rw[u,zam (fun h=>by rw[h.1] at cm;rw[cm] at c2;cases c2)]
 ·rw[zam e0,zam e1,zam e2,zao e] at u
  have bX: ∀n,n=z6 o.text->0<=n/\n<=2000000:=fun n hn=>by
   have g1:=yp o.text
   have g2:=C6 o.text
   have:=hs.1
   omega
  refine⟨o.text,rfl,rfl,hs.1,fun hv=> ?_,fun hv n hn=> ?_⟩
  ·have hr:mO o.text=false:=by rw[mO,hv];rfl
   have bZ:kh g.s k o=none:=by rw[u,zam (fun h=>by rw[h.2.2.2] at hr;cases hr)]
   refine⟨g,k,o.node,rfl,rfl,fun b2 cm=>ax (fun c2=>⟨g,k,o.after,rfl,rfl,fun b3 lA=>ax (fun c3=>ax (fun c4=>bs (by omega) (h1 bZ _)) fun c4=>bs (by omega) (h1 bZ _)) fun c3=>bs (by omega) (h1 bZ _)⟩) fun c2=>bs (by omega) (h1 bZ _)⟩
  ·have:=bX n hn
   have hr:mO o.text=decide (1<=n/\n<=2000):=by rw[mO,hv,zaQ,hn]
   refine⟨g,k,o.node,rfl,rfl,fun b2 cm=>ax (fun c2=>⟨g,k,o.after,rfl,rfl,fun b3 lA=>ax (fun c3=> ?_) fun c3=>bs (by omega) (h1 ?_ _)⟩) fun c2=>bs (by omega) (h1 ?_ _)⟩
   ·rw[DX o.elem (g.s.1,g.s.2,k)]
    refine ax (fun c4=>bf (fun c5=>bs (by omega) ?_) fun c5=>bs (by omega) (h1 ?_ _)) fun c4=>bs (by omega) (h1 ?_ _)
    ·by_cases c6:n<=2000
     ·rw[show decide (n<=2000)=true from zaR c6]
      exact h2 n _ (by rw[u,zao ⟨by rw[<-cm,c2],by rw[<-lA,c3],by simpa using c4,by rw[hr];exact zaR ⟨c5,c6⟩⟩,hn]) rfl
     ·rw[show decide (n<=2000)=false from zaL c6]
      exact h1 (by rw[u,zam (fun h=>by rw[hr] at h;exact c6 (zbD h.2.2.2).2)]) _
    ·rw[u,zam (fun h=>by rw[hr] at h;exact c5 (zbD h.2.2.2).1)]
    ·rw[u,zam (fun h=>by rw[h.2.2.1] at c4;simp at c4)]
   ·rw[u,zam (fun h=>by rw[h.2.1] at lA;rw[lA] at c3;cases c3)]
   ·rw[u,zam (fun h=>by rw[h.1] at cm;rw[cm] at c2;cases c2)]
 ·rw[zam e0,zam e1,zam e2,zam e3,zao e] at u
  refine⟨g,k,o.node,rfl,rfl,fun b2 cm=>ax (fun c2=>⟨g,k,o.elems,rfl,rfl,hs.2.2,fun b3 lA=> ?_⟩) fun c2=>h1 ?_ _⟩
  ·cases b3 with
   |true=>exact h2 0 k (by rw[u,zao ⟨by rw[<-cm,c2],lA.symm⟩]) (by omega)
   |false=>exact h1 (by rw[u,zam (fun h=>by rw[h.2] at lA;cases lA)]) _
  ·rw[u,zam (fun h=>by rw[h.1] at cm;rw[cm] at c2;cases c2)]
 ·rw[u,zam e0,zam e1,zam e2,zam e3,zam e4])
theorem Xn:LD X 51 11 (ae (aL 51 11) qcB):=LD.idx (H:=[(83,qcA)]) (hk:=[]) (by kernel_rfl) (by kernel_rfl) (.cons qfS .nil) .nil
 (A:=aj) (B:=Int) (fun g k i=>wcH g k i) (fun g=>g.ops.length) (fun g i k=>(Oj g/\g.ops.length<=200)/\(0<=k/\k<=2000000*i)/\iT g.s 0 g.ops=iT g.s k (g.ops.drop i))
 (fun g x=>(iT g.s 0 g.ops=false/\x=(.ret,⟨59,[(2,iD 80)],[]⟩))\/(iT g.s 0 g.ops=true/\x=(.exit 1,⟨59,[],[]⟩)))
 (by
  rintro g k i post h0 bN bg ⟨hs,hk,he⟩ hn ho
  (rw[<-Rg];delta Zt Zv mZ jg jh lW oC iB gK iU gN MV Zn vg bT dF Za Z9 Zj Z45 qW Bn QV vG vH vI zg z7 zh z8 Aa lj zi zj zk zl zm ug uh ui vJ Ab Zg jB Xh Xi Xj Rb Rc Re Z44 Ol Om Rf)
  have e1:D.nth (g.ops.map eH) i.toNat=eH g.ops[i.toNat]:=ay _ _ _ bg
  rw[e1]
  simp only[wcH,zaa] at hn⊢
  have hd:g.ops.drop i.toNat=g.ops[i.toNat]::g.ops.drop (i.toNat+1):=za2 bg
  have On:=hs.1.1 _ (zas bg)
  have GW:=hs.2
  rw[hd] at he
  generalize g.ops[i.toNat]=o at he On
  refine yu bN (bs ⟨h0,bN⟩ (ao (I2 _) ⟨g,k,o,rfl,rfl,⟨On,by unfold kOk;omega⟩,fun h k'=>ho _ (fun h=>by cases h) (.inl ⟨?_,rfl⟩),fun n k' h mr=>bs (by omega) (hn k' ⟨hs,?_,?_⟩)⟩))
  ·rw[he,iT,h]
  ·have:=Rj h On.1
   omega
  ·rw[he,iT,h,mr])
 (by
  rintro g k i post hi ⟨hs,hk,he⟩ ho
  (rw[<-Rg];delta Zt Zv mZ jg jh lW oC iB gK iU gN MV Zn vg bT dF Za Z9 Zj Z45 qW Bn QV vG vH vI zg z7 zh z8 Aa lj zi zj zk zl zm ug uh ui vJ Ab Zg jB Xh Xi Xj Rb Rc Re Z44 Ol Om Rf)
  simp only[zaa]
  refine bf (fun h=>by omega) fun h=>ho _ (fun h=>by cases h) (.inr ⟨?_,rfl⟩)
  rw[he,zc0]
  rfl)
 (by
  rintro s post ⟨g,rfl,hs,h1,h2⟩
  refine⟨g,0,rfl,⟨hs,by omega,rfl⟩,?_⟩
  rintro x (⟨h,rfl⟩| ⟨h,rfl⟩)
  ·exact h1 h
  ·exact h2 h)
theorem qaN:FD X 51 FZ:=FD.mk (H:=[(81,I6),(82,vF),(66,yr)]) (hk:=[(11,ae (aL 51 11) qcB)]) (by kernel_rfl) (.cons Xm (.cons Q0 (.cons I3 .nil))) (.cons Xn .nil) (by
 intro ps R post hh
 obtain⟨g,rfl,rfl,hs,hp⟩:=hh
 (rw[<-qfR];delta Z7 Z8 Dd Z4f Z4g qu jg jh lW oC iB gK iU gN vg mZ bT dF Z4e Z4d Z2 kj km r1 oP ze IV DW Z4c Z4b Z4a jY Zx oQ I7)
 have bZ:cx g=false->post (.d (.int .i64 80),[]):=fun h=>hp _ (by rw[h];rfl)
 have mX:cx g=true->post (.d (.int .i64 0),[]):=fun h=>hp _ (by rw[h];rfl)
 have u:=cx.eq_1 g
 refine⟨g,rfl,rfl,hs,fun b hb=>ax (fun c1=>bZ ?_) fun c1=> ?_⟩
 ·rw[u,<-hb,show b=false by simpa using c1];rfl
 rw[<-hb,show b=true by simpa using c1,zaQ] at u
 rw[MY g.b7 (0,0)]
 simp only[zaa]
 refine ax (fun c2=>⟨g.b7,rfl,rfl,fun b2 cm=>ax (fun c3=>bZ ?_) fun c3=>⟨g.b7,g.s,rfl,rfl,fun c hc=>bf (fun c4=>bZ ?_) fun c4=>bf (fun c5=>bZ ?_) fun c5=>mX ?_⟩⟩) fun c2=>bf (fun c3=>bZ ?_) fun c3=>bf (fun c4=>bZ ?_) fun c4=>⟨g,by simp only[],⟨hs,by omega⟩,fun h=>bZ ?_,fun h=>mX ?_⟩
 ·rw[zao (by simpa using c2),<-cm,show b2=false by simpa using c3] at u
  rw[u];rfl
 ·have e4:lG g.b7 g.s=false:=by rw[<-zaV,<-hc.lt];omega
  rw[zao (by simpa using c2),e4] at u
  rw[u];simp
 ·rw[zao (by simpa using c2)] at u
  rw[u,show(g.ops.length==0)=false by rw[zcL];omega];simp
 ·have e4:lG g.b7 g.s=true:=by rw[<-hc.lt];omega
  rw[zao (by simpa using c2),<-cm,show b2=true by simpa using c3,e4,show(g.ops.length==0)=true by rw[zaS];omega] at u
  rw[u];rfl
 ·rw[zam (by simpa using c2),zaL (by omega)] at u
  rw[u];rfl
 ·rw[zam (by simpa using c2),zaL (by omega)] at u
  rw[u];rfl
 ·rw[zam (by simpa using c2),h] at u
  rw[u];simp
 ·rw[zam (by simpa using c2),h,zaR (by omega)] at u
  rw[u];rfl)
end
abbrev gbB (g:aj):Obj:= .box 34 [iD g.s.1,iD g.s.2,iD g.n,.d (.sl 1 (aZ g.deps)),iD g.b7.1,iD g.b7.2,qcv g.ops]
abbrev gbR (g:aj):List (Nat×En):=[(0,⟨0,none,gbB g⟩)]
def nR:bq:=fun ps R post=> ∃g k x,ps=[.d (aU g),.d (bB x),iD k]/\R=[]/\ ∀b,b=cU g.s k x->post (lz b,[])
def Rk:bq:=fun ps R post=> ∃g k x,ps=[.d (aU g),.d (bB x),iD k]/\R=[]/\ ∀b,b=lH g.s k x->post (lz b,[])
def I8:bq:=fun ps R post=> ∃o a b c d e,ps=[.d (eH o),lz a,lz b,lz c,lz d,lz e]/\R=[]/\ ∀r,r=jX o a b c d e->post (lz r,[])
theorem Rl (g:aj) (k:Int) (x:au) (post:P×List (Nat×En)->Prop):(∃(aI:au),iV x=iV aI/\Zx/\ ∀(b:Bool),b=rgX aI->bif jY b then Z4 post else∃(a:az) (b:az),P.d (D.agg [gC x,gB x])::DW g=ze a b/\Zx/\ ∀(r:Bool),r=lG a b->bif r then ZP post else bif Z2w x g then post (P.d (D.bool (decide (gP x<k))),[]) else Z4 post)=(aJ [(151,MU),(14,lV)] [] 140 [.d (aU g),.d (bB x),iD k] []) post:=by kernel_rfl
def Oo (g:aj) (x:au) (k:Int):List P:=oQ g::uf x::Zv k
theorem qcF (g:aj) (k:Int) (x:au) (post:P×List (Nat×En)->Prop):(bif Z2y x then ZP post else∃(aO:aj) (bS:Int) (aI:au),Oo g x k=Oo aO aI bS/\Zx/\ ∀(b:Bool),zf b aO bS aI->post (gh b,[]))=(aJ [(140,nR)] [] 137 [.d (aU g),.d (bB x),iD k] []) post:=by kernel_rfl
def Z4i (d:Bool) (e:Bool) (post:P×List (Nat×En)->Prop) (o:aW):Prop:=bif d then bif e then ZP post else post (P.d (D.bool (Z32 o==(0:Int))),[]) else bif Prod.fst (aW.after o)==(0:Int)&&(zh o==(0:Int)&&true)&&(zg o==(0:Int)&&true) then bif vI o==(0:Int)&&(vH o==(0:Int)&&true)&&(vG o==(0:Int)&&true) then bif aW.text o==[] then bif e then ZP post else post (P.d (D.bool (Z32 o==(0:Int))),[]) else Z4 post else Z4 post else Z4 post
def Z4j (c:Bool) (o:aW) (post:P×List (Nat×En)->Prop) (d:Bool) (e:Bool):Prop:=bif jY c then bif decide (nb o>(0:Int)) then Z4 post else Z4i d e post o else Z4i d e post o
theorem Xo (o:aW) (a b c d e:Bool) (post:P×List (Nat×En)->Prop):(bif jY a then bif !(Prod.fst (aW.parent o)==(0:Int)&&(zk o==(0:Int)&&true)&&(zi o==(0:Int)&&true)) then Z4 post else bif !aW.name o==[] then Z4 post else bif jY b then bif aW.dir o then Z4 post else Z4j c o post d e else Z4j c o post d e else bif jY b then bif aW.dir o then Z4 post else Z4j c o post d e else Z4j c o post d e)=(aJ [] [] 139 [.d (eH o),lz a,lz b,lz c,lz d,lz e] []) post:=by kernel_rfl
abbrev qcG (g:aj) (l:List az) (i:Int):S:=⟨47,[(1,ki l),(2,.ref 0 0 0),(5,iD i)],gbR g⟩
def jC (g:aj):En:=En.mk 0 none (Obj.box (34:TypeId) [P.d (gN g),P.d (gK g),oC g,lW g,P.d (jh g),P.d (jg g),mZ g])
def vL (g:aj):List (Nat×En):=[(0,jC g)]
def I9:Nat×P:=(2,bT)
def Z4o (i:Int) (post:PX×S->Prop) (l:List az) (g:aj):Prop:=bif Zj i then post (PX.normal,S.mk 47 (IX l::I9::Zo i) (vL g)) else False
def Z4k (post:PX×S->Prop) (l:List az):Prop:=post (PX.ret,S.mk 47 (IX l::Zi) [])
theorem F4 (g:aj) (l:List az) (i:Int) (post:PX×S->Prop):(bif Xc i l then bif QX i l then bif vK l i then∃(s:az),[P.d (D.agg (Ac l i))]=oP s/\Zx/\ ∀(b:Bool),b=IP s->bif jY b then Z4k post l else bif QX i l then bif vK l i then∃(a:az) (b:az),[IV g,P.d (D.agg (Ac l i))]=ze a b/\Zx/\ ∀(r:Bool),r=lG a b->bif r then Z4k post l else bif Zr i then bif Zb i then bif decide ((0:Int)<=i-(1:Int)/\i-(1:Int)<C9 l) then bif Xb l i then bif QX i l then bif vK l i then∃(a:az) (b:az),[P.d (D.agg (Xa l i)),P.d (D.agg (Ac l i))]=ze a b/\Zx/\ ∀(r:Bool),r=lG a b->bif jY r then Z4k post l else Z4o i post l g else False else False else False else False else False else Z4o i post l g else False else False else False else False else post (PX.exit 0,S.mk 47 [IX l] []))=(aD [(104,vF),(14,lV)] [] 141 2 (qcG g l i)) post:=by kernel_rfl
abbrev qcH (g:aj) (k:Int) (l:List au) (i:Int):S:=⟨47,[(1,cO l),(2,iD k),(3,.ref 0 0 0),(7,iD i)],gbR g⟩
def Z4q (i:Int) (post:PX×S->Prop) (l:List au) (k:Int) (g:aj):Prop:=bif Zj i then post (PX.normal,S.mk 47 (nc l::ZG k::dF::ZL i) (vL g)) else False
def Z4p:List (Nat×P):=[(6,P.d Z3)]
theorem Bp (g:aj) (k:Int) (l:List au) (i:Int) (post:PX×S->Prop):(bif decide (i<vf l) then bif MX i l then bif wz l i then∃(aO:aj) (bS:Int) (x:au),oQ g::P.d (D.agg (MW l i))::Zv k=Oo aO x bS/\Zx/\ ∀(b:Bool),zf b aO bS x->bif jY b then post (PX.ret,S.mk 47 (nc l::Z4p) []) else bif Zr i then bif Zb i then bif decide ((0:Int)<=i-(1:Int)/\i-(1:Int)<vf l) then bif Oi l i then bif MX i l then bif wz l i then∃(x:au) (y:au),Z3w l i x y/\Zx/\ ∀(c:Int),KQ x y c->bif Z2 c then post (PX.ret,S.mk 47 (nc l::Z4p) []) else Z4q i post l k g else False else False else False else False else False else Z4q i post l k g else False else False else post (PX.exit 0,S.mk 47 [nc l] []))=(aD [(140,nR),(88,qf)] [] 143 2 (qcH g k l i)) post:=by kernel_rfl
section
variable {X:XF}
theorem yw:FD X 140 nR:=FD.mk (H:=[(151,MU),(14,lV)]) (by kernel_rfl) (.cons qcy (.cons uk .nil)) .nil (by
 intro ps R post hh
 obtain⟨g,k,x,rfl,rfl,hp⟩:=hh
 (rw[<-Rl];delta gP iB h9 iU Z2w ZO ZP kj km r1 oP ze gK gN IV DW gB gC Z3 Z4 jY Zx gO uf iV)
 refine⟨x,rfl,rfl,fun b hb=>ax (fun h1=>hp _ ?_) fun h1=>⟨FQ x,g.s,rfl,rfl,fun c hc=>ax (fun h2=>hp _ ?_) fun h2=>ax (fun h3=>hp _ ?_) fun h3=>hp _ ?_⟩⟩
 ·rw[cU,<-hb,show b=false by simpa using h1];rfl
 ·rw[cU,<-hb,show b=true by simpa using h1,<-hc,h2];rfl
 ·have e:(FQ x==g.s)=true:=by rw[<-MY (FQ x) g.s];exact h3
  rw[cU,<-hb,show b=true by simpa using h1,<-hc,h2,e];simp
 ·have e:(FQ x==g.s)=false:=by rw[<-MY (FQ x) g.s];exact h3
  rw[cU,<-hb,show b=true by simpa using h1,<-hc,h2,e];rfl)
theorem qcI:FD X 137 Rk:=FD.mk (H:=[(140,nR)]) (by kernel_rfl) (.cons yw .nil) .nil (by
 intro ps R post hh
 obtain⟨g,k,x,rfl,rfl,hp⟩:=hh
 (rw[<-qcF];delta gh zf Zx Zt Zv gP gO h9 gB gC uf jg jh iB gK iU gN oQ Oo ZO ZP Z2y)
 refine ax (fun h1=>hp _ ?_) fun h1=>⟨g,k,x,rfl,rfl,fun b hb=>hp _ ?_⟩
 ·rw[lH,<-DX x aA,h1];rfl
 ·rw[lH,<-DX x aA,h1,hb];rfl)
theorem Xp:FD X 139 I8:=FD.mk (H:=[]) (by kernel_rfl) .nil .nil (by
 intro ps R post hh
 obtain⟨o,a,b,c,d,e,rfl,rfl,hp⟩:=hh
 (rw[<-Xo];delta Z3 Z4 vG vH vI zg zh Z32 ZO ZP Z4i nb jY Z4j zi zk)
 rw[show(o.parent.1==0&&(o.parent.2.1==0&&true)&&(o.parent.2.2==0&&true))=(o.parent==aA) from DX o.parent aA,show(o.after.1==0&&(o.after.2.1==0&&true)&&(o.after.2.2==0&&true))=(o.after==aA) from DX o.after aA,
  show(o.elem.1==0&&(o.elem.2.1==0&&true)&&(o.elem.2.2==0&&true))=(o.elem==aA) from DX o.elem aA]
 have e1:decide (((o.b9.map bh).length:Int)>0)= !(o.b9.length==0):=by
  rw[zaa]
  cases o.b9 with
  |nil=>rfl
  |cons x t=>rw[zaR (by simp)];rfl
 have e2:(((o.elems.map bB).length:Int)==0)=(o.elems.length==0):=by rw[zaa];exact lnE _ 0
 rw[e1,e2]
 unfold jX at hp
 generalize (o.parent==aA)=P1 at*
 generalize (o.after==aA)=P2 at*
 generalize (o.elem==aA)=P3 at*
 generalize (o.b9.length==0)=P4 at*
 generalize (o.elems.length==0)=P5 at*
 generalize (o.name==[])=P6 at*
 generalize (o.text==[])=P7 at*
 generalize o.dir=P8 at*
 cases a<;>cases b<;>cases c<;>cases d<;>cases e
 all_goals (simp only[zc8,Bool.not_false,zbS,zbn,zb9,zbo,zaQ,zbt] at hp⊢)
 all_goals (repeat' (first | (refine ax (fun h=> ?_) (fun h=> ?_))))
 all_goals (refine hp _ ?_;simp_all))
def Ja:S->K (PX×S):=fun st post=> ∃g l,st=qcG g l 0/\l.length<=9223372036854775807/\(lh l.length (lI g.s l)=false->post (.ret,⟨47,[(1,ki l),(4,lz false)],[]⟩))/\(lh l.length (lI g.s l)=true->post (.exit 0,⟨47,[(1,ki l)],[]⟩))
theorem M1:LD X 141 2 (ae (aL 141 2) Ja):=LD.find (H:=[(104,vF),(14,lV)]) (hk:=[]) (by kernel_rfl) (by kernel_rfl) (.cons Q5 (.cons uk .nil)) .nil
 (A:=aj×List az) (fun a k=>qcG a.1 a.2 k) (fun a=>a.2) (fun a j _=> !lI a.1.s a.2 j) (fun a=>a.2.length<=9223372036854775807)
 (fun a _=>(.ret,⟨47,[(1,ki a.2),(4,lz false)],[]⟩)) (fun a=>(.exit 0,⟨47,[(1,ki a.2)],[]⟩)) (fun _ _ h=>by cases h) (fun _ h=>by cases h)
 (by
  rintro⟨g,l⟩ i post hi hC h0 bN ht hn
  dsimp only at*
  (rw[<-F4];delta eK uj IX mZ jg jh lW oC iB gK iU gN jC vL Zn Zo bT I9 Za Z9 Zj Z4o Zc Xa Xb C9 Zb Zr kj km r1 oP ze IV Z3 Zi Z4k jY Zx Zg IY G8 Ac vK QX Xc)
  have e1:D.nth (l.map bh) i.toNat=bh l[i.toNat]:=ay _ _ _ hi
  have d1:=dR hi ((0,0):az)
  rw[e1]
  simp only[zaa]
  refine yu bN (bs ⟨h0,bN⟩ (ao (jP _) ⟨l[i.toNat],rfl,rfl,fun b hb=>ax (fun h1=> ?_) fun h1=>bs ⟨h0,bN⟩ (ao (jP _) ⟨g.s,l[i.toNat],rfl,rfl,fun c hc=>ax (fun h2=> ?_) fun h2=>bf (fun h3=> ?_) fun h3=> ?_⟩)⟩))
  ·refine ht ?_
   rw[lI,d1,<-hb,show b=false by simpa using h1];rfl
  ·refine ht ?_
   rw[lI,d1,<-hc,h2];simp
  ·have e2:D.nth (l.map bh) (i-1).toNat=bh (l[(i-1).toNat]'(by omega)):=ay _ _ _ (by omega)
   have d2:=dR (show(i-1).toNat<l.length by omega) ((0,0):az)
   rw[e2]
   refine bs (by omega) (bs ⟨by omega,by omega⟩ (ao (jP _) (bs ⟨h0,bN⟩ (ao (jP _) ⟨l[(i-1).toNat],l[i.toNat],rfl,rfl,fun c' qP=>ax (fun h4=>ht ?_) fun h4=>bs (by omega) (hn ?_)⟩))))
   ·rw[lI,d1,show i.toNat-1=(i-1).toNat by omega,d2,<-qP,show c'=false by simpa using h4,show(i.toNat==0)=false by simp;omega];simp
   ·rw[lI,d1,show i.toNat-1=(i-1).toNat by omega,d2,<-hc,h2,<-qP,show c'=true by simpa using h4,<-hb,show b=true by simpa using h1];simp
  ·refine bs (by omega) (hn ?_)
   rw[lI,d1,<-hc,h2,<-hb,show b=true by simpa using h1,show(i.toNat==0)=true by simp;omega];simp)
 (by
  rintro⟨g,l⟩ i post hC hi hp
  dsimp only at*
  (rw[<-F4];delta eK uj IX mZ jg jh lW oC iB gK iU gN jC vL Zn Zo bT I9 Za Z9 Zj Z4o Zc Xa Xb C9 Zb Zr kj km r1 oP ze IV Z3 Zi Z4k jY Zx Zg IY G8 Ac vK QX Xc)
  simp only[zaa]
  exact bf (fun h=>by omega) fun h=>hp)
 (by
  rintro s post ⟨g,l,rfl,hl,h1,h2⟩
  refine⟨(g,l),rfl,hl,fun i hi h0 ht _=>h1 (C5 (i:=i.toNat) hi (by simpa using ht)),fun h=>h2 (ua fun i hi=>by simpa using h i hi)⟩)
def De:S->K (PX×S):=fun st post=> ∃g k l,st=qcH g k l 0/\l.length<=9223372036854775807/\(lh l.length (Bl g.s k l)=false->post (.ret,⟨47,[(1,cO l),(6,lz false)],[]⟩))/\(lh l.length (Bl g.s k l)=true->post (.exit 0,⟨47,[(1,cO l)],[]⟩))
theorem Jb:LD X 143 2 (ae (aL 143 2) De):=LD.find (H:=[(140,nR),(88,qf)]) (hk:=[]) (by kernel_rfl) (by kernel_rfl) (.cons yw (.cons MZ .nil)) .nil
 (A:=aj×Int×List au) (fun a k=>qcH a.1 a.2.1 a.2.2 k) (fun a=>a.2.2) (fun a j _=> !Bl a.1.s a.2.1 a.2.2 j) (fun a=>a.2.2.length<=9223372036854775807)
 (fun a _=>(.ret,⟨47,[(1,cO a.2.2),(6,lz false)],[]⟩)) (fun a=>(.exit 0,⟨47,[(1,cO a.2.2)],[]⟩)) (fun _ _ h=>by cases h) (fun _ h=>by cases h)
 (by
  rintro⟨g,k,l⟩ i post hi hC h0 bN ht hn
  dsimp only at*
  (rw[<-Bp];delta mZ jg jh lW oC iB gK iU gN jC vL Zn ZL bT dF Zt ZG gq lJ nc Za Z9 Zj Z4q Z2 gP gO h9 gB gC uf iV Zg IZ I0 I1 MW Zc Vd Z3w Oi Zb Zr Z3 Z4p jY zf Zx Zv oQ Oo wz pL vf MX)
  have e1:D.nth (l.map bB) i.toNat=bB l[i.toNat]:=ay _ _ _ hi
  have d1:=dR hi aA
  rw[e1]
  simp only[zaa]
  refine yu bN (bs ⟨h0,bN⟩ (ao (lF _) ⟨g,k,l[i.toNat],rfl,rfl,fun b hb=>ax (fun h1=> ?_) fun h1=>bf (fun h3=> ?_) fun h3=> ?_⟩))
  ·refine ht ?_
   rw[Bl,d1,<-hb,show b=false by simpa using h1];rfl
  ·have e2:D.nth (l.map bB) (i-1).toNat=bB (l[(i-1).toNat]'(by omega)):=ay _ _ _ (by omega)
   have d2:=dR (show(i-1).toNat<l.length by omega) aA
   rw[e2]
   refine bs (by omega) (bs ⟨by omega,by omega⟩ (ao (lF _) (bs ⟨h0,bN⟩ (ao (lF _) ⟨l[(i-1).toNat],l[i.toNat],rfl,rfl,fun c' qP=>bf (fun h4=>ht ?_) fun h4=>bs (by omega) (hn ?_)⟩))))
   ·have e4:mh l[(i-1).toNat] l[i.toNat]=false:=by rw[<-zaV,<-qP.lt];omega
    rw[Bl,d1,show i.toNat-1=(i-1).toNat by omega,d2,e4,show(i.toNat==0)=false by simp;omega];simp
   ·have e4:mh l[(i-1).toNat] l[i.toNat]=true:=by rw[<-qP.lt];omega
    rw[Bl,d1,show i.toNat-1=(i-1).toNat by omega,d2,e4,<-hb,show b=true by simpa using h1];simp
  ·refine bs (by omega) (hn ?_)
   rw[Bl,d1,<-hb,show b=true by simpa using h1,show(i.toNat==0)=true by simp;omega];simp)
 (by
  rintro⟨g,k,l⟩ i post hC hi hp
  dsimp only at*
  (rw[<-Bp];delta mZ jg jh lW oC iB gK iU gN jC vL Zn ZL bT dF Zt ZG gq lJ nc Za Z9 Zj Z4q Z2 gP gO h9 gB gC uf iV Zg IZ I0 I1 MW Zc Vd Z3w Oi Zb Zr Z3 Z4p jY zf Zx Zv oQ Oo wz pL vf MX)
  simp only[zaa]
  exact bf (fun h=>by omega) fun h=>hp)
 (by
  rintro s post ⟨g,k,l,rfl,hl,h1,h2⟩
  refine⟨(g,k,l),rfl,hl,fun i hi h0 ht _=>h1 (C5 (i:=i.toNat) hi (by simpa using ht)),fun h=>h2 (ua fun i hi=>by simpa using h i hi)⟩)
end
theorem Xq (g:aj) (l:List az) (post:P×List (Nat×En)->Prop):(∃(aO:aj) (ar:List az),S.mk 47 (IX l::I9::ZN) (vL g)=S.mk 47 (IX ar::I9::ZN) (vL aO)/\eu ar<=Zy/\(lh (eu ar) (lI (aj.s aO) ar)=false->Z4 post)/\(lh (eu ar) (lI (aj.s aO) ar)=true->post (P.d (D.bool (decide (C9 ar<=(200:Int)))),[])))=(aJ [] [(2,ae (aL 141 2) Ja)] 141 [.d (aU g),ki l] []) post:=by kernel_rfl
theorem Rm (g:aj) (k:Int) (l:List au) (post:P×List (Nat×En)->Prop):(∃(aO:aj) (bS:Int) (ar:List au),S.mk 47 (nc l::ZG k::dF::rB) (vL g)=S.mk 47 (nc ar::ZG bS::dF::rB) (vL aO)/\ia ar<=Zy/\(lh (ia ar) (Bl (aj.s aO) bS ar)=false->Z4 post)/\(lh (ia ar) (Bl (aj.s aO) bS ar)=true->bif decide (vf ar>=(1:Int)) then post (P.d (D.bool (decide (vf ar<=(2000:Int)))),[]) else Z4 post))=(aJ [] [(2,ae (aL 143 2) De)] 143 [.d (aU g),cO l,iD k] []) post:=by kernel_rfl
def Jc:bq:=fun ps R post=> ∃g l,ps=[.d (aU g),ki l]/\R=[]/\l.length<=9223372036854775807/\ ∀b,b=mN g.s l->post (lz b,[])
def Df:bq:=fun ps R post=> ∃g k l,ps=[.d (aU g),cO l,iD k]/\R=[]/\l.length<=9223372036854775807/\ ∀b,b=sR g.s k l->post (lz b,[])
def Z4s (g:aj) (o:aW) (k:Int) (aO:aj) (x:au) (bS:Int):Prop:=oQ g::Z3H o::Zv k=Oo aO x bS
def Z4r (aP:aW) (a:Bool) (b:Bool) (c:Bool) (d:Bool) (e:Bool):List P:=[P.d (Ab aP),gh a,gh b,gh c,gh d,gh e]
theorem qfT (g:aj) (k:Int) (o:aW) (post:P×List (Nat×En)->Prop):(bif aW.kind o==(0:Int) then bif Z3D o g k then∃(aO:aj) (bS:Int) (x:au),oQ g::Z3E o::Zv k=Oo aO x bS/\Zx/\ ∀(b:Bool),b=lH (aj.s aO) bS x->bif b then∃(s:List UInt8),Z3F o s/\Zx/\ ∀(b:Bool),b=dH s->bif b then∃(aP:aW) (a:Bool) (b:Bool) (c:Bool) (d:Bool) (e:Bool),P.d (Ab o)::ZO::ZO::P.d Z3::P.d Z3::Va=Z4r aP a b c d e/\Zx/\ ∀(r:Bool),r=jX aP a b c d e->bif r then Z22 post else oN post else oN post else oN post else oN post else bif aW.kind o==(1:Int) then∃(aO:aj) (bS:Int) (x:au),Z4s g o k aO x bS/\Zx/\ ∀(b:Bool),zf b aO bS x->bif b then∃(sT:aj) (Rn:Int) (x:au),oQ g::Z3E o::Zv k=Oo sT x Rn/\Zx/\ ∀(b:Bool),b=lH (aj.s sT) Rn x->bif b then∃(s:List UInt8),Z3F o s/\Zx/\ ∀(b:Bool),b=dH s->bif b then∃(aP:aW) (a:Bool) (b:Bool) (c:Bool) (d:Bool) (e:Bool),P.d (Ab o)::ZO::P.d Z3::P.d Z3::P.d Z3::Va=Z4r aP a b c d e/\Zx/\ ∀(r:Bool),r=jX aP a b c d e->bif r then Z8 post else oN post else oN post else oN post else oN post else bif aW.kind o==(2:Int) then∃(aO:aj) (bS:Int) (x:au),Z4s g o k aO x bS/\Zx/\ ∀(b:Bool),zf b aO bS x->bif b then∃(sT:aj) (l:List az),[oQ g,P.d (lj o)]=[oQ sT,uj l]/\Zx/\eu l<=Zy/\ ∀(b:Bool),b=mN (aj.s sT) l->bif b then∃(aP:aW) (a:Bool) (b:Bool) (c:Bool) (d:Bool) (e:Bool),P.d (Ab o)::P.d Z3::P.d Z3::ZO::P.d Z3::Va=Z4r aP a b c d e/\Zx/\ ∀(r:Bool),r=jX aP a b c d e->bif r then Z8 post else oN post else oN post else oN post else bif aW.kind o==(3:Int) then∃(s:List UInt8),[P.d (D.str (aW.text o))]=vb s/\Zx/\GZ s/\(QL s-> ∃(aO:aj) (bS:Int) (x:au),Z4s g o k aO x bS/\Zx/\ ∀(b:Bool),zf b aO bS x->bif b then∃(sT:aj) (Rn:Int) (x:au),oQ g::Z3J o::Zv k=Oo sT x Rn/\Zx/\ ∀(b:Bool),b=lH (aj.s sT) Rn x->bif b then bif Z3K o g k then oN post else oN post else oN post else oN post)/\(QK s-> ∀(n:Int),n=z6 s-> ∃(aO:aj) (bS:Int) (x:au),Z4s g o k aO x bS/\Zx/\ ∀(b:Bool),zf b aO bS x->bif b then∃(sT:aj) (Rn:Int) (x:au),oQ g::Z3J o::Zv k=Oo sT x Rn/\Zx/\ ∀(b:Bool),b=lH (aj.s sT) Rn x->bif b then bif Z3K o g k then bif Z0 n then bif decide (n<=(2000:Int)) then∃(aP:aW) (a:Bool) (b:Bool) (c:Bool) (d:Bool) (e:Bool),P.d (Ab o)::P.d Z3::P.d Z3::P.d Z3::ZO::Va=Z4r aP a b c d e/\Zx/\ ∀(r:Bool),r=jX aP a b c d e->bif r then post (P.d (Zt n),[]) else oN post else oN post else oN post else oN post else oN post else oN post) else bif aW.kind o==(4:Int) then∃(aO:aj) (bS:Int) (x:au),Z4s g o k aO x bS/\Zx/\ ∀(b:Bool),zf b aO bS x->bif b then∃(sT:aj) (Rn:Int) (l:List au),oQ g::P.d (D.sl 3 (List.map bB (aW.elems o)))::Zv k=oQ sT::lJ l::Zv Rn/\Zx/\ia l<=Zy/\ ∀(b:Bool),b=sR (aj.s sT) Rn l->bif b then∃(aP:aW) (a:Bool) (b:Bool) (c:Bool) (d:Bool) (e:Bool),P.d (Ab o)::P.d Z3::P.d Z3::P.d Z3::P.d Z3::Og=Z4r aP a b c d e/\Zx/\ ∀(r:Bool),r=jX aP a b c d e->bif r then Z8 post else oN post else oN post else oN post else oN post)=(aJ [(139,I8),(140,nR),(137,Rk),(138,um),(141,Jc),(143,Df),(142,Bm)] [] 106 [.d (aU g),.d (eH o),iD k] []) post:=by kernel_rfl
def qcJ:bq:=fun ps R post=> ∃g k o,ps=[.d (aU g),.d (eH o),iD k]/\R=[]/\SmO o/\(kh g.s k o=none->post (iD (-1),[]))/\(∀n,kh g.s k o=some n->post (iD n,[]))
abbrev qcK (g:aj) (k i:Int):S:=⟨90,[(1,.ref 0 0 0),(3,iD k),(4,iD i)],gbR g⟩
def vi (i:Int):List (Nat×P):=[(4,P.d (Zn i))]
theorem Ro (g:aj) (k i:Int) (post:PX×S->Prop):(bif Rf i g then bif Om i g then bif Ol g i then∃(aO:aj) (bS:Int) (o:aW),oQ g::Z44 g i::Zv k=oQ aO::P.d (Ab o)::Zv bS/\Zx/\SmO o/\(kh (aj.s aO) bS o=none->post (PX.ret,S.mk 90 Z45 []))/\ ∀(n:Int),kh (aj.s aO) bS o=some n->bif U8 n then post (PX.ret,S.mk 90 Z45 []) else bif Z3M k n then bif Zj i then post (PX.normal,S.mk 90 ((1,bT)::(3,P.d (D.int .i64 (k+n)))::vi i) (vL g)) else False else False else False else False else post (PX.exit 0,S.mk 90 [] []))=(aD [(106,qcJ)] [] 72 11 (qcK g k i)) post:=by kernel_rfl
def qcL:S->K (PX×S):=fun st post=> ∃g,st=qcK g 0 0/\(Oj g/\g.ops.length<=200)/\(iT g.s 0 g.ops=false->post (.ret,⟨90,[(2,iD 80)],[]⟩))/\(iT g.s 0 g.ops=true->post (.exit 0,⟨90,[],[]⟩))
def M3:List (Nat×P):=[(4,P.d Z7)]
def Z4v (g:aj):S:=S.mk 90 ((1,bT)::(3,P.d Z7)::M3) (vL g)
theorem qfU (g:aj) (post:P×List (Nat×En)->Prop):(∃(s:az),DW g=oP s/\Zx/\ ∀(b:Bool),b=IP s->bif jY b then Dd post else bif decide (aj.n g<(1:Int)) then Dd post else bif decide (aj.n g>Z1) then Dd post else∃(v:List Int),[lW g]=ZW v/\Zx/\G9 v/\ ∀(b:Bool),b=db v->bif jY b then Dd post else∃(v:List Int) (r:Int),Z3R g v r/\Zx/\G9 v/\ ∀(n:Int),n=eo v r->bif Z3S g then bif n !=aj.n g-(1:Int) then Dd post else bif Z4a g then∃(s:az),Z4b g s/\Zx/\ ∀(b:Bool),b=IP s->bif jY b then Dd post else∃(a:az) (b:az),Z4c g a b/\Zx/\ ∀(r:Bool),r=lG a b->bif jY r then Dd post else bif Z4d g then Dd post else Z8 post else bif decide (vg g<(1:Int)) then Dd post else bif decide (vg g>(200:Int)) then Dd post else∃(aO:aj),Z4v g=Z4v aO/\Z4g aO post else False)=(aJ [(104,vF),(105,Bo),(13,FY),(14,lV)] [(11,ae (aL 72 11) qcL)] 72 [.d (aU g)] []) post:=by kernel_rfl
section
variable {X:XF}
theorem Xr:FD X 141 Jc:=FD.mk (H:=[]) (hk:=[(2,ae (aL 141 2) Ja)]) (by kernel_rfl) .nil (.cons M1 .nil) (by
 intro ps R post hh
 obtain⟨g,l,rfl,rfl,hl,hp⟩:=hh
 (rw[<-Xq];delta eK C9 Z3 Z4 Zy eu mZ jg jh lW oC iB gK iU gN jC vL Z7 ZN bT I9 uj IX)
 refine⟨g,l,rfl,hl,fun h=>hp _ ?_,fun h=>hp _ ?_⟩
 ·rw[mN,h];rfl
 ·rw[mN,h,zaa,zaQ,zbH];omega)
theorem Rp:FD X 143 Df:=FD.mk (H:=[]) (hk:=[(2,ae (aL 143 2) De)]) (by kernel_rfl) .nil (.cons Jb .nil) (by
 intro ps R post hh
 obtain⟨g,k,l,rfl,rfl,hl,hp⟩:=hh
 (rw[<-Rm];delta gq pL vf Z3 Z4 Zy ia mZ jg jh lW oC iB gK iU gN jC vL Z7 rB bT dF Zt ZG lJ nc)
 simp only[zaa]
 refine⟨g,k,l,rfl,hl,fun h=>hp _ ?_,fun h=>bf (fun h2=>hp _ ?_) fun h2=>hp _ ?_⟩
 ·rw[sR,h];rfl
 ·rw[sR,h,zaQ,zbH];omega
 ·rw[sR,h,zaQ];exact(zaL (by omega)).symm)
theorem Rq {s:az} {k n:Int} {o:aW} (h:kh s k o=some n):fq o=true:=by
 unfold kh at h
 split at h
 ·cases h
 ·rename_i hb;simpa using hb
theorem qfV:FD X 106 qcJ:=FD.mk (H:=[(139,I8),(140,nR),(137,Rk),(138,um),(141,Jc),(143,Df),(142,Bm)]) (by kernel_rfl)
  (.cons Xp (.cons yw (.cons qcI (.cons Ri (.cons Xr (.cons Rp (.cons W8 .nil))))))) .nil (by
 intro ps R post hh
 obtain⟨g,k,o,rfl,rfl,hs,h1,h2⟩:=hh
 (rw[<-qfT];delta ZO Og ia gq lJ Zt Z0 QK vG iB vH iU vI Z3K zg z7 zh z8 Aa Z3J QL rC GZ vb Zy eu eK uj lj Z7 Z8 zf Zv gP gO h9 gB gC uf jg jh gK gN oQ Oo ug uh ui Z3H Z4s QN oN ZR Z22 gh QV zi zj zk zl zm vJ Ab Z4r Z3 Va Z3F Zx Z3E Z3D)
 have ub:fq o=false->kh g.s k o=none:=fun h=>by
  cases hh:kh g.s k o with
  |none=>rfl
  |some n=>rw[Rq hh] at h;cases h
 have u:fq o=true->kh g.s k o=_:=fun h=>(kh.eq_1 g.s k o).trans (zam (by rw[h];simp))
 have kb:fq o=jX o (o.kind==0 ||o.kind==1) (o.kind==0) (o.kind==2) (o.kind==3) (o.kind==4):=rfl
 refine hQ (fun e=> ?_) fun e0=>hQ (fun e=> ?_) fun e1=>hQ (fun e=> ?_) fun e2=>hQ (fun e=> ?_) fun e3=>hQ (fun e=> ?_) fun e4=>h1 ?_
 ·rw[e] at kb
  simp only[zao e] at u
  have no: ¬(o.node=(g.s.1,g.s.2,k)/\lH g.s k o.parent=true/\dH o.name=true)->kh g.s k o=none:=fun h=>by
   cases hb:fq o with
   |false=>exact ub hb
   |true=>rw[u hb,zam h]
  rw[DX o.node (g.s.1,g.s.2,k)]
  refine ax (fun c1=>⟨g,k,o.parent,rfl,rfl,fun b2 cm=>ax (fun c2=>⟨o.name,rfl,rfl,fun b3 lA=>ax (fun c3=>⟨o,_,_,_,_,_,rfl,rfl,fun r hr=>ax (fun c4=>h2 _ ?_) fun c4=>h1 (ub ?_)⟩) fun c3=>h1 (no ?_)⟩) fun c2=>h1 (no ?_)⟩) fun c1=>h1 (no ?_)
  ·rw[u (by rw[kb,<-c4,hr];rfl),zao ⟨by simpa using c1,by rw[<-cm,c2],by rw[<-lA,c3]⟩]
  ·rw[kb,<-c4,hr];rfl
  ·exact fun h=>by rw[h.2.2] at lA;rw[lA] at c3;cases c3
  ·exact fun h=>by rw[h.2.1] at cm;rw[cm] at c2;cases c2
  ·exact fun h=>by rw[h.1] at c1;simp at c1
 ·rw[e] at kb
  simp only[zam e0,zao e] at u
  have no: ¬(cU g.s k o.node=true/\lH g.s k o.parent=true/\dH o.name=true)->kh g.s k o=none:=fun h=>by
   cases hb:fq o with
   |false=>exact ub hb
   |true=>rw[u hb,zam h]
  refine⟨g,k,o.node,rfl,rfl,fun b1 jJ=>ax (fun c1=>⟨g,k,o.parent,rfl,rfl,fun b2 cm=>ax (fun c2=>⟨o.name,rfl,rfl,fun b3 lA=>ax (fun c3=>⟨o,_,_,_,_,_,rfl,rfl,fun r hr=>ax (fun c4=>h2 _ ?_) fun c4=>h1 (ub ?_)⟩) fun c3=>h1 (no ?_)⟩) fun c2=>h1 (no ?_)⟩) fun c1=>h1 (no ?_)⟩
  ·rw[u (by rw[kb,<-c4,hr];rfl),zao ⟨by rw[<-jJ,c1],by rw[<-cm,c2],by rw[<-lA,c3]⟩]
  ·rw[kb,<-c4,hr];rfl
  ·exact fun h=>by rw[h.2.2] at lA;rw[lA] at c3;cases c3
  ·exact fun h=>by rw[h.2.1] at cm;rw[cm] at c2;cases c2
  ·exact fun h=>by rw[h.1] at jJ;rw[jJ] at c1;cases c1
 ·rw[e] at kb
  simp only[zam e0,zam e1,zao e] at u
  have no: ¬(cU g.s k o.node=true/\mN g.s o.b9=true)->kh g.s k o=none:=fun h=>by
   cases hb:fq o with
   |false=>exact ub hb
   |true=>rw[u hb,zam h]
  refine⟨g,k,o.node,rfl,rfl,fun b1 jJ=>ax (fun c1=>⟨g,o.b9,rfl,rfl,hs.2.1,fun b2 cm=>ax (fun c2=>⟨o,_,_,_,_,_,rfl,rfl,fun r hr=>ax (fun c4=>h2 _ ?_) fun c4=>h1 (ub ?_)⟩) fun c2=>h1 (no ?_)⟩) fun c1=>h1 (no ?_)⟩
  ·rw[u (by rw[kb,<-c4,hr];rfl),zao ⟨by rw[<-jJ,c1],by rw[<-cm,c2]⟩]
  ·rw[kb,<-c4,hr];rfl
  ·exact fun h=>by rw[h.2] at cm;rw[cm] at c2;cases c2
  ·exact fun h=>by rw[h.1] at jJ;rw[jJ] at c1;cases c1
 ·rw[e] at kb
  simp only[zam e0,zam e1,zam e2,zao e] at u
  have no: ¬(cU g.s k o.node=true/\lH g.s k o.after=true/\o.elem=(g.s.1,g.s.2,k)/\mO o.text=true)->kh g.s k o=none:=fun h=>by
   cases hb:fq o with
   |false=>exact ub hb
   |true=>rw[u hb,zam h]
  refine⟨o.text,rfl,rfl,hs.1,fun hv=> ?_,fun hv n hn=> ?_⟩
  ·have hr:mO o.text=false:=by rw[mO,hv];rfl
   have bZ:kh g.s k o=none:=no (fun h=>by rw[h.2.2.2] at hr;cases hr)
   exact⟨g,k,o.node,rfl,rfl,fun b2 cm=>ax (fun c2=>⟨g,k,o.after,rfl,rfl,fun b3 lA=>ax (fun c3=>ax (fun c4=>h1 bZ) fun c4=>h1 bZ) fun c3=>h1 bZ⟩) fun c2=>h1 bZ⟩
  ·have hr:mO o.text=decide (1<=n/\n<=2000):=by rw[mO,hv,zaQ,hn]
   rw[DX o.elem (g.s.1,g.s.2,k)]
   refine⟨g,k,o.node,rfl,rfl,fun b1 jJ=>ax (fun c1=>⟨g,k,o.after,rfl,rfl,fun b2 cm=>ax (fun c2=>ax (fun c3=>bf (fun c5=>bf (fun c6=>⟨o,_,_,_,_,_,rfl,rfl,fun r hr=>ax (fun c4=>h2 _ ?_) fun c4=>h1 (ub ?_)⟩) fun c6=>h1 (no ?_)) fun c5=>h1 (no ?_)) fun c3=>h1 (no ?_)) fun c2=>h1 (no ?_)⟩) fun c1=>h1 (no ?_)⟩
   ·rename_i tv
    rw[u (by rw[kb,<-c4,hr];rfl),zao ⟨by rw[<-jJ,c1],by rw[<-cm,c2],by simpa using c3,by rw[tv];exact zaR ⟨c5,c6⟩⟩,hn]
   ·rw[kb,<-c4,hr];rfl
   ·exact fun h=>by rw[hr] at h;exact c6 (zbD h.2.2.2).2
   ·exact fun h=>by rw[hr] at h;exact c5 (zbD h.2.2.2).1
   ·exact fun h=>by rw[h.2.2.1] at c3;simp at c3
   ·exact fun h=>by rw[h.2.1] at cm;rw[cm] at c2;cases c2
   ·exact fun h=>by rw[h.1] at jJ;rw[jJ] at c1;cases c1
 ·rw[e] at kb
  simp only[zam e0,zam e1,zam e2,zam e3,zao e] at u
  have no: ¬(cU g.s k o.node=true/\sR g.s k o.elems=true)->kh g.s k o=none:=fun h=>by
   cases hb:fq o with
   |false=>exact ub hb
   |true=>rw[u hb,zam h]
  refine⟨g,k,o.node,rfl,rfl,fun b1 jJ=>ax (fun c1=>⟨g,k,o.elems,rfl,rfl,hs.2.2,fun b2 cm=>ax (fun c2=>⟨o,_,_,_,_,_,rfl,rfl,fun r hr=>ax (fun c4=>h2 _ ?_) fun c4=>h1 (ub ?_)⟩) fun c2=>h1 (no ?_)⟩) fun c1=>h1 (no ?_)⟩
  ·rw[u (by rw[kb,<-c4,hr];rfl),zao ⟨by rw[<-jJ,c1],by rw[<-cm,c2]⟩]
  ·rw[kb,<-c4,hr];rfl
  ·exact fun h=>by rw[h.2] at cm;rw[cm] at c2;cases c2
  ·exact fun h=>by rw[h.1] at jJ;rw[jJ] at c1;cases c1
 ·cases hb:fq o with
  |false=>exact ub hb
  |true=>rw[u hb,zam e0,zam e1,zam e2,zam e3,zam e4])
theorem Xs:LD X 72 11 (ae (aL 72 11) qcL):=LD.idx (H:=[(106,qcJ)]) (hk:=[]) (by kernel_rfl) (by kernel_rfl) (.cons qfV .nil) .nil
 (A:=aj) (B:=Int) (fun g k i=>qcK g k i) (fun g=>g.ops.length) (fun g i k=>(Oj g/\g.ops.length<=200)/\(0<=k/\k<=2000000*i)/\iT g.s 0 g.ops=iT g.s k (g.ops.drop i))
 (fun g x=>(iT g.s 0 g.ops=false/\x=(.ret,⟨90,[(2,iD 80)],[]⟩))\/(iT g.s 0 g.ops=true/\x=(.exit 0,⟨90,[],[]⟩)))
 (by
  rintro g k i post h0 bN bg ⟨hs,hk,he⟩ hn ho
  (rw[<-Ro];delta mZ jg jh lW oC iB gK iU gN jC vL Zn vi bT Za Z9 Zj Z3M U8 Z45 Zx QV vG vH vI zg z7 zh z8 Aa lj zi zj zk zl zm ug uh ui vJ Ab Zt Zv Zg jB Xh Xi Xj Rb Rc Re Z44 oQ Ol vg Om Rf)
  have e1:D.nth (g.ops.map eH) i.toNat=eH g.ops[i.toNat]:=ay _ _ _ bg
  rw[e1]
  simp only[zaa]
  have hd:g.ops.drop i.toNat=g.ops[i.toNat]::g.ops.drop (i.toNat+1):=za2 bg
  have On:=hs.1.1 _ (zas bg)
  have GW:=hs.2
  rw[hd] at he
  generalize g.ops[i.toNat]=o at he On
  refine yu bN (bs ⟨h0,bN⟩ (ao (I2 _) ⟨g,k,o,rfl,rfl,On,fun h=> ?_,fun n h=> ?_⟩))
  ·refine ho _ (fun h=>by cases h) (.inl ⟨?_,rfl⟩)
   rw[he,iT,h]
  ·have:=Rj h On.1
   refine bf (fun h=>by omega) fun _=>bs (by omega) (bs (by omega) (hn (k+n) ⟨hs,by omega,?_⟩))
   rw[he,iT,h])
 (by
  rintro g k i post hi ⟨hs,hk,he⟩ ho
  (rw[<-Ro];delta mZ jg jh lW oC iB gK iU gN jC vL Zn vi bT Za Z9 Zj Z3M U8 Z45 Zx QV vG vH vI zg z7 zh z8 Aa lj zi zj zk zl zm ug uh ui vJ Ab Zt Zv Zg jB Xh Xi Xj Rb Rc Re Z44 oQ Ol vg Om Rf)
  simp only[zaa]
  refine bf (fun h=>by omega) fun h=>ho _ (fun h=>by cases h) (.inr ⟨?_,rfl⟩)
  rw[he,zc0]
  rfl)
 (by
  rintro s post ⟨g,rfl,hs,h1,h2⟩
  refine⟨g,0,rfl,⟨hs,by omega,rfl⟩,?_⟩
  rintro x (⟨h,rfl⟩| ⟨h,rfl⟩)
  ·exact h1 h
  ·exact h2 h)
theorem qcM:FD X 72 FZ:=FD.mk (H:=[(104,vF),(105,Bo),(13,FY),(14,lV)]) (hk:=[(11,ae (aL 72 11) qcL)]) (by kernel_rfl) (.cons Q5 (.cons qcD (.cons qcE (.cons uk .nil)))) (.cons Xs .nil) (by
 intro ps R post hh
 obtain⟨g,rfl,rfl,hs,hp⟩:=hh
 (rw[<-qfU];delta Z7 Z8 Dd Z4f Z4g mZ jg jh lW oC iB gK iU gN jC vL M3 bT Z4v vg Z4d kj km r1 oP ze IV DW Z4c Z4b Z4a Za Z9 Z3S Zt Zv Zk Z3R G9 ZW Z1 jY Zx)
 have bZ:cx g=false->post (.d (.int .i64 80),[]):=fun h=>hp _ (by rw[h];rfl)
 have mX:cx g=true->post (.d (.int .i64 0),[]):=fun h=>hp _ (by rw[h];rfl)
 have u:=cx.eq_1 g
 have no1:Vb g=false->cx g=false:=fun h=>by rw[u,h];rfl
 have v:=Vb.eq_1 g
 rw[MY g.b7 (0,0)]
 simp only[zaa]
 refine⟨g.s,rfl,rfl,fun b hb=>ax (fun c1=>bZ (no1 ?_)) fun c1=>bf (fun c2=>bZ (no1 ?_)) fun c2=>bf (fun c3=>bZ (no1 ?_)) fun c3=>⟨g.deps,rfl,rfl,hs.2.2,fun b2 cm=>ax (fun c4=>bZ (no1 ?_)) fun c4=>⟨g.deps,g.s.2,rfl,rfl,hs.2.2,fun n hn=>bs (by omega) (Bd (fun c5=>bZ (no1 ?_)) fun c5=> ?_)⟩⟩⟩
 ·rw[v,<-hb,show b=false by simpa using c1];rfl
 ·rw[v,zaL (by omega)];simp
 ·rw[v,zaL (by omega)];simp
 ·rw[v,<-cm,show b2=false by simpa using c4];simp
 ·rw[v,<-hn,show(n==g.n-1)=false by simpa using c5];simp
 rw[v,<-hb,show b=true by simpa using c1,<-cm,show b2=true by simpa using c4,<-hn,show(n==g.n-1)=true by simpa using c5,zaR (by omega),zaQ,zaQ,zaQ,zaQ] at u
 refine ax (fun c2=>⟨g.b7,rfl,rfl,fun b2 cm=>ax (fun c3=>bZ ?_) fun c3=>⟨g.b7,g.s,rfl,rfl,fun c hc=>ax (fun c4=>bZ ?_) fun c4=>bf (fun c5=>bZ ?_) fun c5=>mX ?_⟩⟩) fun c2=>bf (fun c3=>bZ ?_) fun c3=>bf (fun c4=>bZ ?_) fun c4=>⟨g,rfl,⟨hs,by omega⟩,fun h=>bZ ?_,fun h=>mX ?_⟩
 ·rw[zao (by simpa using c2),<-cm,show b2=false by simpa using c3] at u
  rw[u];rfl
 ·rw[zao (by simpa using c2),<-hc,show c=false by simpa using c4] at u
  rw[u];simp
 ·rw[zao (by simpa using c2)] at u
  rw[u,show(g.ops.length==0)=false by rw[zcL];omega];simp
 ·rw[zao (by simpa using c2),<-cm,show b2=true by simpa using c3,<-hc,show c=true by simpa using c4,show(g.ops.length==0)=true by rw[zaS];omega] at u
  rw[u];rfl
 ·rw[zam (by simpa using c2),zaL (by omega)] at u
  rw[u];rfl
 ·rw[zam (by simpa using c2),zaL (by omega)] at u
  rw[u];rfl
 ·rw[zam (by simpa using c2),h] at u
  rw[u];simp
 ·rw[zam (by simpa using c2),h,zaR (by omega)] at u
  rw[u];rfl)
end
abbrev Hd:=az×az
theorem mP:G6 (fun a b:az=>lG a b) where
 Kt x:=by simp[rD]
 tr x y z:=by simp only[rD,zah];omega
 q8 x y:=by
  simp only[rD,zaO]
  intro h1 h2
  obtain⟨a,b⟩:=x
  obtain⟨c,d⟩:=y
  simp only at h1 h2
  have:a=c:=by omega
  have:b=d:=by omega
  subst_vars
  rfl
def Ha (o:List Hd) (h:Hd):List Hd:=if(o.any fun x=>x.1==h.1)=true then o else o++[h]
def rG (l:List Hd):List Hd:=l.foldl Ha []
theorem M4 {o:List Hd} (h:Hd) (ho:(o.map (·.1)).Nodup):((Ha o h).map (·.1)).Nodup:=by
 unfold Ha
 split
 ·exact ho
 ·rename_i hn
  rw[zaB,za0]
  refine⟨ho,by simp,fun a ha b hb e=> ?_⟩
  simp at hb
  subst hb
  subst e
  obtain⟨x,hx,he⟩:=zaA.1 ha
  exact hn (zbx.2 ⟨x,hx,by simpa using he⟩)
theorem Bq: ∀(l o:List Hd),(o.map (·.1)).Nodup->((l.foldl Ha o).map (·.1)).Nodup
 | [],_,h=>h
 |x::r,_,h=>Bq r _ (M4 x h)
theorem M5 (l:List Hd):((rG l).map (·.1)).Nodup:=Bq l [] (by simp)
theorem Xt (o:List Hd) (h:Hd):(Ha o h).length<=o.length+1:=by
 unfold Ha
 split
 ·omega
 ·simp
theorem KS: ∀(l o:List Hd),(l.foldl Ha o).length<=o.length+l.length
 | [],_=>by simp
 |x::r,o=>by
  have:=KS r (Ha o x)
  have:=Xt o x
  simp only[za8,zap]
  omega
theorem qg (l:List Hd):(rG l).length<=l.length:=by simpa [rG] using KS l []
theorem KT: ∀(l o:List Hd),((o++l).map (·.1)).Nodup->l.foldl Ha o=o++l
 | [],o,_=>by simp
 |x::r,o,h=>by
  have e:Ha o x=o++[x]:=by
   unfold Ha
   rw[zam]
   intro hx
   obtain⟨y,hy,he⟩:=zbx.1 hx
   rw[zaB,za0] at h
   exact h.2.2 y.1 (za6 hy) x.1 (by simp) (by simpa using he)
  rw[za8,e,KT r (o++[x]) (by simpa using h)]
  simp
theorem Xu {l:List Hd} (h:(l.map (·.1)).Nodup):rG l=l:=by
 unfold rG
 rw[KT l [] (by simpa using h)]
 rfl
def ltH (a b:Hd):Bool:=lG a.1 b.1
def vM (l:List Hd):List Hd:=cc ltH (rG l)
theorem pM {α β:Type} {f:α->β}: ∀{l:List α},(l.map f).Nodup-> ∀x∈l,∀y∈l,f x=f y->x=y
 | [],_,x,hx,_,_,_=>by cases hx
 |a::r,h,x,hx,y,hy,e=>by
  rw[zbl,za7] at h
  rcases zav.1 hx with Ch |Ch
  ·rcases zav.1 hy with zG |zG
   ·rw[Ch,zG]
   ·exact absurd (zaA.2 ⟨y,zG,by rw[<-e,Ch]⟩) h.1
  ·rcases zav.1 hy with zG |zG
   ·exact absurd (zaA.2 ⟨x,Ch,by rw[e,zG]⟩) h.1
   ·exact pM h.2 x Ch y zG e
theorem KU {l a:List Hd} (hp:a.Perm (rG l)) (ha:a.Pairwise fun x y=>ltH y x=false):a=vM l:=
 yn mP (fun a:Hd=>a.1) (fun x hx y hy e=>pM (M5 l) x (hp.mem_iff.1 hx) y (hp.mem_iff.1 hy) e) (hp.trans (cw _).symm) ha (tZ mP (fun a:Hd=>a.1) _)
theorem F5 (l:List Hd):(vM l).length<=l.length:=by
 unfold vM
 rw[(cw _).length_eq]
 exact qg l
def Rr (on:List Hd) (h:Hd):List Hd:=if(on.any fun x=>x.2==h.1)=true then on else on++[h]
def KV (l on:List Hd):List Hd:=l.foldl Rr on
def Xv (l:List Hd):List az:=((KV (vM l).reverse []).map (·.1)).reverse
theorem Xw (o:List Hd) (h:Hd):(Rr o h).length<=o.length+1:=by
 unfold Rr
 split
 ·omega
 ·simp
theorem sU: ∀(l o:List Hd),(KV l o).length<=o.length+l.length
 | [],_=>by simp[KV]
 |x::r,o=>by
  have:=sU r (Rr o x)
  have:=Xw o x
  simp only[KV,za8,zap] at*
  omega
theorem Xx (l:List Hd):(Xv l).length<=l.length:=by
 unfold Xv
 have h1:=sU (vM l).reverse []
 have h2:=F5 l
 simp at h1⊢
 omega
def ko (o:List aj) (g:aj):List aj:=if cx g=true/\(o.any fun x=>x.s==g.s)=false then o++[g] else o
def aH (l:List aj):List aj:=l.foldl ko []
def ll (g:aj):Hd:=(g.s,g.b7)
def rH (l:List aj):List Hd:=(aH l).map ll
theorem Rs (o:List aj) (g:aj):(ko o g).length<=o.length+1:=by
 unfold ko
 split
 ·simp
 ·omega
theorem F6: ∀(l o:List aj),(l.foldl ko o).length<=o.length+l.length
 | [],_=>by simp
 |x::r,o=>by
  have:=F6 r (ko o x)
  have:=Rs o x
  simp only[za8,zap]
  omega
theorem dI (l:List aj):(aH l).length<=l.length:=by simpa [aH] using F6 l []
theorem F7 (l:List aj) (g:aj):aH (l++[g])=ko (aH l) g:=by simp[aH]
theorem Ru {P:aj->Prop} (hP: ∀g,cx g=true->P g): ∀(l o:List aj),(∀g∈o,P g)-> ∀g∈l.foldl ko o,P g
 | [],_,h=>h
 |x::r,o,h=>by
  refine Ru hP r _ ?_
  intro g hg
  unfold ko at hg
  split at hg
  ·rename_i hx
   rcases zaG.1 hg with hg |hg
   ·exact h g hg
   ·simp at hg
    subst hg
    exact hP _ hx.1
  ·exact h g hg
theorem rI {l:List aj}: ∀g∈aH l,cx g=true:=Ru (P:=fun g=>cx g=true) (fun _ h=>h) l [] (fun _ h=>by cases h)
theorem yx: ∀(l o:List aj),(o.map (·.s)).Nodup->((l.foldl ko o).map (·.s)).Nodup
 | [],_,h=>h
 |x::r,o,h=>by
  refine yx r _ ?_
  unfold ko
  split
  ·rename_i hx
   rw[zaB,za0]
   refine⟨h,by simp,fun a ha b hb e=> ?_⟩
   simp at hb
   subst hb
   subst e
   obtain⟨y,hy,he⟩:=zaA.1 ha
   have:=hx.2
   rw[zcs] at this
   exact this y hy (by simpa using he)
  ·exact h
theorem nS (l:List aj):((aH l).map (·.s)).Nodup:=yx l [] (by simp)
theorem Dg (l:List aj):((rH l).map (·.1)).Nodup:=by
 have e:(rH l).map (·.1)=(aH l).map (·.s):=by simp[rH,ll,zb4]
 rw[e]
 exact nS l
theorem F8: ∀(l o:List aj),(∀g∈l,cx g=true)->((o++l).map (·.s)).Nodup->l.foldl ko o=o++l
 | [],o,_,_=>by simp
 |x::r,o,hc,h=>by
  have e:ko o x=o++[x]:=by
   unfold ko
   rw[zao]
   refine⟨hc x (.head _),?_⟩
   rw[zcs]
   intro y hy he
   rw[zaB,za0] at h
   exact h.2.2 y.s (za6 hy) x.s (by simp) (by simpa using he)
  rw[za8,e,F8 r (o++[x]) (fun g hg=>hc g (.tail _ hg)) (by simpa using h)]
  simp
theorem Jd {l:List aj} (hc: ∀g∈l,cx g=true) (h:(l.map (·.s)).Nodup):aH l=l:=by
 unfold aH
 rw[F8 l [] hc (by simpa using h)]
 rfl
def Ve (r:Int) (m:Int) (g:aj):Int:=if g.s.2=r then max m g.n else m
def Br (l:List aj) (r:Int):Int:=l.foldl (Ve r) 0
def rJ (l:List aj):List Int:=oA 16 fun i=>Br l ((i:Int)+1)
def oD (l:List aj):List Int:=bp (rJ l)
theorem Rv (l:List aj) (g:aj) (r:Int):Br (l++[g]) r=if g.s.2=r then max (Br l r) g.n else Br l r:=by simp[Br,Ve]
theorem jx (l:List aj):(rJ l).length=16:=by simp[rJ]
theorem sV (l:List aj) (i:Nat):(rJ l).getD i 0=if i<16 then Br l ((i:Int)+1) else 0:=by
 unfold rJ
 rw[sN]
theorem Rw {l:List aj} {g:aj} (h1:1<=g.s.2) (h2:g.s.2<=16):(rJ l).set (g.s.2-1).toNat (max ((rJ l).getD (g.s.2-1).toNat 0) g.n)=rJ (l++[g]):=by
 refine ext_get (by simp[jx]) fun i=> ?_
 rw[sV,sV,zao (by omega)]
 have e0:(((g.s.2-1).toNat:Nat):Int)+1=g.s.2:=by omega
 rw[e0]
 by_cases hi:i<16
 ·rw[zao hi,Rv]
  by_cases he:(g.s.2-1).toNat=i
  ·subst he
   rw[e0,zao rfl,zac,zbO (by rw[jx];exact hi),zca]
  ·rw[zam (by omega)]
   simp only[zac,zaW he]
   have:=sV l i
   rw[zao hi] at this
   simpa [zac] using this
 ·rw[zam hi,nO (by simp[jx];omega)]
theorem Rx:rJ []=List.replicate 16 0:=by rfl
theorem wA (l:List aj) (r:Int) (h1:1<=r) (h2:r<=16):eo (oD l) r=Br l r:=by
 rw[lT _ h1,oD,yb,sV,zao (by omega)]
 congr 1
 omega
theorem yy (l:List aj):(oD l).length<=16:=by
 have:=pF (rJ l) (rJ l).length
 rw[oD,nN]
 rw[jx] at this⊢
 exact this
theorem Je {r B:Int}: ∀(l:List aj) (m:Int),m<=B->(∀g∈l,g.n<=B)->l.foldl (Ve r) m<=B
 | [],_,h,_=>h
 |g::t,m,h,hl=>by
  refine Je t _ ?_ fun x hx=>hl x (.tail _ hx)
  have:=hl g (.head _)
  unfold Ve
  split
  ·omega
  ·exact h
theorem Jf {r:Int}: ∀(l:List aj) (m:Int),m<=l.foldl (Ve r) m/\ ∀g∈l,g.s.2=r->g.n<=l.foldl (Ve r) m
 | [],m=>⟨zby _,fun _ h=>by cases h⟩
 |g::t,m=>by
  obtain⟨h1,h2⟩:=Jf (r:=r) t (Ve r m g)
  have h3:m<=Ve r m g/\(g.s.2=r->g.n<=Ve r m g):=by
   unfold Ve
   split
   ·exact⟨by omega,fun _=>by omega⟩
   ·rename_i h
    exact⟨zby _,fun e=>absurd e h⟩
  refine⟨Int.le_trans h3.1 h1,fun x hx hr=> ?_⟩
  rcases zav.1 hx with rfl |hx
  ·exact Int.le_trans (h3.2 hr) h1
  ·exact h2 x hx hr
theorem rK (l:List aj) (r:Int):0<=Br l r:=(Jf (r:=r) l 0).1
theorem Xy {l:List aj} {g:aj} (h:g∈l):g.n<=Br l g.s.2:=(Jf l 0).2 g h rfl
def mQ (l:List aj):Int:=l.foldl (fun t g=>max t g.s.1) 0
theorem Ry (l:List aj) (g:aj):mQ (l++[g])=max (mQ l) g.s.1:=by simp[mQ]
theorem Jg {B:Int} (hB:0<=B): ∀(l:List aj),(∀g∈l,g.s.1<=B)->mQ l<=B:=by
 intro l h
 have key: ∀(l:List aj) (m:Int),m<=B->(∀g∈l,g.s.1<=B)->l.foldl (fun t g=>max t g.s.1) m<=B:=by
  intro l
  induction l with
  |nil=>intro m h _;exact h
  |cons g t ih=>
   intro m h hl
   refine ih _ ?_ fun x hx=>hl x (.tail _ hx)
   have:=hl g (.head _)
   show max m g.s.1<=B
   omega
 exact key l 0 hB h
theorem pN (l:List aj):0<=mQ l/\ ∀g∈l,g.s.1<=mQ l:=by
 have key: ∀(l:List aj) (m:Int),m<=l.foldl (fun t g=>max t g.s.1) m/\ ∀g∈l,g.s.1<=l.foldl (fun t g=>max t g.s.1) m:=by
  intro l
  induction l with
  |nil=>intro m;exact⟨zby _,fun _ h=>by cases h⟩
  |cons g t ih=>
   intro m
   obtain⟨h1,h2⟩:=ih (max m g.s.1)
   refine⟨by simp only[za8];omega,fun x hx=> ?_⟩
   simp only[za8]
   rcases zav.1 hx with rfl |hx
   ·omega
   ·exact h2 x hx
 exact key l 0
def noG:aj:=⟨(0,0),0,[],(0,0),[]⟩
def qaO (l:List aj) (r:Int):aj:=⟨(mQ l+1,r),Br l r+1,oD l,(0,0),[]⟩
def pO (l:List aj) (r:Int):Int:=if ¬(1<=r/\r<=16) then 1 else if max (mQ l+1) (Br l r+1)>1099511627776 then 2 else 0
def vj (l:List aj) (r:Int):aj:=if pO l r=0 then qaO l r else noG
def gtG (a b:aj):Bool:=lG b.s a.s
def Ad (l:List aj) (r:Int):List aj:=cc gtG (l.filter fun g=>g.s.2==r)
theorem uo (l:List aj) (r:Int):(Ad l r).Perm (l.filter fun g=>g.s.2==r):=cw _
theorem Jh:G6 (fun a b:az=>lG b a) where
 Kt x:=mP.Kt x
 tr x y z h1 h2:=mP.tr z y x h2 h1
 q8 x y h1 h2:=(mP.q8 y x h1 h2).symm
theorem Xz {l a:List aj} {r:Int} (hn:(l.map (·.s)).Nodup) (hp:a.Perm (l.filter fun g=>g.s.2==r)) (ha:a.Pairwise fun x y=>gtG y x=false):a=Ad l r:=
 yn Jh (fun g:aj=>g.s) (fun x hx y hy e=>pM hn x ((zb3.1 (hp.mem_iff.1 hx)).1) y ((zb3.1 (hp.mem_iff.1 hy)).1) e) (hp.trans (uo l r).symm) ha (tZ Jh (fun g:aj=>g.s) _)
def eL (on:List az):List aj->Option az
 | []=>none
 |g::t=>if g.b7=(0,0)/\g.s∈on then some g.s else eL on t
def pP (l:List Hd):Nat->az->Bool->Int×az×Bool
 |0,_,_=>(11,(0,0),false)
 |n+1,x,even=>match(l.find? fun h=>h.1==x).map (·.2) with
  |none=>(111,(0,0),false)
  |some u=>if u=(0,0) then(0,x,even) else pP l n u (!even)
def oe (l:List Hd) (x:az):Int×az×Bool:=pP l (l.length+1) x true
def F9 (l:List Hd) (x:az):Bool:=(oe l x).1==0&& !(oe l x).2.2
def cd (l:List Hd) (on:List az):List aj->Option az
 | []=>none
 |g::t=>if g.b7=(0,0) then none else if F9 l g.s=true/\g.s∈on then some g.s else cd l on t
def qfW (o:Option az):az×Int:=match o with |some s=>(s,0)|none=>((0,0),200)
def M6 (l:List aj):List az:=Xv ((aH l).map ll)
def Ga (l:List aj) (r:Int):az×Int:=qfW (eL (M6 l) (Ad (aH l) r))
def Bs (l:List aj) (r:Int):az×Int:=qfW (cd (rH l) (M6 l) (Ad (aH l) r))
theorem M7 {l m:List Hd} (hn:(l.map (·.1)).Nodup) (hp:m.Perm l) (x:az):m.find? (fun h=>h.1==x)=l.find? (fun h=>h.1==x):=by
 have hm:(m.map (·.1)).Nodup:=(hp.map (·.1)).nodup_iff.2 hn
 cases h:l.find? (fun h=>h.1==x) with
 |none=>
  rw[zck] at h⊢
  exact fun y hy=>h y (hp.mem_iff.1 hy)
 |some a=>
  have ha:=zcn h
  have hax:=zc3 h
  cases h2:m.find? (fun h=>h.1==x) with
  |none=>
   rw[zck] at h2
   exact absurd hax (h2 a (hp.mem_iff.2 ha))
  |some b=>
   have hb:=zcn h2
   have hbx:=zc3 h2
   have:b=a:=pM hn b (hp.mem_iff.1 hb) a ha (by simp at hax hbx;rw[hax,hbx])
   rw[this]
noncomputable def eX (H HN:List (FuncId×bq)) (hk:List (Nat×(S->K (PX×S)))) (f id:Nat) (s:S):K (PX×S):=
 wU (du PR (runK PR x9 qe H 60 60) HN (aL f) hk (qe f) (bx PR f id)) (aL f id) s
noncomputable def rL (H HN:List (FuncId×bq)) (hk:List (Nat×(S->K (PX×S)))) (f:Nat) (ps:List P) (R:List (Nat×En)):K (P×List (Nat×En)):=
 Ba PR (runK PR x9 qe H 60 60) HN x9 hk qe f ps R
def ND (w0:World) (f:Nat) (h:bq):Prop:=Qn PR w0 f h
def LN (w0:World) (f id:Nat) (g:S->K (PX×S)):Prop:= ∀(val:Nat->Value) (lo:Nat) (mk:Bool) s post,g s post->TW PR ⟨val,w0,lo,mk⟩ (.loop (bx PR f id)) s post
def LNT (w0:World) (f id:Nat) (g:S->K (PX×S)):Prop:= ∀(val:Nat->Value) (lo:Nat) s post,g s post->TW PR ⟨val,w0,lo,true⟩ (.loop (bx PR f id)) s post
def FN (w0:World) (f id:Nat) (g:S->K (PX×S)):Prop:= ∀(val:Nat->Value) (lo:Nat) s post,g s post->TW PR ⟨val,w0,lo,true⟩ (mK PR f id).code s post
theorem LN.T {w0:World} {f id:Nat} {g:S->K (PX×S)} (h:LN w0 f id g):LNT w0 f id g:=fun val lo s post hp=>h val lo true s post hp
inductive KX (w0:World):List (FuncId×bq)->Prop
 |nil:KX w0 []
 |cons {f:Nat} {h:bq} {r:List (FuncId×bq)} (hf:ND w0 f h) (hr:KX w0 r):KX w0 ((f,h)::r)
theorem KX.get {w0:World} {HN:List (FuncId×bq)} (h:KX w0 HN): ∀f g,lk HN f=some g->Qn PR w0 f g:=by
 induction h with
 |nil=>intro f g h;cases h
 | @cons f' h' r hf hr ih=>
  intro f g h
  unfold lk at h
  split at h
  ·rename_i he
   cases h
   rw[<-zaf he]
   exact hf
  ·exact ih f g h
inductive XA (w0:World) (f:Nat):List (Nat×(S->K (PX×S)))->Prop
 |nil:XA w0 f []
 |cons {id:Nat} {g:S->K (PX×S)} {r:List (Nat×(S->K (PX×S)))} (h:LN w0 f id g) (hr:XA w0 f r):XA w0 f ((id,g)::r)
theorem XA.get {w0:World} {f:Nat} {hk:List (Nat×(S->K (PX×S)))} (h:XA w0 f hk): ∀id g,lk hk id=some g->LN w0 f id g:=by
 induction h with
 |nil=>intro f g h;cases h
 | @cons f' h' r hf hr ih=>
  intro f g h
  unfold lk at h
  split at h
  ·rename_i he
   cases h
   rw[<-zaf he]
   exact hf
  ·exact ih f g h
inductive Vf (w0:World) (f:Nat):List (Nat×(S->K (PX×S)))->Prop
 |nil:Vf w0 f []
 |loop {id:Nat} {g:S->K (PX×S)} {r:List (Nat×(S->K (PX×S)))} (hid:id<500000) (h:LNT w0 f id g) (hr:Vf w0 f r):Vf w0 f ((id,g)::r)
 |range {id:Nat} {g:S->K (PX×S)} {r:List (Nat×(S->K (PX×S)))} (h:FN w0 f id g) (hr:Vf w0 f r):Vf w0 f ((500000+id,g)::r)
theorem Vf.loops {w0:World} {f:Nat} {hk:List (Nat×(S->K (PX×S)))} (h:Vf w0 f hk): ∀id g,id<500000->lk hk id=some g->LNT w0 f id g:=by
 induction h with
 |nil=>intro id g _ h;cases h
 | @loop o7 g' r qh8 h hr ih=>
  intro id g hid hg
  unfold lk at hg
  split at hg
  ·rename_i he
   cases hg
   rw[<-zaf he]
   exact h
  ·exact ih id g hid hg
 | @range o7 g' r h hr ih=>
  intro id g hid hg
  unfold lk at hg
  split at hg
  ·rename_i he
   have:=zaf he
   omega
  ·exact ih id g hid hg
theorem Vf.ranges {w0:World} {f:Nat} {hk:List (Nat×(S->K (PX×S)))} (h:Vf w0 f hk): ∀id g,lk hk (500000+id)=some g->FN w0 f id g:=by
 induction h with
 |nil=>intro id g h;cases h
 | @loop o7 g' r qh8 h hr ih=>
  intro id g hg
  unfold lk at hg
  split at hg
  ·rename_i he
   have:=zaf he
   omega
  ·exact ih id g hg
 | @range o7 g' r h hr ih=>
  intro id g hg
  unfold lk at hg
  split at hg
  ·rename_i he
   cases hg
   have:=zaf he
   have e:o7=id:=by omega
   rw[<-e]
   exact h
  ·exact ih id g hg
theorem yz {X:XF} {H:List (FuncId×bq)} (hH:HD X H):zT (runK PR x9 qe H 60 60) (fc PR (Ir X)):=by
 have:=wm (lf:=60) (kA MH) hH 60
 rw[CR PR aL xsT X.cf (fun _ _ _=>none) qe H 60 60] at this
 exact this
theorem ND.mk {X:XF} {w0:World} (hX:dt PR w0 X.cf) {H HN:List (FuncId×bq)} {hk:List (Nat×(S->K (PX×S)))} {f:Nat} {h:bq} (hdr:PR.follows .mixedOrders=true) (hu:uniq PR f=true) (huR:A8 PR f=true) (hH:HD X H) (oc:KX w0 HN) (hl:Vf w0 f hk)
  (hb: ∀ps R post,h ps R post->rL H HN hk f ps R post):ND w0 f h:=
 Qn.mk (kp:=Ir X) oc.get (yz hH) hX hdr MH hu huR hl.loops hl.ranges (fun ps R post hp=>hb ps R post hp)
theorem LN.par {X:XF} {w0:World} (hX:dt PR w0 X.cf) {H HN:List (FuncId×bq)} {hk:List (Nat×(S->K (PX×S)))} {f id:Nat} {g:S->K (PX×S)} (hdr:PR.follows .mixedOrders=true) (hu:uniq PR f=true) (hc:b8 (qe f) (bx PR f id)=true) (hnr:(bR (bx PR f id)).isEmpty=true) (hH:HD X H) (oc:KX w0 HN) (hl:XA w0 f hk)
  {A B:Type} (hd:A->B->S) (Inv:A->B->Prop) (mu:A->B->Nat) (Out:A->PX×S->Prop)
  (hr: ∀a b,Inv a b->eX H HN hk f id (hd a b) (roundPost (mu a b) (fun m s=> ∃b',s=hd a b'/\Inv a b'/\m=mu a b') (Out a)))
  (hg: ∀s post,g s post-> ∃a b,s=hd a b/\Inv a b/\ ∀x,Out a x->post x):LN w0 f id (ae (aL f id) g):=by
 intro val lo mk s post hp
 unfold ae at hp
 cases hh:cr (aL f id) s with
 |none=>simp only[hh] at hp
 |some s0=>
  simp only[hh] at hp
  obtain⟨a,b,rfl,h1,h2⟩:=hg s0 post hp
  refine TW.mono (TW.loop (keep:=aL f id) (I:=fun m s=> ∃b',s=hd a b'/\Inv a b'/\m=mu a b') (O:=Out a) (fun n s hs=> ?_) hh ⟨b,rfl,h1,rfl⟩) h2
  obtain⟨b',rfl,h3,rfl⟩:=hs
  have:=hr a b' h3
  unfold eX at this
  refine TW.mono (dX (kp:=Ir X) (T:=⟨val,w0,lo,mk⟩) oc.get (yz hH) hX hdr (kp1:=aL f) (bx PR f id) hc (fun d hd h hh s post hp=>by
   have:=hl.get _ _ hh val lo mk s post hp
   rwa [tR hu hd] at this) (fun x hx=>by rw[zbN.1 hnr] at hx;cases hx) _ _ this) ?_
  rintro⟨e,s1⟩ hx
  cases e with
  |normal=>
   obtain⟨s2,h4,m,h5,h6⟩:=KW.dN (p:=fun s2=>cr (aL f id) s1=some s2) (fun _ h=>h) _ hx
   exact⟨s2,h4,m,h5,h6⟩
  |exit i=>
   obtain⟨s2,h4,h5⟩:=KW.dN (p:=fun s2=>dA (aL f id) s1=some s2) (fun _ h=>h) _ hx
   exact⟨s2,h4,h5⟩
  |ret=>
   obtain⟨s2,h4,h5⟩:=KW.dN (p:=fun s2=>dA (aL f id) s1=some s2) (fun _ h=>h) _ hx
   exact⟨s2,h4,h5⟩
def Rz (g:FuncId) (cf:D->D->Int) (ty:TypeId):bq:=fun ps R post=> ∃es,ps=[.sl 0 0 es.length,.fn g []]/\R=[(0,⟨0,some 0,.arr ty false es⟩)]/\sM PR x9 g es cf/\
 ∀fA:List D,fA.Perm es->fA.Pairwise (fun a b=> ¬cf b a<0)->post (.cV [],[(0,⟨0,some 0,.arr ty false fA⟩)])
theorem Dh {g:FuncId} {cf:D->D->Int} {ty:TypeId} {ps:List P} {R:List (Nat×En)} {post:P×List (Nat×En)->Prop} (h:Rz g cf ty ps R post):qaE PR x9 ty ps R post:=by
 obtain⟨es,rfl,rfl,hc,hp⟩:=h
 exact⟨0,g,⟨0,some 0,.arr ty false es⟩,es,cf,rfl,rfl,rfl,hc,fun fA h1 h2=>hp fA h1 h2⟩
def RA {α β:Type} (g:FuncId) (ty:TypeId) (enc:α->D) (key:α->β) (lt:β->β->Bool):bq:=fun ps R post=> ∃l:List α,ps=[.sl 0 0 l.length,.fn g []]/\R=[(0,⟨0,some 0,.arr ty false (l.map enc)⟩)]/\l.length<=1000000/\
 ∀l':List α,l'.Perm l->l'.Pairwise (fun a b=>lt (key b) (key a)=false)->post (.cV [],[(0,⟨0,some 0,.arr ty false (l'.map enc)⟩)])
theorem RB {α β:Type} (f:α->β) (g:β->α) (hg: ∀x,g (f x)=x) {l:List α} {l':List β} (h:l'.Perm (l.map f)): ∃l2:List α,l'=l2.map f/\l2.Perm l:=by
 refine⟨l'.map g,?_,?_⟩
 ·rw[List.map_map]
  refine(List.map_id l').symm.trans (zbE fun b hb=> ?_)
  obtain⟨a,_,rfl⟩:=zaA.1 (h.mem_iff.1 hb)
  simp[hg]
 ·have:=h.map g
  rw[List.map_map] at this
  rwa [show(g∘f)=id from funext hg,List.map_id] at this
theorem XB {X:XF} {f g:FuncId} {ty:TypeId} {α β:Type} {enc:α->D} {dec:D->α} {key:α->β} {lt:β->β->Bool} {c:α->α->Int} (ho: ∀cf,FD X f (Rz g cf ty)) (L7: ∀x,dec (enc x)=x) (hL:G6 lt)
  (hc: ∀x y,c x y<0↔lt (key x) (key y)=true) (wa: ∀x,∃cs,enc x= .agg cs) (hfc: ∀x y,xW PR x9 g (enc x) (enc y) (c x y)) (fX: ∃fn,PR.funcs[g]?=some fn/\fn.body.isSome=true/\(fn.name== "runtime.NumGoroutine")=false):
  FD X f (RA g ty enc key lt):=by
 intro ps R post hh
 obtain⟨l,rfl,rfl,hl,hp⟩:=hh
 have bG: ∀x y,c (dec (enc x)) (dec (enc y))<0↔lt (key x) (key y)=true:=fun x y=>by rw[L7,L7];exact hc x y
 refine ho (fun a b=>c (dec a) (dec b)) _ _ post ⟨l.map enc,by rw[zaa],rfl,?_,fun fA h1 h2=> ?_⟩
 ·exact {
   fn:=fX
   ag:=fun d hd=>by obtain⟨x,_,rfl⟩:=zaA.1 hd;exact wa x
   len:=by simp;omega
   run:=fun a ha b hb=>by
    obtain⟨x,_,rfl⟩:=zaA.1 ha
    obtain⟨y,_,rfl⟩:=zaA.1 hb
    rw[L7,L7]
    exact hfc x y
   Kt:=fun a ha=>by
    obtain⟨x,_,rfl⟩:=zaA.1 ha
    rw[bG,hL.Kt]
    simp
   tr:=fun a ha b hb d hd=>by
    obtain⟨x,_,rfl⟩:=zaA.1 ha
    obtain⟨y,_,rfl⟩:=zaA.1 hb
    obtain⟨z,_,rfl⟩:=zaA.1 hd
    rw[bG,bG,bG]
    exact hL.tr _ _ _
   ntr:=fun a ha b hb d hd=>by
    obtain⟨x,_,rfl⟩:=zaA.1 ha
    obtain⟨y,_,rfl⟩:=zaA.1 hb
    obtain⟨z,_,rfl⟩:=zaA.1 hd
    rw[bG,bG,bG]
    intro h1 h2
    simpa using hL.ntr (by simpa using h1) (by simpa using h2)}
 ·obtain⟨l2,rfl,h3⟩:=RB enc dec L7 h1
  rw[zcr] at h2
  exact hp l2 h3 (h2.imp fun {a b} h=>by rw[bG] at h;simpa using h)
def KY {α β:Type} (g:FuncId) (ty:TypeId) (enc:α->D) (key:α->β) (lt:β->β->Bool):bq:=fun ps R post=> ∃(l:List α) (tl:List D),ps=[.sl 0 0 l.length,.fn g []]/\R=[(0,⟨0,some 0,.arr ty false (l.map enc++tl)⟩)]/\l.length<=1000000/\
 ∀l':List α,l'.Perm l->l'.Pairwise (fun a b=>lt (key b) (key a)=false)->post (.cV [],[(0,⟨0,some 0,.arr ty false (l'.map enc++tl)⟩)])
theorem RC {X:XF} {f g:FuncId} {ty:TypeId} {α β:Type} {enc:α->D} {dec:D->α} {key:α->β} {lt:β->β->Bool} {c:α->α->Int} (ho:FD X f (Qk PR x9 ty)) (L7: ∀x,dec (enc x)=x) (hL:G6 lt)
  (hc: ∀x y,c x y<0↔lt (key x) (key y)=true) (wa: ∀x,∃cs,enc x= .agg cs) (hfc: ∀x y,xW PR x9 g (enc x) (enc y) (c x y)) (fX: ∃fn,PR.funcs[g]?=some fn/\fn.body.isSome=true/\(fn.name== "runtime.NumGoroutine")=false):
  FD X f (KY g ty enc key lt):=by
 intro ps R post hh
 obtain⟨l,tl,rfl,rfl,hl,hp⟩:=hh
 have bG: ∀x y,c (dec (enc x)) (dec (enc y))<0↔lt (key x) (key y)=true:=fun x y=>by rw[L7,L7];exact hc x y
 refine ho _ _ post ⟨0,g,⟨0,some 0,.arr ty false (l.map enc++tl)⟩,l.map enc,tl,fun a b=>c (dec a) (dec b),by rw[zaa],rfl,rfl,?_,fun fA h1 h2=> ?_⟩
 ·exact {
   fn:=fX
   ag:=fun d hd=>by obtain⟨x,_,rfl⟩:=zaA.1 hd;exact wa x
   len:=by simp;omega
   run:=fun a ha b hb=>by
    obtain⟨x,_,rfl⟩:=zaA.1 ha
    obtain⟨y,_,rfl⟩:=zaA.1 hb
    rw[L7,L7]
    exact hfc x y
   Kt:=fun a ha=>by
    obtain⟨x,_,rfl⟩:=zaA.1 ha
    rw[bG,hL.Kt]
    simp
   tr:=fun a ha b hb d hd=>by
    obtain⟨x,_,rfl⟩:=zaA.1 ha
    obtain⟨y,_,rfl⟩:=zaA.1 hb
    obtain⟨z,_,rfl⟩:=zaA.1 hd
    rw[bG,bG,bG]
    exact hL.tr _ _ _
   ntr:=fun a ha b hb d hd=>by
    obtain⟨x,_,rfl⟩:=zaA.1 ha
    obtain⟨y,_,rfl⟩:=zaA.1 hb
    obtain⟨z,_,rfl⟩:=zaA.1 hd
    rw[bG,bG,bG]
    intro h1 h2
    simpa using hL.ntr (by simpa using h1) (by simpa using h2)}
 ·obtain⟨l2,rfl,h3⟩:=RB enc dec L7 h1
  rw[zcr] at h2
  exact hp l2 h3 (h2.imp fun {a b} h=>by rw[bG] at h;simpa using h)
def cM (U:List az) (d:D):Option D:=match d with
 | .agg [.int .i64 a,.int .i64 b]=>if U.count (a,b)=0 then none else some (iE (U.count (a,b):Int))
 |_=>none
theorem qaP (U:List az) (x:az):cM U (bh x)=if U.count x=0 then none else some (iE (U.count x:Int)):=rfl
theorem Di:cM []=fun _=>none:=by
 funext d
 unfold cM
 split
 ·simp
 ·rfl
theorem pQ (U:List az) (x:az):cD (cM U (bh x)) (iE 0)=iE (U.count x:Int):=by
 rw[qaP]
 split
 ·rename_i h;rw[h];rfl
 ·rfl
theorem KZ (U:List az) (x:az):cY (bh x) (iE ((U.count x:Int)+1)) (cM U)=cM (x::U):=by
 funext d
 unfold cY
 cases hd:D.nZ (bh x) d with
 |true=>
  have:=(D.gU _ _).1 hd
  subst this
  simp only[zbS]
  rw[qaP,zcb,zam (by omega)]
  simp
 |false=>
  have dG:bh x≠d:=fun e=>by rw[(D.gU _ _).2 e] at hd;cases hd
  simp only[zbn]
  unfold cM
  split
  ·rename_i a b
   have:x≠(a,b):=fun e=>dG (by rw[e];rfl)
   rw[List.count_cons_of_ne this]
  ·rfl
theorem Dj (U:List az) (x:az) (z:D):(fun k'=>bif D.nZ (bh x) k' then some (iE ((U.count x:Int)+1)) else cY (bh x) z (cM U) k')=cM (x::U):=by
 rw[<-KZ]
 funext d
 unfold cY
 cases D.nZ (bh x) d<;>rfl
theorem M8 (k v u:D) (f:D->Option D):cY k v (cY k u f)=cY k v f:=by
 funext d
 unfold cY
 cases D.nZ k d<;>rfl
theorem Dk (U:List az) (x:az) (z:D):cY (bh x) (.int .i64 ((U.count x:Int)+1)) (cY (bh x) z (cM U))=cM (x::U):=by
 rw[M8]
 exact KZ U x
abbrev oR (z:Bool) (l:List aj):Obj:= .arr 34 z (l.map aU)
abbrev mpS (f:D->Option D) (c:Int):Obj:= .map 30 f c false
def nT (l:List aj):Prop:=l.length<=1000000/\ ∀g∈l,Oj g
abbrev cnH (l out:List aj) (f:D->Option D) (c i:Int):S:=⟨36,[(3,.sl 0 0 out.length),(4,.mp 1 0),(9,bP l),(10,iD ((l.map aU).length:Int)),(11,iD i)],[(0,⟨0,none,oR false out⟩),(1,⟨0,none,mpS f c⟩)]⟩
def cP (l:List aj):List D:=List.map aU l
def r3 (out:List aj):En:=En.mk 0 none (Obj.arr (34:TypeId) false (cP out))
def Oq (out:List aj):Nat×En:=(0,r3 out)
def DZ (out:List aj):List (Nat×En):=[Oq out]
def gQ (l:List aj) (i:Int):D:=D.nth (cP l) (Zg i)
def oE (l:List aj) (i:Int):D:=D.int .i64 (D.ah (D.aq (gQ l i) 1))
def oS (l:List aj) (i:Int):D:=D.int .i64 (D.ah (D.aq (gQ l i) 0))
def sW (l:List aj) (i:Int):D:=D.agg [oS l i,oE l i]
def Z4X (l:List aj) (i:Int):D:=D.agg [oS l i,D.int .i64 (D.ah (D.aq (gQ l i) (0+1)))]
def Z4Y (l:List aj) (i:Int) (f:D->Option D) (c:Int):En:=En.mk 0 none (Obj.map 30 (fun(k':D)=>bif D.nZ (Z4X l i) k' then some (D.int .i64 (D.ah (cD (f (Z4X l i)) Z7)+(1:Int))) else cY (Z4X l i) (cD (f (Z4X l i)) Z7) f k') (bif Option.isSome (f (sW l i)) then c else c+(1:Int)) false)
def Ae (l:List aj) (i:Int):Int:=D.ah (D.aq (gQ l i) 2)
def Af (l:List aj) (i:Int):List D:=[oS l i,oE l i,D.int .i64 (Ae l i),D.sl 1 (D.e8 (D.aq (gQ l i) 3)),D.int .i64 (D.ah (D.aq (gQ l i) 4)),D.int .i64 (D.ah (D.aq (gQ l i) 5)),D.sl 18 (D.e8 (D.aq (gQ l i) 6))]
def fu (out:List aj):Nat:=List.length out
def XC (out:List aj) (l:List aj) (i:Int):En:=En.mk 0 none (Obj.arr (34:TypeId) false (List.take (fu out) (cP out)++[D.agg (Af l i)]))
def K0 (out:List aj) (l:List aj) (i:Int):Nat:=fu out+List.length [D.agg (Af l i)]
def fC (l:List aj):Nat:=List.length (cP l)
def XD (out:List aj) (l:List aj) (i:Int):Bool:=Nat.ble (fu out) (fC out)&&aN (K0 out l i) 88
def Z4T (l:List aj) (i:Int) (f:D->Option D):D:=cD (cY (sW l i) (D.int .i64 (D.ah (cD (f (sW l i)) Z7)+(1:Int))) (cY (sW l i) (cD (f (sW l i)) Z7) f) (sW l i)) Z7
def Z4S (f:D->Option D) (l:List aj) (i:Int):Bool:=decide (Z9<=D.ah (cD (f (sW l i)) Z7)+(1:Int)/\D.ah (cD (f (sW l i)) Z7)+(1:Int)<=Za)
def Ag (f:D->Option D) (c:Int):En:=En.mk 0 none (Obj.map 30 f c false)
def Z4M (i:Int):List (Nat×P):=[(11,P.d (Zn i))]
def Dl (l:List aj):P:=P.d (D.int .i64 (↑(fC l):Int))
def cX (l:List aj):P:=P.d (D.sl 7 (cP l))
def Z4N (l:List aj) (i:Int):List (Nat×P):=(4,P.mp 1 0)::(9,cX l)::(10,Dl l)::Z4M i
def oF (out:List aj):P:=P.sl 0 0 (fu out)
def XE (e:Int) (g:aj):Prop:=e=if cx g=true then(0:Int) else(80:Int)
def XG (l:List aj) (i:Int) (g:aj):Prop:=[P.d (D.agg (Af l i))]=I7 g
noncomputable def ep (l:List aj) (i:Int):Bool:=cC PR (34:TypeId) (gQ l i)
def ji (i:Int) (l:List aj):Bool:=decide ((0:Int)<=i/\i<(↑(fC l):Int))
def oG (i:Int) (l:List aj):Bool:=decide (i<(↑(fC l):Int))
theorem RD (l out:List aj) (f:D->Option D) (c i:Int) (post:PX×S->Prop):(bif oG i l then bif ji i l then bif ep l i then∃(g:aj),XG l i g/\Zx/\Oj g/\ ∀(e:Int),XE e g->bif e !=(0:Int) then bif Zj i then post (PX.normal,S.mk 36 ((3,oF out)::Z4N l i) [Oq out,(1,Ag f c)]) else False else bif cC PR (3:TypeId) (cD (f (sW l i)) Z7) then bif Z4S f l i then bif cC PR (3:TypeId) (Z4T l i f) then bif D.ah (Z4T l i f)==(1:Int) then bif XD out l i then bif Zj i then post (PX.normal,S.mk 36 ((3,P.sl 0 0 (K0 out l i))::Z4N l i) [(0,XC out l i),(1,Z4Y l i f c)]) else False else False else bif Zj i then post (PX.normal,S.mk 36 ((3,oF out)::Z4N l i) [Oq out,(1,Z4Y l i f c)]) else False else False else False else False else False else False else post (PX.exit 0,S.mk 36 [(3,oF out)] (DZ out)))=(aD [(51,FZ)] [] 30 3 (cnH l out f c i)) post:=by kernel_rfl
def qcN:S->K (PX×S):=fun st post=> ∃l,st=cnH l [] (fun _=>none) 0 0/\nT l/\ ∀m,m=aH l->post (.exit 0,⟨36,[(3,.sl 0 0 m.length)],[(0,⟨0,none,oR false m⟩)]⟩)
def vN:bq:=fun ps R post=> ∃l,ps=[bP l]/\R=[]/\nT l/\ ∀m,m=aH l->post (.sl 0 0 m.length,[(0,⟨0,none,oR false m⟩)])
def M9:En:=En.mk 0 none (Obj.map 30 (fun(_:D)=>none) (0:Int) false)
def Ot:En:=En.mk 0 none (Obj.arr (34:TypeId) false [])
def Z50:List (Nat×P):=[(11,P.d Z7)]
def Z53 (l:List aj):S:=S.mk 36 ((3,ZQ)::(4,P.mp 1 0)::(9,cX l)::(10,Dl l)::Z50) [(0,Ot),(1,M9)]
theorem qfX (l:List aj) (post:P×List (Nat×En)->Prop):(∃(ar:List aj),Z53 l=Z53 ar/\nT ar/\ ∀(m:List aj),m=aH ar->post (oF m,DZ m))=(aJ [] [(3,ae (aL 30 3) qcN)] 30 [bP l] []) post:=by kernel_rfl
def yA (m:List aj) (s:az):Int:=ud (fun g=>g.s==s) m
def Ji:bq:=fun ps R post=> ∃m s,ps=[.sl 0 0 m.length,.d (bh s)]/\R=[(0,⟨0,some 0,oR false m⟩)]/\m.length<=1000000/\ ∀i,i=yA m s->post (iD i,[(0,⟨0,some 0,oR false m⟩)])
abbrev fdH (m:List aj) (s:az) (i:Int):S:=⟨20,[(0,.sl 0 0 m.length),(3,.ref 1 0 0),(5,iD i)],[(0,⟨0,some 0,oR false m⟩),(1,⟨0,none,.box 30 [iD s.1,iD s.2]⟩)]⟩
def Ah (s:az):En:=En.mk 0 none (Obj.box (30:TypeId) [P.d (km s),P.d (kj s)])
def Dm (m:List aj):Nat×En:=(0,En.mk 0 (some 0) (Obj.arr (34:TypeId) false (cP m)))
def iC:P:=P.ref 1 0 0
def r4:Nat×P:=(3,iC)
def RE (m:List aj):List (Nat×En):=[Dm m]
def nf (i:Int):Nat×P:=(4,P.d (Zt i))
def Ai (i:Int):List (Nat×P):=[nf i]
def tB (m:List aj):Nat×P:=(0,oF m)
def tC (i:Int) (m:List aj):Bool:=decide (Zg i<fC m)
def og (m:List aj):Int:=(↑(fu m):Int)
def vO (i:Int) (m:List aj):Bool:=decide ((0:Int)<=i/\i<og m)
def Jj (i:Int) (m:List aj):Bool:=decide (i<og m)
theorem qaQ (m:List aj) (s:az) (i:Int) (post:PX×S->Prop):(bif Jj i m then bif vO i m then bif tC i m then bif ep m i then bif D.ah (D.aq (gQ m i) 0)==Prod.fst s&&(D.ah (D.aq (gQ m i) 1)==Prod.snd s&&true) then post (PX.ret,S.mk 20 (tB m::Ai i) (RE m)) else bif Zj i then post (PX.normal,S.mk 20 (tB m::r4::Zo i) [Dm m,(1,Ah s)]) else False else False else False else False else post (PX.exit 0,S.mk 20 [tB m] (RE m)))=(aD [] [] 73 2 (fdH m s i)) post:=by kernel_rfl
def gFd:S->K (PX×S):=fun st post=> ∃m s,st=fdH m s 0/\m.length<=1000000/\(∀i,i=yA m s->0<=i->post (.ret,⟨20,[(0,.sl 0 0 m.length),(4,iD i)],[(0,⟨0,some 0,oR false m⟩)]⟩))/\(yA m s= -1->post (.exit 0,⟨20,[(0,.sl 0 0 m.length)],[(0,⟨0,some 0,oR false m⟩)]⟩))
def mx (bY:List aj):Prop:=fu bY<=1000000
def Z5g (m:List aj) (s:az):S:=S.mk 20 (tB m::r4::ZN) [Dm m,(1,Ah s)]
theorem qh9 (m:List aj) (s:az) (post:P×List (Nat×En)->Prop):(∃(bY:List aj) (iA:az),Z5g m s=Z5g bY iA/\mx bY/\(∀(i:Int),i=yA bY iA->(0:Int)<=i->post (P.d (Zt i),RE bY))/\(yA bY iA=(-1:Int)->post (QN,RE bY)))=(aJ [] [(2,ae (aL 73 2) gFd)] 73 [.sl 0 0 m.length,.d (bh s)] [(0,⟨0,some 0,oR false m⟩)]) post:=by kernel_rfl
abbrev XH (l out:List aj) (i:Int):S:=⟨35,[(0,bP l),(3,.sl 0 0 out.length),(4,iD i)],[(0,⟨0,none,oR false out⟩)]⟩
def gi (l:List aj):Nat×P:=(0,cX l)
def RG (l:List aj) (i:Int):List P:=[P.d (sW l i)]
theorem qaR (l out:List aj) (i:Int) (post:PX×S->Prop):(bif oG i l then bif ji i l then bif ep l i then∃(g:aj),XG l i g/\Zx/\Oj g/\ ∀(e:Int),XE e g->bif e==(0:Int) then bif ji i l then bif ep l i then∃(m:List aj) (s:az),oF out::RG l i=oF m::oP s/\RE out=RE m/\mx m/\ ∀(aG:Int),aG=yA m s->bif U8 aG then bif ji i l then bif ep l i then bif Nat.ble (fu out) (fC m)&&aN (K0 out l i) 88 then bif Zj i then post (PX.normal,S.mk 35 (gi l::(3,P.sl 0 0 (K0 out l i))::vi i) [(0,En.mk 0 none (Obj.arr (34:TypeId) false (List.take (fu out) (cP m)++[D.agg (Af l i)])))]) else False else False else False else False else bif Zj i then post (PX.normal,S.mk 35 (gi l::(3,oF out)::vi i) (DZ m)) else False else False else False else bif Zj i then post (PX.normal,S.mk 35 (gi l::(3,oF out)::vi i) (DZ out)) else False else False else False else post (PX.exit 0,S.mk 35 [(3,oF out)] (DZ out)))=(aD [(72,FZ),(73,Ji)] [] 40 3 (XH l out i)) post:=by kernel_rfl
def qcO:S->K (PX×S):=fun st post=> ∃l,st=XH l [] 0/\nT l/\ ∀m,m=aH l->post (.exit 0,⟨35,[(3,.sl 0 0 m.length)],[(0,⟨0,none,oR false m⟩)]⟩)
def Z5l:List (Nat×En):=[(0,Ot)]
def RH:List (Nat×P):=(3,ZQ)::M3
theorem qfY (l:List aj) (post:P×List (Nat×En)->Prop):(∃(ar:List aj),S.mk 35 (gi l::RH) Z5l=S.mk 35 (gi ar::RH) Z5l/\nT ar/\ ∀(m:List aj),m=aH ar->post (oF m,DZ m))=(aJ [] [(3,ae (aL 40 3) qcO)] 40 [bP l] []) post:=by kernel_rfl
theorem ak {p:Prop} {i:Decidable p} {A:Prop} (h1:p) (h2:A):cond (@decide p i) A False:=by
 rw[zaR h1]
 exact h2
theorem cA {p:Prop} {i:Decidable p} {A B:Prop} (h1:p->A) (h2: ¬p->B):cond (@decide p i) A B:=by
 by_cases h:p
 ·rw[zaR h]
  exact h1 h
 ·rw[zaL h]
  exact h2 h
theorem bJ {p:Prop} {i:Decidable p} {A B:Prop} (h1:p) (h2:A):cond (@decide p i) A B:=by
 rw[zaR h1]
 exact h2
theorem lK {p:Prop} {i:Decidable p} {A B:Prop} (h1: ¬p) (h2:B):cond (@decide p i) A B:=by
 rw[zaL h1]
 exact h2
theorem Bt {a b:Int} {A B:Prop} (h1:a=b->A) (h2:a≠b->B):cond (a==b) A B:=by
 by_cases h:a=b
 ·rw[show(a==b)=true by simpa using h]
  exact h1 h
 ·rw[show(a==b)=false by simpa using h]
  exact h2 h
theorem D0:PR.follows .mixedOrders=true:=by kernel_rfl
theorem Dn {o:List aj} {g:aj} (h:cx g=false):ko o g=o:=by
 unfold ko
 rw[zam]
 rw[h]
 simp
theorem yB {o:List aj} {g:aj} (h:(o.any fun x=>x.s==g.s)=true):ko o g=o:=by
 unfold ko
 rw[zam]
 rw[h]
 simp
theorem yC {o:List aj} {g:aj} (h:cx g=true) (h2:(o.any fun x=>x.s==g.s)=false):ko o g=o++[g]:=by
 unfold ko
 rw[zao ⟨h,h2⟩]
theorem pR {l:List aj} {i:Nat} (h:i<l.length):aH (l.take (i+1))=ko (aH (l.take i)) l[i]:=by
 rw[zag h,F7]
theorem cj {m n:Nat} (h:m<=1000000) (hn:n<=1000):aN (m+1) n=true:=cT (zaI (Nat.mul_le_mul (by omega:m+1<=1000001) hn) (by omega)) (by omega)
theorem cq {α:Type} (f:α->D) (l:List α) (x:α):List.take l.length (l.map f)++[f x]=(l++[x]).map f:=by
 rw[zai (by simp),zaB]
 rfl
def vP (U:List az) (o:List aj):Prop:= ∀x,x∈U↔(o.any fun y=>y.s==x)=true
theorem vP.nil:vP [] []:=fun x=>by simp
theorem vP.had {U:List az} {o:List aj} {x:az} (h:vP U o) (hx:x∈U):vP (x::U) o:=fun y=>by
 rw[zav,h y]
 constructor
 ·rintro(rfl |h2)
  ·exact(h _).1 hx
  ·exact h2
 ·exact .inr
theorem vP.new {U:List az} {o:List aj} {g:aj} (h:vP U o):vP (g.s::U) (o++[g]):=fun y=>by
 rw[zav,h y,zcf,za9]
 simp only[zda,List.any_nil,zbT,zaS]
 constructor
 ·rintro(rfl |h2)
  ·exact .inr rfl
  ·exact .inl h2
 ·rintro(h2 |rfl)
  ·exact .inr h2
  ·exact .inl rfl
theorem Aj (n:Int):cC PR 3 (.int .i64 n)=true:=by kernel_rfl
section
variable {X:XF}
theorem XI:LD X 30 3 (ae (aL 30 3) qcN):=LD.idx (H:=[(51,FZ)]) (hk:=[]) (by kernel_rfl) (by kernel_rfl) (.cons qaN .nil) .nil
 (A:=List aj) (B:=List aj×List az×Int) (fun l b i=>cnH l b.1 (cM b.2.1) b.2.2 i) (fun l=>l.length) (fun l i b=>nT l/\b.1=aH (l.take i)/\vP b.2.1 b.1/\b.2.1.length<=i)
 (fun l x=>x=(.exit 0,⟨36,[(3,.sl 0 0 (aH l).length)],[(0,⟨0,none,oR false (aH l)⟩)]⟩))
 (by
  rintro l ⟨o,U,c⟩ i post h0 bN bg ⟨hs,rfl,hU,Na⟩ hn ho
  try dsimp only at*
  (rw[<-RD];delta cP r3 Oq DZ Zg gQ oE oS sW Z7 Z4X Z4Y Ae Af fu XC K0 fC XD Z4T Za Z9 Z4S Ag Zn Z4M Dl cX Z4N oF Zj XE Zx jg jh iB gK iU gN oQ I7 XG ep ji oG)
  have e1:D.nth (l.map aU) i.toNat=aU l[i.toNat]:=ay _ _ _ bg
  rw[e1]
  simp only[cnH,zaa] at hn⊢
  have hsg:=hs.2 _ (zas bg)
  have sX:=pR bg
  have lX:=dI (l.take i.toNat)
  rw[zay] at lX
  generalize l[i.toNat]=g at sX hsg
  have qp:=hs.1
  have t1:D.agg [D.int .i64 (D.ah (D.aq (aU g) 0)),D.int .i64 (D.ah (D.aq (aU g) 1))]=bh g.s:=rfl
  have v1: ∀n:Int,D.ah (iE n)=n:=fun _=>rfl
  have g0:cD (cM U (bh g.s)) (.int .i64 0)=iE (U.count g.s:Int):=pQ U g.s
  have GU:=zbV (a:=g.s) (l:=U)
  have u2:=fun z=>Dk U g.s z
  have u3:=fun z=>Dj U g.s z
  have g1:cD (cM (g.s::U) (bh g.s)) (.int .i64 0)= .int .i64 ((U.count g.s:Int)+1):=by
   have:=pQ (g.s::U) g.s
   rw[zcb] at this
   exact this
  have zU:(U.count g.s:Int)=0↔ ¬g.s∈U:=by
   rw[<-zcR]
   omega
  have hcb:0<=(U.count g.s:Int)/\(U.count g.s:Int)<=1000000:=by have:=hs.1;omega
  generalize (U.count g.s:Int)=cn at g0 u2 u3 g1 zU hcb
  rw[t1,g0]
  simp only[v1]
  refine yu bN (bs ⟨h0,bN⟩ (ao (ft _) ⟨g,rfl,rfl,hsg,fun e he=>Bd (fun h1=>bs (by omega) (hn (aH (l.take i.toNat),U,c) ⟨hs,?_,hU,zcT Na⟩)) fun h1=> ?_⟩))
  ·rw[sX,Dn]
   cases hg:cx g with
   |false=>rfl
   |true=>rw[hg] at he;exact absurd he h1
  ·have hg:cx g=true:=by
    cases hg:cx g with
    |true=>rfl
    |false=>rw[hg,zam (by simp)] at he;omega
   have t2:D.agg [D.int .i64 (D.ah (D.aq (aU g) 0)),D.int .i64 (D.ah (D.aq (aU g) 1)),D.int .i64 (D.ah (D.aq (aU g) 2)),D.sl 1 (D.e8 (D.aq (aU g) 3)),D.int .i64 (D.ah (D.aq (aU g) 4)),D.int .i64 (D.ah (D.aq (aU g) 5)),D.sl 18 (D.e8 (D.aq (aU g) 6))]=aU g:=rfl
   refine ao (Aj _) (ak (by omega) ?_)
   rw[u2,g1,t2,u3]
   refine ao (Aj _) ?_
   simp only[v1,zap,zat,zaF]
   refine(Bt (fun h2=>ao ?_ (ak (by omega) ?_)) fun h2=>ak (by omega) (hn (aH (l.take i.toNat),g.s::U,_) ⟨hs,?_,hU.had ?_,zbY Na⟩))
   ·rw[zab]
    exact⟨by simp,cj (by omega) (by omega)⟩
   ·have hx: ¬g.s∈U:=zU.1 (by omega)
    have zY:((aH (l.take i.toNat)).any fun x=>x.s==g.s)=false:=by rw[<-zaV,<-hU g.s];exact hx
    have:=fun c':Int=>hn (aH (l.take i.toNat)++[g],g.s::U,c') ⟨hs,by rw[sX,yC hg zY],hU.new,zbY Na⟩
    rw[cq]
    simp only[zan,zap,zat,zaF] at this
    exact this _
   ·have hx:g.s∈U:=zaN fun h=>by have:=zU.2 h;omega
    rw[sX,yB ((hU g.s).1 hx)]
   ·exact zaN fun h=>by have:=zU.2 h;omega)
 (by
  rintro l ⟨o,U,c⟩ i post hi ⟨hs,rfl,hU,Na⟩ ho
  try dsimp only at*
  (rw[<-RD];delta cP r3 Oq DZ Zg gQ oE oS sW Z7 Z4X Z4Y Ae Af fu XC K0 fC XD Z4T Za Z9 Z4S Ag Zn Z4M Dl cX Z4N oF Zj XE Zx jg jh iB gK iU gN oQ I7 XG ep ji oG)
  simp only[zaa]
  refine bf (fun h=>by omega) fun h=>ho _ (fun h=>by cases h) ?_
  rw[zak])
 (by
  rintro s post ⟨l,rfl,hs,hp⟩
  refine⟨l,([],[],0),by rw[Di],⟨hs,rfl,vP.nil,by simp⟩,?_⟩
  rintro x rfl
  exact hp _ rfl)
theorem K1:FD X 30 vN:=FD.mk (H:=[]) (hk:=[(3,ae (aL 30 3) qcN)]) (by kernel_rfl) .nil (.cons XI .nil) (by
 intro ps R post hh
 obtain⟨l,rfl,rfl,hs,hp⟩:=hh
 (rw[<-qfX];delta cP r3 Oq DZ fu oF M9 Ot Z7 Z50 fC Dl cX ZQ Z53)
 exact⟨l,rfl,hs,fun m hm=>hp m hm⟩)
theorem qcP:LD X 73 2 (ae (aL 73 2) gFd):=LD.find (H:=[]) (hk:=[]) (by kernel_rfl) (by kernel_rfl) .nil .nil
 (A:=List aj×az) (fun a k=>fdH a.1 a.2 k) (fun a=>a.1) (fun a _ g=>g.s==a.2) (fun a=>a.1.length<=1000000)
 (fun a i=>(.ret,⟨20,[(0,.sl 0 0 a.1.length),(4,iD i)],[(0,⟨0,some 0,oR false a.1⟩)]⟩)) (fun a=>(.exit 0,⟨20,[(0,.sl 0 0 a.1.length)],[(0,⟨0,some 0,oR false a.1⟩)]⟩)) (fun _ _ h=>by cases h) (fun _ h=>by cases h)
 (by
  rintro⟨m,s⟩ i post hi hC h0 bN ht hn
  try dsimp only at*
  (rw[<-qaQ];delta kj km Ah cP Dm Zn Zo iC r4 Za Z9 Zj RE Zt nf Ai fu oF tB Zg gQ ep fC tC og vO Jj)
  have e1:D.nth (m.map aU) i.toNat=aU m[i.toNat]:=ay _ _ _ hi
  rw[e1]
  refine bJ bN (ak ⟨h0,bN⟩ (ak (by simpa using hi) (ao (ft _) ?_)))
  rw[show(D.ah (D.aq (aU m[i.toNat]) 0)==s.1&&(D.ah (D.aq (aU m[i.toNat]) 1)==s.2&&true))=(m[i.toNat].s==s) from MY m[i.toNat].s s]
  exact ax (fun h=>ht h) fun h=>ak (by omega) (hn h))
 (by
  rintro⟨m,s⟩ i post hC hi hp
  try dsimp only at*
  (rw[<-qaQ];delta kj km Ah cP Dm Zn Zo iC r4 Za Z9 Zj RE Zt nf Ai fu oF tB Zg gQ ep fC tC og vO Jj)
  exact cA (fun h=>by omega) fun h=>hp)
 (by
  rintro st post ⟨m,s,rfl,hl,h1,h2⟩
  refine⟨(m,s),rfl,hl,fun i hi h0 ht hb=>h1 i ?_ h0,fun h=>h2 ?_⟩
  ·rw[yA,FV hi ht hb]
   omega
  ·exact KP h)
theorem XJ:FD X 73 Ji:=FD.mk (H:=[]) (hk:=[(2,ae (aL 73 2) gFd)]) (by kernel_rfl) .nil (.cons qcP .nil) (by
 intro ps R post hh
 obtain⟨m,s,rfl,rfl,hm,hp⟩:=hh
 (rw[<-qh9];delta QN cP Dm RE Zt fu mx kj km Ah Z7 ZN iC r4 oF tB Z5g)
 exact⟨m,s,rfl,hm,fun i hi _=>hp i hi,fun h=>hp _ h.symm⟩)
theorem XK:LD X 40 3 (ae (aL 40 3) qcO):=LD.idx (H:=[(72,FZ),(73,Ji)]) (hk:=[]) (by kernel_rfl) (by kernel_rfl) (.cons qcM (.cons XJ .nil)) .nil
 (A:=List aj) (B:=List aj) (fun l o i=>XH l o i) (fun l=>l.length) (fun l i o=>nT l/\o=aH (l.take i))
 (fun l x=>x=(.exit 0,⟨35,[(3,.sl 0 0 (aH l).length)],[(0,⟨0,none,oR false (aH l)⟩)]⟩))
 (by
  rintro l o i post h0 bN bg ⟨hs,rfl⟩ hn ho
  try dsimp only at*
  (rw[<-qaR];delta cP r3 Oq DZ Zg gQ Ae oE oS Af Zn vi cX gi Za Z9 Zj fu K0 fC U8 mx Dm RE kj km r1 oP sW RG oF XE Zx jg jh iB gK iU gN oQ I7 XG ep ji oG)
  have e1:D.nth (l.map aU) i.toNat=aU l[i.toNat]:=ay _ _ _ bg
  rw[e1]
  simp only[zaa,zap,zat,zaF]
  have hsg:=hs.2 _ (zas bg)
  have sX:=pR bg
  have lX:=dI (l.take i.toNat)
  rw[zay] at lX
  generalize l[i.toNat]=g at sX hsg
  have qp:=hs.1
  have t2:D.agg [D.int .i64 (D.ah (D.aq (aU g) 0)),D.int .i64 (D.ah (D.aq (aU g) 1)),D.int .i64 (D.ah (D.aq (aU g) 2)),D.sl 1 (D.e8 (D.aq (aU g) 3)),D.int .i64 (D.ah (D.aq (aU g) 4)),D.int .i64 (D.ah (D.aq (aU g) 5)),D.sl 18 (D.e8 (D.aq (aU g) 6))]=aU g:=rfl
  refine bJ bN (ak ⟨h0,bN⟩ (ao (ft _) ⟨g,rfl,rfl,hsg,fun e he=>Bt (fun h1=>ak ⟨h0,bN⟩ (ao (ft _) ⟨aH (l.take i.toNat),g.s,rfl,rfl,by omega,fun k hk=>cA (fun h2=>ak ⟨h0,bN⟩ (ao (ft _) (ao ?_ (ak (by omega) ?_)))) fun h2=>ak (by omega) (hn _ ⟨hs,?_⟩)⟩)) fun h1=>ak (by omega) (hn _ ⟨hs,?_⟩)⟩))
  ·rw[zab]
   exact⟨by simp,cj (by omega) (by omega)⟩
  ·have hg:cx g=true:=by
    cases hg:cx g with
    |true=>rfl
    |false=>rw[hg,zam (by simp)] at he;omega
   have zY:((aH (l.take i.toNat)).any fun x=>x.s==g.s)=false:=(yq _ _).1 (by rw[hk] at h2;exact h2)
   have:=hn (aH (l.take i.toNat)++[g]) ⟨hs,by rw[sX,yC hg zY]⟩
   rw[t2,cq]
   simp only[XH,zan,zap,zat,zaF] at this
   exact this
  ·rw[sX,yB]
   rw[<-zct]
   intro h
   exact h2 (by rw[hk];exact(yq _ _).2 h)
  ·rw[sX,Dn]
   cases hg:cx g with
   |false=>rfl
   |true=>rw[hg,zao rfl] at he;exact absurd he h1)
 (by
  rintro l o i post hi ⟨hs,rfl⟩ ho
  try dsimp only at*
  (rw[<-qaR];delta cP r3 Oq DZ Zg gQ Ae oE oS Af Zn vi cX gi Za Z9 Zj fu K0 fC U8 mx Dm RE kj km r1 oP sW RG oF XE Zx jg jh iB gK iU gN oQ I7 XG ep ji oG)
  simp only[zaa]
  refine cA (fun h=>by omega) fun h=>ho _ (fun h=>by cases h) ?_
  rw[zak])
 (by
  rintro s post ⟨l,rfl,hs,hp⟩
  refine⟨l,[],rfl,⟨hs,rfl⟩,?_⟩
  rintro x rfl
  exact hp _ rfl)
theorem RI:FD X 40 vN:=FD.mk (H:=[]) (hk:=[(3,ae (aL 40 3) qcO)]) (by kernel_rfl) .nil (.cons XK .nil) (by
 intro ps R post hh
 obtain⟨l,rfl,rfl,hs,hp⟩:=hh
 (rw[<-qfY];delta cP r3 Oq DZ fu oF Ot Z5l Z7 M3 ZQ RH cX gi)
 exact⟨l,rfl,hs,fun m hm=>hp m hm⟩)
end
abbrev yD:=S×(PX×S)->K (PX×S×(PX×S))
noncomputable def K2 (H HN:List (FuncId×bq)) (f id:Nat):S->(PX×S->Prop)->Prop:=du PR (runK PR x9 qe H 60 60) HN (aL f) [] (qe f) (mK PR f id).asg
noncomputable def Dp (H HN:List (FuncId×bq)) (f id:Nat):S->(PX×S->Prop)->Prop:=du PR (runK PR x9 qe H 60 60) HN (aL f) [] (qe f) (mK PR f id).body
noncomputable def wB (H HN:List (FuncId×bq)) (hk:FuncId->Nat->List (Nat×yD)) (f id base:Nat) (keep:Option (List Nat×List Nat)) (s:S):K (PX×S):=
 Il PR (runK PR x9 qe H 60 60) (mK PR f id).ps.toList base keep (K2 H HN f id) (Dp H HN f id) hk qe (mK PR f id).g s
noncomputable def lY (H HN:List (FuncId×bq)) (f id base:Nat) (keep:Option (List Nat×List Nat)) (yt fi zn:Nat) (y:S×(PX×S)):K (PX×S×(PX×S)):=
 Wv (eF PR (runK PR x9 qe H 60 60) yt (kc (mK PR f id).ps.toList base keep (K2 H HN f id) (Dp H HN f id)) [] (qe fi) (bx PR fi zn)) (aL fi zn) y
def LY (w0:World) (f id yt fi zn:Nat) (h:yD):Prop:= ∀(B:nJ PR) (Ti:Tg),Setup B Ti yt w0 (mK PR f id).ps (mK PR f id).asg (mK PR f id).body-> ∀y post,h y post->qd B Ti (.loop (bx PR fi zn)) y.2 y.1 post
noncomputable def uq (f id:Nat):Bool:=(aR (mK PR f id).asg).isEmpty&&(aR (mK PR f id).body).isEmpty&&(bR (mK PR f id).asg).isEmpty&&(bR (mK PR f id).body).isEmpty&&b8 (qe f) (mK PR f id).asg&&b8 (qe f) (mK PR f id).body
theorem Gb {X:XF} {w0:World} (hX:dt PR w0 X.cf) {H HN:List (FuncId×bq)} (hdr:PR.follows .mixedOrders=true) (hH:HD X H) (oc:KX w0 HN) {f id:Nat} (vu:uq f id=true) (val:Nat->Value) (lo:Nat) (s:S) (post:PX×S->Prop) (hp:K2 H HN f id s post):
  TW PR ⟨val,w0,lo,false⟩ (mK PR f id).asg s post:=by
 simp only[uq,zab] at vu
 exact dX (kp:=Ir X) (T:=⟨val,w0,lo,false⟩) oc.get (yz hH) hX hdr (kp1:=aL f) _ vu.1.2 (fun d hd=>by rw[zbN.1 vu.1.1.1.1.1] at hd;cases hd) (fun x hx=>by rw[zbN.1 vu.1.1.1.2] at hx;cases hx) _ _ hp
theorem Bu {X:XF} {w0:World} (hX:dt PR w0 X.cf) {H HN:List (FuncId×bq)} (hdr:PR.follows .mixedOrders=true) (hH:HD X H) (oc:KX w0 HN) {f id:Nat} (vu:uq f id=true) (val:Nat->Value) (lo:Nat) (s:S) (post:PX×S->Prop) (hp:Dp H HN f id s post):
  TW PR ⟨val,w0,lo,false⟩ (mK PR f id).body s post:=by
 simp only[uq,zab] at vu
 exact dX (kp:=Ir X) (T:=⟨val,w0,lo,false⟩) oc.get (yz hH) hX hdr (kp1:=aL f) _ vu.2 (fun d hd=>by rw[zbN.1 vu.1.1.1.1.2] at hd;cases hd) (fun x hx=>by rw[zbN.1 vu.1.1.2] at hx;cases hx) _ _ hp
theorem FN.mk {X:XF} {w0:World} (hX:dt PR w0 X.cf) {H HN:List (FuncId×bq)} (hdr:PR.follows .mixedOrders=true) (hH:HD X H) (oc:KX w0 HN) {f id base:Nat} {keep:Option (List Nat×List Nat)} (vu:uq f id=true) {hk:FuncId->Nat->List (Nat×yD)}
  (hu: ∀fi yt h zn,lk (hk fi yt) zn=some h->uniq PR fi=true/\LY w0 f id yt fi zn h) {g:S->K (PX×S)} (hg: ∀s post,g s post->wB H HN hk f id base keep s post):FN w0 f id g:=by
 intro val lo s post hp
 refine TW.rangeFunc (kp:=Ir X) (T:=⟨val,w0,lo,true⟩) (yz hH) hX hdr rfl MH (fun v l s post hp=>Gb hX hdr hH oc vu v l s post hp) (fun v l s post hp=>Bu hX hdr hH oc vu v l s post hp) (hk:=hk) ?_ (hg s post hp)
 intro fi fn c fX hc d hd yt h hh B Ti hs y post hp
 obtain⟨h1,h2⟩:=hu fi yt h _ hh
 have e:bx PR fi (Code.rX d)=d:=by
  unfold uniq at h1
  rw[fX] at h1
  simp only[hc] at h1
  unfold bx
  rw[fX]
  simp only[hc,jt _ (dD _ h1) hd,zca]
 have:=h2 B Ti hs y post hp
 rwa [e] at this
theorem LY.par {X:XF} {w0:World} (hX:dt PR w0 X.cf) {H HN:List (FuncId×bq)} (hdr:PR.follows .mixedOrders=true) (hH:HD X H) (oc:KX w0 HN) {f id base:Nat} {keep:Option (List Nat×List Nat)} {yt fi zn:Nat} (vu:uq f id=true) (hc:b8 (qe fi) (bx PR fi zn)=true) (rZ:(aR (bx PR fi zn)).isEmpty=true) {g:yD}
  {A B:Type} (hd:A->B->S×(PX×S)) (Inv:A->B->Prop) (mu:A->B->Nat) (Out:A->PX×S×(PX×S)->Prop)
  (hr: ∀a b,Inv a b->lY H HN f id base keep yt fi zn (hd a b) (Io (mu a b) (fun m y=> ∃b',y=hd a b'/\Inv a b'/\m=mu a b') (Out a)))
  (hg: ∀y post,g y post-> ∃a b,y=hd a b/\Inv a b/\ ∀x,Out a x->post x):LY w0 f id yt fi zn (dY (aL fi zn) g):=by
 intro Be Ti hs y post hp
 unfold dY at hp
 cases hh:cr (aL fi zn) y.1 with
 |none=>simp only[hh] at hp
 |some s0=>
  simp only[hh] at hp
  obtain⟨a,b,h0,h1,h2⟩:=hg (s0,y.2) post hp
  refine qd.mono (qd.loop (keep:=aL fi zn) (I:=fun m s c=> ∃b',(s,c)=hd a b'/\Inv a b'/\m=mu a b') (O:=Out a) (hs.w0i.trans hs.w0b.symm) (fun n s c hI=> ?_) hh ⟨b,h0,h1,rfl⟩) h2
  obtain⟨b',h3,h4,rfl⟩:=hI
  have:=hr a b' h4
  rw[<-h3] at this
  unfold lY at this
  refine qd.mono (gH (B:=Be) (Ti:=Ti) (kp:=Ir X) (yz hH) (by rw[hs.w0i];exact hX) hdr (hs.w0i.trans hs.w0b.symm) hs.O1 hs.yv hs.lp (asg:=K2 H HN f id) (body:=Dp H HN f id) (base:=base) (keep:=keep)
   (fun v l s post hp=>by rw[hs.w0b,hs.asg];exact Gb hX hdr hH oc vu v l s post hp) (fun v l s post hp=>by rw[hs.w0b,hs.body];exact Bu hX hdr hH oc vu v l s post hp)
   (bx PR fi zn) hc (fun d hd=>by rw[zbN.1 rZ] at hd;cases hd) (s,c) _ (by rw[hs.ps];exact this)) ?_
  rintro⟨e,s1,c1⟩ hx
  cases e with
  |normal=>
   obtain⟨s2,h4,m,h5,h6⟩:=KW.dN (p:=fun s2=>cr (aL fi zn) s1=some s2) (fun _ h=>h) _ hx
   exact⟨s2,h4,m,h5,h6⟩
  |exit i=>
   obtain⟨s2,h4,h5⟩:=KW.dN (p:=fun s2=>dA (aL fi zn) s1=some s2) (fun _ h=>h) _ hx
   exact⟨s2,h4,h5⟩
  |ret=>
   obtain⟨s2,h4,h5⟩:=KW.dN (p:=fun s2=>dA (aL fi zn) s1=some s2) (fun _ h=>h) _ hx
   exact⟨s2,h4,h5⟩
variable {X:XF}
theorem LN.idx {w0:World} (hX:dt PR w0 X.cf) {H HN:List (FuncId×bq)} {hk:List (Nat×(S->K (PX×S)))} {f id:Nat} {g:S->K (PX×S)} (hdr:PR.follows .mixedOrders=true) (hu:uniq PR f=true) (hc:b8 (qe f) (bx PR f id)=true) (hnr:(bR (bx PR f id)).isEmpty=true) (hH:HD X H) (oc:KX w0 HN) (hl:XA w0 f hk)
  {A B:Type} (hd:A->B->Int->S) (len:A->Nat) (Inv:A->Nat->B->Prop) (Out:A->PX×S->Prop)
  (hr: ∀a b (k:Int) post,0<=k->k<len a->k.toNat<len a->Inv a k.toNat b->(∀b',Inv a (k.toNat+1) b'->post (.normal,hd a b' (k+1)))->(∀x,x.1≠ .normal->Out a x->post x)->eX H HN hk f id (hd a b k) post)
  (hx: ∀a b (k:Int) post,k=len a->Inv a (len a) b->(∀x,x.1≠ .normal->Out a x->post x)->eX H HN hk f id (hd a b k) post)
  (hg: ∀s post,g s post-> ∃a b,s=hd a b 0/\Inv a 0 b/\ ∀x,Out a x->post x):LN w0 f id (ae (aL f id) g):=
 LN.par hX hdr hu hc hnr hH oc hl (A:=A) (B:=B×Int) (fun a b=>hd a b.1 b.2) (fun a b=>0<=b.2/\b.2.toNat<=len a/\Inv a b.2.toNat b.1) (fun a b=>(len a-b.2).toNat) Out
  (by
   rintro a ⟨b,k⟩ ⟨h1,h2,h3⟩
   dsimp only at*
   have br: ∀x:PX×S,x.1≠ .normal->Out a x->roundPost ((len a-k).toNat) (fun m s=> ∃b':B×Int,s=hd a b'.1 b'.2/\(0<=b'.2/\b'.2.toNat<=len a/\Inv a b'.2.toNat b'.1)/\m=(len a-b'.2).toNat) (Out a) x:=by
    rintro⟨e,s⟩ dG hx
    cases e with
    |normal=>exact absurd rfl dG
    |exit i=>exact hx
    |ret=>exact hx
   by_cases hk:k<len a
   ·refine hr a b k _ h1 hk (by omega) h3 (fun b' hb=> ?_) br
    exact⟨((len a:Int)-(k+1)).toNat,by omega,(b',k+1),rfl,⟨by show 0<=k+1;omega,by show(k+1).toNat<=len a;omega,by show Inv a (k+1).toNat b';rw[show(k+1).toNat=k.toNat+1 by omega];exact hb⟩,rfl⟩
   ·have e:k=len a:=by omega
    refine hx a b k _ e ?_ br
    have:k.toNat=len a:=by omega
    rwa [this] at h3)
  (by
   intro s post hp
   obtain⟨a,b,h1,h2,h3⟩:=hg s post hp
   exact⟨a,(b,0),h1,⟨zby _,by simp,h2⟩,h3⟩)
theorem yE {α:Type} (lt:α->α->Bool) (l:List α) (a:α):cc lt (l++[a])=cJ lt (cc lt l) a:=by simp[cc]
theorem ln {α:Type} (lt:α->α->Bool) (o:List α) (a:α):(cJ lt o a).length=o.length+1:=by
 rw[(gJ o a).length_eq]
 simp
theorem mR {α:Type} (lt:α->α->Bool) (l:List α):(cc lt l).length=l.length:=(cw l).length_eq
def vn {α:Type} (o:List α) (k:Nat) (x y:α):List α:=(o.set k y).set (k-1) x
theorem Nb {α:Type} (o:List α) (k:Nat) (x y:α):(vn o k x y).length=o.length:=by simp[vn]
theorem kB {α:Type} (f:α->D) (o:List α) (k:Nat) (x y:α):(((o.map f).set k (f y)).set (k-1) (f x))=(vn o k x y).map f:=by
 simp[vn,zb0]
theorem RJ {α:Type} (pre nU:List α) (x y:α):vn (pre++[y]++x::nU) (pre.length+1) x y=pre++x::(y::nU):=by
 unfold vn
 have e:pre++[y]++x::nU=(pre++[y])++x::nU:=rfl
 rw[show(pre++[y]++x::nU).set (pre.length+1) y=pre++[y]++y::nU by
  rw[zcE _ _ (by simp)]
  simp]
 rw[zaY,zcE _ _ (by simp)]
 simp
variable {X:XF}
theorem LD.ins {H:List (FuncId×bq)} {hk:List (Nat×(S->K (PX×S)))} {f id:Nat} {g:S->K (PX×S)} (hu:uniq PR f=true) (hc:b8 (qe f) (bx PR f id)=true) (hH:HD X H) (hl:Qt X f hk)
  {A α:Type} (hd:A->List α->Int->S) (lt:α->α->Bool) (N:A->Nat) (C:A->Prop) (ex:A->List α->PX×S) (dG: ∀a o,(ex a o).1≠ .normal)
  (hr: ∀a o (k:Int) post,C a->0<=k->o.length=N a->N a<=1000001->(dO:k.toNat<o.length)->(k=0->post (ex a o))->(0<k->lt o[k.toNat] (o[k.toNat-1]'(by omega))=false->post (ex a o))->
   (0<k->lt o[k.toNat] (o[k.toNat-1]'(by omega))=true->post (.normal,hd a (vn o k.toNat o[k.toNat] (o[k.toNat-1]'(by omega))) (k-1)))->aD H hk f id (hd a o k) post)
  (hg: ∀s post,g s post-> ∃(a:A) (o:List α) (x:α) (k:Int),s=hd a (o++[x]) k/\k=o.length/\C a/\(o.length+1=N a/\o.length<=1000000)/\post (ex a (cJ lt o x))):LD X f id (ae (aL f id) g):=
 LD.par hu hc hH hl (A:=A×List α×α) (B:=List α×List α×Int) (fun a b=>hd a.1 (b.1++a.2.2::b.2.1) b.2.2)
  (fun a b=>(C a.1/\b.1.length+b.2.1.length+1=N a.1)/\b.2.2=b.1.length/\b.1.length+b.2.1.length<=1000000/\(nQ lt a.2.2 b.1.reverse).reverse++b.2.1=cJ lt a.2.1 a.2.2) (fun _ b=>b.1.length) (fun a x=>x=ex a.1 (cJ lt a.2.1 a.2.2))
  (by
   rintro⟨a,o,x⟩ ⟨pre,nU,k⟩ ⟨⟨h1,hN⟩,h2,h3,h4⟩
   dsimp only at*
   have br: ∀y,y=ex a (cJ lt o x)->roundPost pre.length (fun m s=> ∃b':List α×List α×Int,s=hd a (b'.1++x::b'.2.1) b'.2.2/\((C a/\b'.1.length+b'.2.1.length+1=N a)/\b'.2.2=b'.1.length/\b'.1.length+b'.2.1.length<=1000000/\(nQ lt x b'.1.reverse).reverse++b'.2.1=cJ lt o x)/\m=b'.1.length) (fun y=>y=ex a (cJ lt o x)) y:=by
    rintro⟨e,s⟩ he
    have hn:=dG a (cJ lt o x)
    rw[<-he] at hn
    cases e with
    |normal=>exact absurd rfl hn
    |exit i=>exact he
    |ret=>exact he
   have dO:k.toNat=pre.length:=by omega
   have hlen:(pre++x::nU).length=pre.length+nU.length+1:=by simp;omega
   have hx:(pre++x::nU)[k.toNat]'(by omega)=x:=by simp[dO]
   refine hr a (pre++x::nU) k _ h1 (by omega) (by omega) (by omega) (by omega) (fun hz=>br _ ?_) (fun hp bG=>br _ ?_) fun hp bG=> ?_
   ·have:pre=[]:=zax (by omega)
    subst this
    rw[<-h4]
    simp[nQ]
   ·obtain⟨p,y,rfl⟩: ∃p y,pre=p++[y]:=by
     rcases zcF pre with h | ⟨p,y,h⟩
     ·subst h;simp at h2;omega
     ·exact⟨p,y,by simpa using h⟩
    have hy:(p++[y]++x::nU)[k.toNat-1]'(by omega)=y:=by
     simp[dO]
    rw[hx,hy] at bG
    rw[<-h4]
    simp[nQ,bG]
   ·obtain⟨p,y,rfl⟩: ∃p y,pre=p++[y]:=by
     rcases zcF pre with h | ⟨p,y,h⟩
     ·subst h;simp at h2;omega
     ·exact⟨p,y,by simpa using h⟩
    have hy:(p++[y]++x::nU)[k.toNat-1]'(by omega)=y:=by
     simp[dO]
    have hsw:vn (p++[y]++x::nU) k.toNat x y=p++x::(y::nU):=by
     rw[dO,zan]
     exact RJ p nU x y
    have Fq:(p++[y]).length=p.length+1:=by simp
    rw[hx,hy] at bG⊢
    refine⟨p.length,by omega,(p,y::nU,k-1),by rw[hsw],⟨⟨h1,by show p.length+(y::nU).length+1=N a;simp only[zap];omega⟩,by show k-1=(p.length:Int);omega,by show p.length+(y::nU).length<=1000000;simp only[zap];omega,?_⟩,rfl⟩
    show(nQ lt x p.reverse).reverse++y::nU=cJ lt o x
    rw[<-h4]
    simp[nQ,bG])
  (by
   intro s post hp
   obtain⟨a,o,x,k,h1,h2,h3,⟨h6,h4⟩,h5⟩:=hg s post hp
   refine⟨(a,o,x),(o,[],k),h1,⟨⟨h3,by simpa using h6⟩,h2,by simpa using h4,by simp[cJ]⟩,?_⟩
   rintro y rfl
   exact h5)
end Pi
