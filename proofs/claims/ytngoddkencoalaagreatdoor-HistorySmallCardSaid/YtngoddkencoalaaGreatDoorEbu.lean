/- The texts X3Shelf XBld K3 X3 S3 StPure St1 St1H StV2 StV2H StV3H StV4 StV4H St5 St5H StTextP St7 St7H PathP StL2H P1 P1H P3 P3H A2 A2H A3 A4 A4H B1 B2H T1 T1H T2 T2H T3 TrA TrB WiP WiU Wi0 Wi0H LdP Wi1 Wi1H Wi2 Wi2H Wi3 Wi3H Wi4 Wi4H EfP HiP SN SoP Hi1 QP Hi1H SR LnP InsP Ef1 Ef1H. -/
import Derived.Test.YtngoddkencoalaaGreatDoorPiYr
import Derived.Shelf.SlLaysF0
import Derived.Shelf.LaysM
import Derived.Shelf.LaysC
import Derived.Shelf.Strings.OnBuilder
import Derived.Shelf.Strings.SlTrimAscii
import Derived.Shelf.Small.Wraps
import Derived.Shelf.Strconv.AtoiAll
import Derived.Shelf.Strconv.Itoa3
import Derived.Shelf.Strings.Cut
import Derived.Shelf.Strings.Split
import Derived.Shelf.Strings.LastIndexAll
import Derived.Shelf.Unicode.ValidAny
import Derived.Shelf.Utf8.RuneCount
import Derived.Test.YtngoddkencoalaaGreatDoorProg
import Derived.Ground.SlsfProg
import Derived.KernelRfl
import Derived.Lib.SplitLaws
import Derived.Lib.SlTrimSet
import Derived.Lib.ValidLaws
import Derived.Lib.RuneCountTail
import Derived.Lib.MapLaws
namespace Go.Proofs
open Go.Shelf
def Tryz.Gh:Go.Shelf.Ren:=⟨λ|160=>146 |232=>170 |231=>169 |227=>171 |234=>173 |233=>172 |236=>175 |235=>174 |228=>182 |271=>185 |151=>184 |197=>183 |120=>190 |152=>189 |260=>188 |137=>191 |119=>192 |224=>193 |225=>194 |217=>195 |266=>196 |n=>n,λ|9=>9 |4=>4 |3=>3 |5=>5 |117=>237 |116=>236 |0=>0 |124=>240 |21=>21 |105=>253 |46=>172 |119=>242 |139=>245 |138=>244 |n=>n,λ|3=>0 |4=>1 |n=>n⟩
theorem Tryz.Lg:Go.Proofs.Lays.n160 Tryz.prog Tryz.Gh:={
 mixed:=by kernel_rfl
 f119:=Tryz.func192.trans (congrArg some (by kernel_rfl))
 f120:=Tryz.func190.trans (congrArg some (by kernel_rfl))
 f137:=Tryz.func191.trans (congrArg some (by kernel_rfl))
 f151:=Tryz.func184.trans (congrArg some (by kernel_rfl))
 f152:=Tryz.func189.trans (congrArg some (by kernel_rfl))
 f160:=Tryz.func146.trans (congrArg some (by kernel_rfl))
 f197:=Tryz.func183.trans (congrArg some (by kernel_rfl))
 f217:=Tryz.func195.trans (congrArg some (by kernel_rfl))
 f224:=Tryz.func193.trans (congrArg some (by kernel_rfl))
 f225:=Tryz.func194.trans (congrArg some (by kernel_rfl))
 f227:=Tryz.func171.trans (congrArg some (by kernel_rfl))
 f228:=Tryz.func182.trans (congrArg some (by kernel_rfl))
 f231:=Tryz.func169.trans (congrArg some (by kernel_rfl))
 f232:=Tryz.func170.trans (congrArg some (by kernel_rfl))
 f233:=Tryz.func172.trans (congrArg some (by kernel_rfl))
 f234:=Tryz.func173.trans (congrArg some (by kernel_rfl))
 f235:=Tryz.func174.trans (congrArg some (by kernel_rfl))
 f236:=Tryz.func175.trans (congrArg some (by kernel_rfl))
 f260:=Tryz.func188.trans (congrArg some (by kernel_rfl))
 f266:=Tryz.func196.trans (congrArg some (by kernel_rfl))
 f271:=Tryz.func185.trans (congrArg some (by kernel_rfl))
 t0:=Tryz.underlying0
 a0:=Tryz.isAgg0
 z0:=Tryz.sizeOf0
 v0:=Tryz.zeroValue0
 t3:=Tryz.underlying3
 a3:=Tryz.isAgg3
 z3:=Tryz.sizeOf3
 v3:=Tryz.zeroValue3
 t4:=Tryz.underlying4
 a4:=Tryz.isAgg4
 z4:=Tryz.sizeOf4
 v4:=Tryz.zeroValue4
 t5:=Tryz.underlying5
 a5:=Tryz.isAgg5
 z5:=Tryz.sizeOf5
 v5:=Tryz.zeroValue5
 t9:=Tryz.underlying9
 a9:=Tryz.isAgg9
 z9:=Tryz.sizeOf9
 v9:=Tryz.zeroValue9
 t21:=Tryz.underlying21
 a21:=Tryz.isAgg21
 z21:=Tryz.sizeOf21
 v21:=Tryz.zeroValue21
 t46:=Tryz.underlying172
 a46:=Tryz.isAgg172
 z46:=Tryz.sizeOf172
 v46:=Tryz.zeroValue172
 t105:=Tryz.underlying253
 a105:=Tryz.isAgg253
 z105:=Tryz.sizeOf253
 v105:=Tryz.zeroValue253
 t116:=Tryz.underlying236
 a116:=Tryz.isAgg236
 z116:=Tryz.sizeOf236
 t117:=Tryz.underlying237
 a117:=Tryz.isAgg237
 z117:=Tryz.sizeOf237
 v117:=Tryz.zeroValue237
 t119:=Tryz.underlying242
 a119:=Tryz.isAgg242
 z119:=Tryz.sizeOf242
 t124:=Tryz.underlying240
 a124:=Tryz.isAgg240
 z124:=Tryz.sizeOf240
 v124:=Tryz.zeroValue240
 t138:=Tryz.underlying244
 a138:=Tryz.isAgg244
 z138:=Tryz.sizeOf244
 v138:=Tryz.zeroValue244
 t139:=Tryz.underlying245
 a139:=Tryz.isAgg245
 z139:=Tryz.sizeOf245
 v139:=Tryz.zeroValue245
 g3:=by kernel_rfl
 g4:=by kernel_rfl}
open Go.RowKit in
theorem Tryz.strings_Trim_one(s:ByteArray)(c:UInt8)(hc:c.toNat<128)(w:World)(hs:s.size<=9223372036854775807):
 Calls Tryz.prog 146 #[.string s,.string ⟨#[c]⟩] w λe w'=>e= .returned (.string ⟨(Lib.trimB s.data.toList c).toArray⟩)/\(w'=w\/w'=w.drew):=Any.strings_Trim_one Tryz.Lg s c hc w hs
def Tryz.Gj:Go.Shelf.Ren:=⟨λ|195=>149 |n=>n,λ|9=>9 |3=>3 |0=>0 |4=>4 |n=>n,λ|n=>n⟩
theorem Tryz.Xt:Go.Proofs.Lays.n195 Tryz.prog Tryz.Gj:={
 mixed:=by kernel_rfl
 f195:=Tryz.func149.trans (congrArg some (by kernel_rfl))
 t0:=Tryz.underlying0
 a0:=Tryz.isAgg0
 z0:=Tryz.sizeOf0
 v0:=Tryz.zeroValue0
 t3:=Tryz.underlying3
 a3:=Tryz.isAgg3
 z3:=Tryz.sizeOf3
 v3:=Tryz.zeroValue3
 t4:=Tryz.underlying4
 a4:=Tryz.isAgg4
 z4:=Tryz.sizeOf4
 v4:=Tryz.zeroValue4
 t9:=Tryz.underlying9
 a9:=Tryz.isAgg9
 z9:=Tryz.sizeOf9
 v9:=Tryz.zeroValue9}
open Go.RowKit in
theorem Tryz.utf8_RuneCountInString(s:ByteArray)(w:World)(hs:s.size<9223372036854775807):
 Calls Tryz.prog 149 #[.string s] w λe w'=>e= .returned (.int .i64 (Lib.runeCount s))/\ ∃pos,w'=w.iter s pos:=Any.utf8_RuneCountInString Tryz.Xt s w hs
def Tryz.Gk:Go.Shelf.Ren:=⟨λ|196=>148 |259=>176 |n=>n,λ|9=>9 |4=>4 |3=>3 |5=>5 |12=>12 |119=>242 |0=>0 |46=>172 |139=>245 |138=>244 |53=>204 |n=>n,λ|3=>0 |4=>1 |n=>n⟩
theorem Tryz.Xu:Go.Proofs.Lays.n196 Tryz.prog Tryz.Gk:={
 mixed:=by kernel_rfl
 f196:=Tryz.func148.trans (congrArg some (by kernel_rfl))
 f259:=Tryz.func176.trans (congrArg some (by kernel_rfl))
 t0:=Tryz.underlying0
 a0:=Tryz.isAgg0
 z0:=Tryz.sizeOf0
 v0:=Tryz.zeroValue0
 t3:=Tryz.underlying3
 a3:=Tryz.isAgg3
 z3:=Tryz.sizeOf3
 v3:=Tryz.zeroValue3
 t4:=Tryz.underlying4
 a4:=Tryz.isAgg4
 z4:=Tryz.sizeOf4
 v4:=Tryz.zeroValue4
 t5:=Tryz.underlying5
 a5:=Tryz.isAgg5
 z5:=Tryz.sizeOf5
 v5:=Tryz.zeroValue5
 t9:=Tryz.underlying9
 a9:=Tryz.isAgg9
 z9:=Tryz.sizeOf9
 v9:=Tryz.zeroValue9
 t12:=Tryz.underlying12
 a12:=Tryz.isAgg12
 z12:=Tryz.sizeOf12
 v12:=Tryz.zeroValue12
 t46:=Tryz.underlying172
 a46:=Tryz.isAgg172
 z46:=Tryz.sizeOf172
 v46:=Tryz.zeroValue172
 t53:=Tryz.underlying204
 a53:=Tryz.isAgg204
 z53:=Tryz.sizeOf204
 v53:=Tryz.zeroValue204
 t119:=Tryz.underlying242
 a119:=Tryz.isAgg242
 z119:=Tryz.sizeOf242
 t138:=Tryz.underlying244
 a138:=Tryz.isAgg244
 z138:=Tryz.sizeOf244
 v138:=Tryz.zeroValue244
 t139:=Tryz.underlying245
 a139:=Tryz.isAgg245
 z139:=Tryz.sizeOf245
 v139:=Tryz.zeroValue245
 g3:=by kernel_rfl
 g4:=by kernel_rfl}
open Go.RowKit in
theorem Tryz.utf8_ValidString(s:ByteArray)(w:World)(hs:s.size<=9223372036854775807)(hT:Lib.Utf8Tabs 0 1 w):
 Calls Tryz.prog 148 #[.string s] w λe w'=>e= .returned (.bool (Lib.validD s.data.toList))/\Below w.heap.size w w':=Any.utf8_ValidString Tryz.Xu s w hs hT
def Tryz.yW:Go.Shelf.Ren:=⟨λ|6=>64 |15=>98 |14=>97 |28=>133 |29=>134 |20=>125 |21=>126 |22=>127 |23=>128 |24=>129 |25=>130 |26=>131 |27=>132 |46=>154 |47=>155 |48=>156 |49=>157 |50=>158 |57=>178 |n=>n,λ|22=>22 |24=>34 |25=>126 |3=>3 |39=>172 |0=>0 |53=>202 |55=>204 |4=>4 |46=>195 |45=>194 |50=>199 |5=>5 |9=>9 |66=>221 |70=>225 |76=>247 |77=>248 |n=>n,λ|n=>n⟩
theorem Tryz.qcM:Go.Proofs.SlLaysF0.n6 Tryz.prog Tryz.yW:={
 mixed:=by kernel_rfl
 f6:=⟨Tryz.f64.name,by decide,Tryz.func64.trans (congrArg some (by kernel_rfl))⟩
 f14:=⟨Tryz.f97.name,by decide,Tryz.func97.trans (congrArg some (by kernel_rfl))⟩
 f15:=Tryz.func98.trans (congrArg some (by kernel_rfl))
 f20:=⟨Tryz.f125.name,by decide,Tryz.func125.trans (congrArg some (by kernel_rfl))⟩
 f21:=⟨Tryz.f126.name,by decide,Tryz.func126.trans (congrArg some (by kernel_rfl))⟩
 f22:=⟨Tryz.f127.name,by decide,Tryz.func127.trans (congrArg some (by kernel_rfl))⟩
 f23:=⟨Tryz.f128.name,by decide,Tryz.func128.trans (congrArg some (by kernel_rfl))⟩
 f24:=⟨Tryz.f129.name,by decide,Tryz.func129.trans (congrArg some (by kernel_rfl))⟩
 f25:=⟨Tryz.f130.name,by decide,Tryz.func130.trans (congrArg some (by kernel_rfl))⟩
 f26:=⟨Tryz.f131.name,by decide,Tryz.func131.trans (congrArg some (by kernel_rfl))⟩
 f27:=⟨Tryz.f132.name,by decide,Tryz.func132.trans (congrArg some (by kernel_rfl))⟩
 f28:=Tryz.func133.trans (congrArg some (by kernel_rfl))
 f29:=Tryz.func134.trans (congrArg some (by kernel_rfl))
 f46:=⟨Tryz.f154.name,by decide,Tryz.func154.trans (congrArg some (by kernel_rfl))⟩
 f47:=Tryz.func155.trans (congrArg some (by kernel_rfl))
 f48:=Tryz.func156.trans (congrArg some (by kernel_rfl))
 f49:=⟨Tryz.f157.name,by decide,Tryz.func157.trans (congrArg some (by kernel_rfl))⟩
 f50:=⟨Tryz.f158.name,by decide,Tryz.func158.trans (congrArg some (by kernel_rfl))⟩
 f57:=⟨Tryz.f178.name,by decide,Tryz.func178.trans (congrArg some (by kernel_rfl))⟩
 t0:=Tryz.underlying0
 a0:=Tryz.isAgg0
 z0:=Tryz.sizeOf0
 v0:=Tryz.zeroValue0
 t3:=Tryz.underlying3
 a3:=Tryz.isAgg3
 z3:=Tryz.sizeOf3
 v3:=Tryz.zeroValue3
 t4:=Tryz.underlying4
 a4:=Tryz.isAgg4
 z4:=Tryz.sizeOf4
 v4:=Tryz.zeroValue4
 t5:=Tryz.underlying5
 a5:=Tryz.isAgg5
 z5:=Tryz.sizeOf5
 v5:=Tryz.zeroValue5
 t9:=Tryz.underlying9
 a9:=Tryz.isAgg9
 z9:=Tryz.sizeOf9
 v9:=Tryz.zeroValue9
 t22:=Tryz.underlying22
 a22:=Tryz.isAgg22
 z22:=Tryz.sizeOf22
 v22:=Tryz.zeroValue22
 t25:=Tryz.underlying126
 a25:=Tryz.isAgg126
 z25:=Tryz.sizeOf126
 v25:=Tryz.zeroValue126
 t39:=Tryz.underlying172
 a39:=Tryz.isAgg172
 z39:=Tryz.sizeOf172
 v39:=Tryz.zeroValue172
 t45:=Tryz.underlying194
 a45:=Tryz.isAgg194
 z45:=Tryz.sizeOf194
 v45:=Tryz.zeroValue194
 t46:=Tryz.underlying195
 a46:=Tryz.isAgg195
 z46:=Tryz.sizeOf195
 v46:=Tryz.zeroValue195
 t50:=Tryz.underlying199
 a50:=Tryz.isAgg199
 z50:=Tryz.sizeOf199
 v50:=Tryz.zeroValue199
 t53:=Tryz.underlying202
 a53:=Tryz.isAgg202
 z53:=Tryz.sizeOf202
 v53:=Tryz.zeroValue202
 t55:=Tryz.underlying204
 a55:=Tryz.isAgg204
 z55:=Tryz.sizeOf204
 v55:=Tryz.zeroValue204
 t66:=Tryz.underlying221
 a66:=Tryz.isAgg221
 z66:=Tryz.sizeOf221
 v66:=Tryz.zeroValue221
 t70:=Tryz.underlying225
 a70:=Tryz.isAgg225
 z70:=Tryz.sizeOf225
 v70:=Tryz.zeroValue225
 t76:=Tryz.underlying247
 a76:=Tryz.isAgg247
 z76:=Tryz.sizeOf247
 v76:=Tryz.zeroValue247
 t77:=Tryz.underlying248
 a77:=Tryz.isAgg248
 z77:=Tryz.sizeOf248
 v77:=Tryz.zeroValue248}
def Tryz.wq:Go.Shelf.Ren:=⟨λ|6=>102 |15=>98 |14=>136 |28=>133 |29=>134 |20=>159 |21=>160 |22=>161 |23=>162 |24=>163 |25=>164 |26=>165 |27=>166 |46=>179 |47=>155 |48=>156 |49=>180 |50=>181 |57=>187 |n=>n,λ|22=>128 |24=>132 |25=>176 |3=>3 |39=>172 |0=>0 |53=>202 |55=>204 |4=>4 |46=>195 |45=>194 |50=>199 |5=>5 |9=>9 |66=>221 |70=>225 |76=>247 |77=>248 |n=>n,λ|n=>n⟩
theorem Tryz.Xv:Go.Proofs.SlLaysF0.n6 Tryz.prog Tryz.wq:={
 mixed:=by kernel_rfl
 f6:=⟨Tryz.f102.name,by decide,Tryz.func102.trans (congrArg some (by kernel_rfl))⟩
 f14:=⟨Tryz.f136.name,by decide,Tryz.func136.trans (congrArg some (by kernel_rfl))⟩
 f15:=Tryz.func98.trans (congrArg some (by kernel_rfl))
 f20:=⟨Tryz.f159.name,by decide,Tryz.func159.trans (congrArg some (by kernel_rfl))⟩
 f21:=⟨Tryz.f160.name,by decide,Tryz.func160.trans (congrArg some (by kernel_rfl))⟩
 f22:=⟨Tryz.f161.name,by decide,Tryz.func161.trans (congrArg some (by kernel_rfl))⟩
 f23:=⟨Tryz.f162.name,by decide,Tryz.func162.trans (congrArg some (by kernel_rfl))⟩
 f24:=⟨Tryz.f163.name,by decide,Tryz.func163.trans (congrArg some (by kernel_rfl))⟩
 f25:=⟨Tryz.f164.name,by decide,Tryz.func164.trans (congrArg some (by kernel_rfl))⟩
 f26:=⟨Tryz.f165.name,by decide,Tryz.func165.trans (congrArg some (by kernel_rfl))⟩
 f27:=⟨Tryz.f166.name,by decide,Tryz.func166.trans (congrArg some (by kernel_rfl))⟩
 f28:=Tryz.func133.trans (congrArg some (by kernel_rfl))
 f29:=Tryz.func134.trans (congrArg some (by kernel_rfl))
 f46:=⟨Tryz.f179.name,by decide,Tryz.func179.trans (congrArg some (by kernel_rfl))⟩
 f47:=Tryz.func155.trans (congrArg some (by kernel_rfl))
 f48:=Tryz.func156.trans (congrArg some (by kernel_rfl))
 f49:=⟨Tryz.f180.name,by decide,Tryz.func180.trans (congrArg some (by kernel_rfl))⟩
 f50:=⟨Tryz.f181.name,by decide,Tryz.func181.trans (congrArg some (by kernel_rfl))⟩
 f57:=⟨Tryz.f187.name,by decide,Tryz.func187.trans (congrArg some (by kernel_rfl))⟩
 t0:=Tryz.underlying0
 a0:=Tryz.isAgg0
 z0:=Tryz.sizeOf0
 v0:=Tryz.zeroValue0
 t3:=Tryz.underlying3
 a3:=Tryz.isAgg3
 z3:=Tryz.sizeOf3
 v3:=Tryz.zeroValue3
 t4:=Tryz.underlying4
 a4:=Tryz.isAgg4
 z4:=Tryz.sizeOf4
 v4:=Tryz.zeroValue4
 t5:=Tryz.underlying5
 a5:=Tryz.isAgg5
 z5:=Tryz.sizeOf5
 v5:=Tryz.zeroValue5
 t9:=Tryz.underlying9
 a9:=Tryz.isAgg9
 z9:=Tryz.sizeOf9
 v9:=Tryz.zeroValue9
 t22:=Tryz.underlying128
 a22:=Tryz.isAgg128
 z22:=Tryz.sizeOf128
 v22:=Tryz.zeroValue128
 t25:=Tryz.underlying176
 a25:=Tryz.isAgg176
 z25:=Tryz.sizeOf176
 v25:=Tryz.zeroValue176
 t39:=Tryz.underlying172
 a39:=Tryz.isAgg172
 z39:=Tryz.sizeOf172
 v39:=Tryz.zeroValue172
 t45:=Tryz.underlying194
 a45:=Tryz.isAgg194
 z45:=Tryz.sizeOf194
 v45:=Tryz.zeroValue194
 t46:=Tryz.underlying195
 a46:=Tryz.isAgg195
 z46:=Tryz.sizeOf195
 v46:=Tryz.zeroValue195
 t50:=Tryz.underlying199
 a50:=Tryz.isAgg199
 z50:=Tryz.sizeOf199
 v50:=Tryz.zeroValue199
 t53:=Tryz.underlying202
 a53:=Tryz.isAgg202
 z53:=Tryz.sizeOf202
 v53:=Tryz.zeroValue202
 t55:=Tryz.underlying204
 a55:=Tryz.isAgg204
 z55:=Tryz.sizeOf204
 v55:=Tryz.zeroValue204
 t66:=Tryz.underlying221
 a66:=Tryz.isAgg221
 z66:=Tryz.sizeOf221
 v66:=Tryz.zeroValue221
 t70:=Tryz.underlying225
 a70:=Tryz.isAgg225
 z70:=Tryz.sizeOf225
 v70:=Tryz.zeroValue225
 t76:=Tryz.underlying247
 a76:=Tryz.isAgg247
 z76:=Tryz.sizeOf247
 v76:=Tryz.zeroValue247
 t77:=Tryz.underlying248
 a77:=Tryz.isAgg248
 z77:=Tryz.sizeOf248
 v77:=Tryz.zeroValue248}
end Go.Proofs
namespace Pi
open Go Go.Proofs Go.RowKit Go.Shelf
section
variable{w0:World}
set_option maxHeartbeats 2000000 in
set_option maxRecDepth 100000 in
theorem fN.drew{T:Tg}{F:Nat->Prop}{G:Nat->Value}{w:World}{R:List (Nat×En)}(h:fN Tryz.prog T F G w R):fN Tryz.prog T F G w.drew R:=by have hn:Names G G R R:=Names.refl G R;exact⟨h.r9,h.size,λt p hp=>by simp[lk] at hp,λn e he=>(h.rg n e he).mono (λ_ h=>h) (λ_ _=>rfl) hn rfl (λ_ _=>rfl),h.own,h.mU,h.jz,h.tag,h.z,zcW h.dr,h.sz⟩
end
end Pi
namespace Pi
open Go Go.Proofs
set_option maxRecDepth 100000
set_option maxHeartbeats 0
def qgi:List (Nat×List (Nat×List Nat×List Nat)):=[(5,[(9,[5,6,7,9],[4,5,6,7])]),
 (6,[(6,[0,1,5,6,7],[1,5,6]),(15,[5,8,9,10,11,12],[5,8,9,10,11]),(21,[5,8,9,10,11,13,14],[5,8,9,10,11,13]),(28,[5,8,9,10,11,15],[4,5,8,9,10])]),
 (8,[(2,[0,3],[0,2])]),
 (11,[(3,[0,3,4],[3])]),
 (12,[(5,[1,4,6,7,21,22,23],[1,4,6,7])]),
 (15,[(4,[0,3,4,5],[4])]),
 (17,[(3,[0,1,4,5,6,7,8,20,21,22],[0,1,4,5,6,7,8])]),
 (18,[(4,[0,1,5],[4])]),
 (20,[(4,[1,3],[2])]),
 (22,[(4,[2,3,5],[4])]),
 (23,[(6,[0,1,4,6,7,8],[0,1,4,6])]),
 (24,[(4,[4,6,7,8],[4,5])]),
 (25,[(5,[4,6,7,8,9],[4,5])]),
 (26,[(4,[0,1,5],[4])]),
 (27,[(3,[3,8,9,10],[3])]),
 (28,[(4,[0,3,4],[3])]),
 (29,[(5,[2,3,4,5,6,7],[2,3,4,5,6])]),
 (30,[(3,[3,4,9,10,11],[3])]),
 (32,[(7,[0,2,3,4,5,6],[0,2,3,4,5]),(11,[0,2,3,4,5,6,7,8],[0,2,3,4,5,6]),(20,[0,2,3,4,5,6,7,8,9,10],[0,2,3,4,5,6,7,8])]),
 (33,[(3,[0,3,4],[3])]),
 (37,[(4,[0,1,5,6,10,19,20,21],[0,1,5,6,10]),(10,[5,6,7,10,35,36],[6,7,8])]),
 (40,[(3,[0,3,4],[3])]),
 (41,[(4,[0,1,5,6],[5]),(9,[0,1,5,6,7],[0,1,5,6])]),
 (42,[(2,[0,3,5],[0,4])]),
 (43,[(3,[0,3,4,7,8],[4,5,6]),(7,[0,3,4,7,8,9,10],[0,3,4,7,8,9])]),
 (44,[(3,[0,3,4],[3])]),
 (46,[(5,[0,1,2,8,9],[8])]),
 (47,[(3,[0,1,5,6],[5])]),
 (48,[(3,[0,1,5,6],[5])]),
 (49,[(3,[0,3,4],[3])]),
 (51,[(11,[3,48,49,50],[2])]),
 (53,[(4,[3,4,5],[4]),(8,[3,4,5,6,7],[3,4,5,6]),(15,[4,8,9],[8])]),
 (54,[(3,[0,1,5,6],[5]),(6,[0,1,5,6,7],[0,1,5,6]),(9,[0,1,5,6,7,8],[0,1,5,6,7])]),
 (55,[(4,[5,6,7],[6]),(14,[5,6,7,10],[5,6,7])]),
 (56,[(4,[1,5,6,7],[6]),(9,[1,5,6,7,9],[1,5,6,7])]),
 (57,[(3,[0,1,5,6],[5]),(9,[0,1,5,6,8],[0,1,5,6])]),
 (58,[(4,[1,2,7,8,9],[8])]),
 (59,[(3,[0,3,5,6],[5]),(6,[0,3,5,6,7],[0,3,5,6])]),
 (60,[(3,[0,1,5,7,8],[7]),(6,[0,1,5,7,8,9],[0,1,5,7,8])]),
 (61,[(5,[3,4,5,6,20,21,22],[3,5,6]),(15,[3,71,72,73],[3]),(20,[3,87,88,89],[3])]),
 (62,[(5,[0,1,5,6],[0,1,5])]),
 (68,[(3,[0,1,5,6,14,15],[5])]),
 (69,[(2,[0,3,7,8],[4])]),
 (70,[(4,[0,1,5],[4])]),
 (71,[(4,[0,1,5],[4])]),
 (72,[(11,[1,3,4],[2])]),
 (73,[(2,[0,3,5],[0,4])]),
 (74,[(1,[0],[0])]),
 (75,[(2,[0,3],[0,3])]),
 (76,[(3,[0,1,5,6],[5]),(6,[0,1,5,6,7],[0,1,5,6])]),
 (79,[(3,[0,1,5,7,8],[7]),(8,[0,1,5,7,8,9],[0,1,5,7,8])]),
 (80,[(4,[5,6,7],[6]),(8,[5,6,7,8],[5,6,7])]),
 (84,[(3,[0,3,4],[3]),(7,[0,3,4,5,6],[0,3,4,5]),(13,[0,3,4,7],[0,3,4])]),
 (85,[(3,[0,1,5,6],[5]),(7,[0,1,5,6,7,8],[0,1,5,6,7]),(13,[0,1,5,6,9],[0,1,5,6])]),
 (86,[(2,[0,4,5,7],[0,6])]),
 (87,[(2,[0,3,5],[0,4])]),
 (89,[(4,[0,1,5,6],[5]),(8,[0,1,5,6,7,8],[0,1,5,6,7])]),
 (90,[(2,[0,3,5],[5])]),
 (91,[(2,[0,3,5],[0,4])]),
 (92,[(2,[0,3,5],[4])]),
 (93,[(4,[3,4,5],[4])]),
 (95,[(3,[0,3,4,14,15,16],[0]),(13,[0,3,4,6,14,15,16,95,96,97],[0,3,4,14,15,16])]),
 (96,[(2,[0,1,7,8],[0,1,4])]),
 (97,[(2,[0,1,2,3,4,10,11],[4])]),
 (99,[(3,[3,6,7,8],[2,3])]),
 (101,[(1,[0,1,5,6,7],[0,1])]),
 (105,[(2,[0,3],[0,2])]),
 (107,[(3,[0,3,4],[3]),(8,[0,3,4,5,7,8],[0,3,4]),(13,[0,3,4,5,7,8,9,10,11],[0,3,4,5,7,8,9,10])]),
 (108,[(2,[0,5,6,7],[0,2])]),
 (114,[(2,[0,1,7,8,9],[0,1,4])]),
 (116,[(2,[0,1,7,8,9],[0,1,4])]),
 (118,[(3,[0,3,4],[3])]),
 (119,[(2,[0,3,5],[4])]),
 (120,[(2,[0,3,5],[3,4])]),
 (121,[(3,[0,3,5,6],[5]),(8,[0,3,5,6,7],[0,3,5,6])]),
 (123,[(1,[0,2,3],[0])]),
 (125,[(1,[0,1,2,3,8],[3]),(4,[0,1,2,3,8,9],[0,1,2,3,8])]),
 (126,[(4,[0,3,8,9,10,11],[0,3,8,9,10]),(8,[0,3,8,9,12],[3])]),
 (127,[(5,[0,1,3,8,9,10,11],[3])]),
 (129,[(2,[0,3,8,9],[3])]),
 (130,[(3,[0,1,2,3,9,10],[3,8]),(5,[0,1,2,3,9,10],[0,1,2,3,9,10]),(14,[0,1,2,3,9,10,11],[0,1,2,3,9,10]),(20,[0,1,2,3,9,10,12],[0,1,2,3,9,10])]),
 (131,[(3,[0,1,4,11,12],[4,11]),(3,[0,1,4,11,12],[0,1,4,11,12]),(5,[0,1,4,11,12],[0,1,4,11,12])]),
 (132,[(3,[0,1,4,12,13],[0,1,4,12,13]),(5,[0,1,4,12,13],[0,1,4,12,13]),(13,[0,1,4,12,13],[0,1,4,13]),(13,[0,1,4,12,13],[0,1,4,12,13]),(15,[0,1,4,12,13],[0,1,4,12,13])]),
 (136,[(2,[0,1,2,3,4,10,11],[4])]),
 (138,[(4,[0,3],[2])]),
 (141,[(2,[1,2,5],[1,4])]),
 (143,[(2,[1,2,3,7],[1,6])]),
 (144,[(2,[0,4],[2,3,4])]),
 (148,[(1,[0],[2]),(9,[0],[0])]),
 (149,[(2,[2,4],[2])]),
 (153,[(1,[0,1,3],[0,1])]),
 (154,[(1,[0,2,3,4,10],[4])]),
 (159,[(1,[0,1,2,3,8],[3]),(4,[0,1,2,3,8,9],[0,1,2,3,8])]),
 (160,[(4,[0,3,8,9,10,11],[0,3,8,9,10]),(8,[0,3,8,9,12],[3])]),
 (161,[(5,[0,1,3,8,9,10,11],[3])]),
 (163,[(2,[0,3,8,9],[3])]),
 (164,[(3,[0,1,2,3,9,10],[3,8]),(5,[0,1,2,3,9,10],[0,1,2,3,9,10]),(14,[0,1,2,3,9,10,11],[0,1,2,3,9,10]),(20,[0,1,2,3,9,10,12],[0,1,2,3,9,10])]),
 (165,[(3,[0,1,4,11,12],[4,11]),(3,[0,1,4,11,12],[0,1,4,11,12]),(5,[0,1,4,11,12],[0,1,4,11,12])]),
 (166,[(3,[0,1,4,12,13],[0,1,4,12,13]),(5,[0,1,4,12,13],[0,1,4,12,13]),(13,[0,1,4,12,13],[0,1,4,13]),(13,[0,1,4,12,13],[0,1,4,12,13]),(15,[0,1,4,12,13],[0,1,4,12,13])]),
 (168,[(16,[0,5,7,8],[2,3,4,5,7])]),
 (169,[(1,[0,1],[0])]),
 (170,[(1,[0,1],[0])]),
 (171,[(2,[0,2,4],[2,3])]),
 (172,[(1,[0,1],[0,1])]),
 (173,[(1,[0,1],[0,1])]),
 (174,[(1,[0,1],[0])]),
 (175,[(1,[0,1],[0])]),
 (179,[(1,[0,2,3,4,10],[4])]),
 (185,[(10,[0,4,5,6],[0,4,5])]),
 (186,[(4,[0,3],[0,3])]),
 (189,[(38,[175],[4]),(5,[0,7,8,9],[4]),(12,[0,7,8,9,12],[8,9]),(25,[0,7,8,9,14,15],[4]),(29,[0,7,8,9,14,15,16],[0,7,8,9,14,15])])]
def qcN:List (Nat×List (Nat×Nat)):=[(5,[(6,1),(11,1)]),
 (9,[(5,1)]),
 (17,[(5,4)]),
 (25,[(7,6)]),
 (28,[(6,1)]),
 (30,[(6,1)]),
 (32,[(18,1),(22,1),(24,1)]),
 (34,[(3,1)]),
 (41,[(11,1)]),
 (48,[(5,1)]),
 (50,[(7,1),(9,1),(11,6),(12,1),(14,6),(16,1),(20,1)]),
 (55,[(16,1)]),
 (56,[(7,1),(11,1)]),
 (57,[(11,1)]),
 (61,[(8,1),(10,1),(11,4)]),
 (66,[(1,1)]),
 (68,[(5,1)]),
 (72,[(1,1)]),
 (79,[(10,1)]),
 (80,[(10,1)]),
 (81,[(1,1)]),
 (83,[(5,1),(14,1)]),
 (84,[(15,1)]),
 (85,[(15,1)]),
 (94,[(6,1)]),
 (95,[(8,1),(9,1),(11,1),(16,1)]),
 (107,[(10,1)]),
 (121,[(10,1)]),
 (124,[(1,1)]),
 (125,[(6,1)]),
 (126,[(10,1)]),
 (127,[(10,1)]),
 (130,[(11,1),(17,1),(23,1)]),
 (145,[(9,1),(11,1)]),
 (148,[(7,1),(9,1)]),
 (150,[(1,1)]),
 (154,[(6,1)]),
 (159,[(6,1)]),
 (160,[(10,1)]),
 (161,[(10,1)]),
 (164,[(11,1),(17,1),(23,1)]),
 (177,[(3,1)]),
 (179,[(6,1)])]
def xsB:List Nat:=[146,148,149,64,102]
def xsT:List Nat:=xsB++[19,17]
def qi8:List Nat:=[]
def aL(f id:Nat):Option (List Nat×List Nat):=if Nat.beq id 999999 then(if gY f qi8 then some ([],[]) else none) else match lk qgi f with |some l=>lk l id |none=>none
abbrev yX:qD:=⟨aL,xsT,λ_ _ _=>none⟩
end Pi
namespace Pi
open Go Go.Proofs Go.RowKit
def Lh:TF
 | [.d (.str s),.d (.str c)],[]=>if s.length<=9223372036854775807/\c.length<4294967281/\c.all (λb=>decide (b.toNat<128))=true then some (.d (.str (Lib.trimS s c)),[]) else none
 |_,_=>none
def Jg:TF
 | [.d (.str s)],[]=>if s.length<=9223372036854775807 then some (.d (.bool (Lib.validD s)),[]) else none
 |_,_=>none
def Jh:TF
 | [.d (.str s)],[]=>if s.length<9223372036854775807 then some (.d (.int .i64 (Lib.runeCount ⟨⟨s⟩⟩)),[]) else none
 |_,_=>none
noncomputable def yY:TF:=yR Tryz.prog yX 34
noncomputable def BY:TF:=yR Tryz.prog yX 132
noncomputable def xL:List (Nat×TF):=[(146,Lh),(148,Jg),(149,Jh),(64,yY),(102,BY)]
noncomputable def xB:CF:=xOf xL
theorem su{w0 w:World}{v:Value}{b o:Nat}(hz: ∀b,b<w0.heap.size->w.heap[b]?=w0.heap[b]?)(h:w0.cell? ⟨b,o,none⟩=some v):w.cell? ⟨b,o,none⟩=some v:=by
 by_cases hb:b<w0.heap.size
 ·unfold World.cell? at h⊢;rw[hz b hb];exact h
 unfold World.cell? at h;rw[show w0.heap[({block:=b,off:=o,spot:=none}:Addr).block]?=none from Array.getElem?_eq_none (by show w0.heap.size<=b;omega)] at h;simp at h
structure StW(w0:World):Prop where
 m: ∃m,w0.cell? ⟨2,0,none⟩=some (.int .i64 m)
 u8:Lib.Utf8Tabs 0 1 w0
theorem StW.zero{w0:World}(h:StW w0):StW {w0 with drawn:=0} where
 m:=h.m
 u8:=h.u8
theorem Nr{w0 w:World}{a b:Nat}(hz: ∀b,b<w0.heap.size->w.heap[b]?=w0.heap[b]?)(h:Lib.Utf8Tabs a b w0):Lib.Utf8Tabs a b w:=
 ⟨λc hc=>su hz (h.1 c hc),λi hi=>⟨su hz (h.2 i hi).1,su hz (h.2 i hi).2⟩⟩
section
variable{w0:World}
theorem Dx{F:Nat->Prop}{w:World}{G:Nat->Value}{R:List (Nat×En)}{v:Value}{s:List UInt8}(h:aH F w G R v (.d (.str s))):v= .string ⟨⟨s⟩⟩:=aH.cG (p:= .d (.str s)) h rfl
theorem Rp:Nl Tryz.prog w0 146 Lh:=by
 intro h0 ps R p R1 h F G w vs hH hl hv;unfold Lh at h;split at h
 next s c=>
  split at h
  next hc=>
   simp only[zam,zbC] at h;obtain⟨rfl,rfl⟩:=h
   match vs,hl,hv with
   | [v,u],_,hv=>have e1:v= .string ⟨⟨s⟩⟩:=Dx (hv 0 v _ rfl rfl);have e2:u= .string ⟨⟨c⟩⟩:=Dx (hv 1 u _ rfl rfl);subst e1;subst e2;refine uY h0 hH (enters Tryz.func146 (by kernel_rfl) (by kernel_rfl) _ w) ?_;exact(Go.Proofs.Any.strings_Trim_laid Tryz.Lg (by kernel_rfl) ⟨⟨s⟩⟩ ⟨⟨c⟩⟩ w (by simpa [ByteArray.size] using hc.1) (by simpa [ByteArray.size] using hc.2.1) (Go.Proofs.ascii_of_all hc.2.2)).mono λe w' ⟨he,hb⟩=>⟨_,he,hb,λF G=> .d (.str _)⟩
  cases h
 cases h
theorem Ns(hw:StW w0):Nl Tryz.prog w0 148 Jg:=by
 intro h0 ps R p R1 h F G w vs hH hl hv;have hz: ∀b,b<w0.heap.size->w.heap[b]?=w0.heap[b]?:=λb hb=>(hH.z b hb).2;unfold Jg at h;split at h
 next s=>
  split at h
  next hc=>
   simp only[zam,zbC] at h;obtain⟨rfl,rfl⟩:=h
   match vs,hl,hv with
   | [v],_,hv=>have e1:v= .string ⟨⟨s⟩⟩:=Dx (hv 0 v _ rfl rfl);subst e1;refine uY h0 hH (enters Tryz.func148 (by kernel_rfl) (by kernel_rfl) _ w) ?_;exact(Tryz.utf8_ValidString ⟨⟨s⟩⟩ w (by simpa [ByteArray.size] using hc) (Nr hz hw.u8)).mono λe w' ⟨he,hb⟩=>⟨_,he,hb,λF G=> .d (.bool _)⟩
  cases h
 cases h
theorem Nt:Nl Tryz.prog w0 149 Jh:=by
 intro h0 ps R p R1 h F G w vs hH hl hv;unfold Jh at h;split at h
 next s=>
  split at h
  next hc=>
   simp only[zam,zbC] at h;obtain⟨rfl,rfl⟩:=h
   match vs,hl,hv with
   | [v],_,hv=>have e1:v= .string ⟨⟨s⟩⟩:=Dx (hv 0 v _ rfl rfl);subst e1;refine uY h0 hH (enters Tryz.func149 (by kernel_rfl) (by kernel_rfl) _ w) ?_;exact(Tryz.utf8_RuneCountInString ⟨⟨s⟩⟩ w (by simpa [ByteArray.size] using hc)).mono λe w' ⟨he,pos,hb⟩=>⟨_,he,by rw[hb];exact(Below.refl _ _).alloc (zak _) _,λF G=> .d (.int _ _)⟩
  cases h
 cases h
set_option maxRecDepth 100000 in
theorem AU(w0:World):Nl Tryz.prog w0 64 yY:=
 F8 (kp:=yX) (λw=>Rf _ w) Tryz.qcM (by kernel_rfl) (λvs w=>enters Tryz.func64 (by kernel_rfl) (by kernel_rfl) vs w) (ty:=34) (k:=7) (by kernel_rfl) (λw=>qE (d:=_) (show Tryz.prog.underlying (Tryz.yW.t 24)=some _ from Tryz.underlying34) w) (run_sizeOf (by kernel_rfl)) w0
set_option maxRecDepth 100000 in
theorem Dy(w0:World):Nl Tryz.prog w0 102 BY:=
 F8 (kp:=yX) (λw=>Rf _ w) Tryz.Xv (by kernel_rfl) (λvs w=>enters Tryz.func102 (by kernel_rfl) (by kernel_rfl) vs w) (ty:=132) (k:=4) (by kernel_rfl) (λw=>qE (d:=_) (show Tryz.prog.underlying (Tryz.wq.t 24)=some _ from Tryz.underlying132) w) (run_sizeOf (by kernel_rfl)) w0
theorem qgj{w1:World}(hw1:StW w1):dC Tryz.prog {w1 with drawn:=0} xB:=by have hw:=hw1.zero;exact Nn.ok rfl (.cons Rp (.cons (Ns hw) (.cons Nt (.cons (AU _) (.cons (Dy _) .nil)))))
end
end Pi
namespace Pi
open Go Go.Proofs
set_option maxRecDepth 100000
set_option maxHeartbeats 0
structure XF where
 cf:CF
 eq: ∀f,gY f xsB=true-> ∀ps R,cf f ps R=xB f ps R
abbrev Ji(X:XF):qD:=⟨aL,xsT,X.cf⟩
def qK(f id:Nat):Nat:=match lk qcN f with |some l=>(lk l id).getD 2 |none=>2
theorem Nu:nX qK 0 Tryz.prog.funcs.toList=true:=by kernel_rfl
noncomputable abbrev PR:=Tryz.prog
noncomputable def aD(H:List (FuncId×bm))(hk:List (Nat×(S->K (PX×S))))(f id:Nat)(s:S):K (PX×S):=
 xO (fp PR (runK PR yX qK H 60 60) (aL f) hk (qK f) 60 (bB PR f id)) (aL f id) s
noncomputable def aJ(H:List (FuncId×bm))(hk:List (Nat×(S->K (PX×S))))(f:Nat)(ps:List P)(R:List (Nat×En)):K (P×List (Nat×En)):=
 nf PR (runK PR yX qK H 60 60) yX hk qK 60 f ps R
def FD(X:XF)(f:Nat)(h:bm):Prop:=O4 PR (Ji X) f h
def HD(X:XF)(H:List (FuncId×bm)):Prop:=K4 PR (Ji X) H
def LD(X:XF)(f id:Nat)(g:S->K (PX×S)):Prop:= ∀s,KW (g s) (λx=>Ev λa b=>iM (bE PR (fo PR (Ji X) a b) (aL f) a (bB PR f id)) (aL f id) a s=some x)
theorem HD.nil{X:XF}:HD X []:=K4.nil
theorem HD.cons{X:XF}{f:Nat}{h:bm}{H:List (FuncId×bm)}(hf:FD X f h)(hH:HD X H):HD X ((f,h)::H):=K4.cons hf hH
inductive Rq(X:XF)(f:Nat):List (Nat×(S->K (PX×S)))->Prop
 |nil:Rq X f []
 |cons {id:Nat} {g:S->K (PX×S)} {r:List (Nat×(S->K (PX×S)))} (h:LD X f id g) (hr:Rq X f r):Rq X f ((id,g)::r)
theorem Rq.get{X:XF}{f:Nat}{hk:List (Nat×(S->K (PX×S)))}(h:Rq X f hk): ∀id g,lk hk id=some g->LD X f id g:=by
 induction h with
 |nil=>exact K7
 |cons h hr ih=>exact Xn h ih
theorem FD.mk{X:XF}{H:List (FuncId×bm)}{hk:List (Nat×(S->K (PX×S)))}{f:Nat}{h:bm}(hu:uniq PR f=true)(hH:HD X H)(hl:Rq X f hk)(hb: ∀ps R ae,h ps R ae->aJ H hk f ps R ae):FD X f h:=
 O4.mk Nu hH hu hl.get (λps R ae hp=>by have:=hb ps R ae hp;unfold aJ at this;rw[Dt PR aL xsT _ X.cf qK H 60 60] at this;exact this)
theorem LD.par{X:XF}{H:List (FuncId×bm)}{hk:List (Nat×(S->K (PX×S)))}{f id:Nat}{g:S->K (PX×S)}(hu:uniq PR f=true)(hc:cd (qK f) (bB PR f id)=true)(hH:HD X H)(hl:Rq X f hk)
  {A B:Type} (hd:A->B->S) (Inv:A->B->Prop) (mu:A->B->Nat) (Out:A->PX×S->Prop)
  (hr: ∀a b,Inv a b->aD H hk f id (hd a b) (roundPost (mu a b) (λm s=> ∃b',s=hd a b'/\Inv a b'/\m=mu a b') (Out a)))
  (hg: ∀s ae,g s ae-> ∃a b,s=hd a b/\Inv a b/\ ∀x,Out a x->ae x):LD X f id (ah (aL f id) g):=by
 refine F7 λs0 ae hp=> ?_;obtain⟨a,b,rfl,h1,h2⟩:=hg s0 ae hp;obtain⟨x,g1,g2⟩:=Xg (keep:=aL f id) (kp1:=aL f) (O:=Out a) Nu hH hc (λd hd h hh=>by have:=hl.get _ _ hh;unfold LD at this;rwa [uW hu hd] at this) (I:=λm s=> ∃b',s=hd a b'/\Inv a b'/\m=mu a b') (λn s hs=>by obtain⟨b',rfl,h3,rfl⟩:=hs;have:=hr a b' h3;unfold aD at this;rw[Dt PR aL xsT _ X.cf qK H 60 60] at this;exact this) (mu a b) (hd a b) ⟨b,rfl,h1,rfl⟩;exact⟨x,g2,h2 x g1⟩
theorem FD.weaken{X:XF}{f:Nat}{h1 h2:bm}(h:FD X f h1)(hw: ∀ps R ae,h2 ps R ae->h1 ps R ae):FD X f h2:=λps R ae hp=>h ps R ae (hw ps R ae hp)
theorem FD.tR{X:XF}{f:Nat}{fn:Func}{h:bm}(gj:PR.funcs[f]?=some fn)(hx:gY f xsT=true)(AV:gY f xsB=true)(hb: ∀ps R ae,h ps R ae-> ∃x,xB f ps R=some x/\ae x):FD X f h:=
 O4.tR gj hx λps R ae hp=>by obtain⟨x,h1,h2⟩:=hb ps R ae hp;exact⟨x,by rw[<-h1];exact X.eq f AV ps R,h2⟩
theorem FD.run{X:XF}{f:Nat}{h:bm}(hf:FD X f h){ps:List P}{R:List (Nat×En)}{y:P×List (Nat×En)}(hp:h ps R (λx=>x=y)): ∃lf k,fo PR (Ji X) lf k f ps R=some y:=by obtain⟨x,h1,h2⟩:=hf ps R _ hp;subst h2;exact h1.some
def FC(f:Nat)(h:bm):Prop:=O4 PR yX f h
def HC(H:List (FuncId×bm)):Prop:=K4 PR yX H
theorem HC.nil:HC []:=K4.nil
theorem HC.cons{f:Nat}{h:bm}{H:List (FuncId×bm)}(hf:FC f h)(hH:HC H):HC ((f,h)::H):=K4.cons hf hH
theorem FC.mk{H:List (FuncId×bm)}{f:Nat}{h:bm}(hu:uniq PR f=true)(hH:HC H)(hb: ∀ps R ae,h ps R ae->aJ H [] f ps R ae):FC f h:=
 O4.mk Nu hH hu K7 hb
noncomputable def Li:XF:=⟨xB,λ_ _ _ _=>rfl⟩
def eB(l:List Int)(r:Int):Int:=if r<1\/r>l.length then 0 else l.getD (r-1).toNat 0
def mX(l:List Int):Nat->Nat
 |0=>0
 |k+1=>if l.getD k 0=0 then mX l k else k+1
def bb(l:List Int):List Int:=l.take (mX l l.length)
def pb(n:Nat)(f:Nat->Int):List Int:=(List.range n).map f
def Xw(v w:List Int):List Int:=pb (max v.length w.length) λi=>max (eB v (i+1)) (eB w (i+1))
def e8(v:List Int)(r n:Int):List Int:=pb (max v.length r.toNat) λi=>if(i:Int)+1=r then n else eB v (i+1)
def mN(v w:List Int):List Int:=bb (Xw v w)
def dp(v:List Int):Bool:=decide ((∀n∈v,0<=n)/\v.length<=16/\(bb v).length=v.length)
@[simp] theorem Gl (n:Nat) (f:Nat->Int):(pb n f).length=n:=by simp[pb]
theorem ov(l:List Int): ∀k,mX l k<=k
 |0=>zak 0
 |k+1=>by have:=ov l k;unfold mX;split<;>omega
@[simp] theorem oz (l:List Int):(bb l).length=mX l l.length:=by have:=ov l l.length;simp[bb];omega
theorem xr(l:List Int)(i:Nat):eB l ((i:Int)+1)=l.getD i 0:=by
 unfold eB;split
 next h=>
  have h:l.length<=i:=by omega
  simp[zac,zbc h]
 have:((i:Int)+1-1).toNat=i:=by omega
 rw[this]
theorem mn(l:List Int){r:Int}(h:1<=r):eB l r=l.getD (r-1).toNat 0:=by
 obtain⟨k,rfl⟩: ∃k:Nat,r=(k:Int)+1:=⟨(r-1).toNat,by omega⟩
 rw[xr];congr 1;omega
theorem p8(n:Nat)(f:Nat->Int)(i:Nat):(pb n f).getD i 0=if i<n then f i else 0:=by
 simp only[pb,zac,zaK];split
 next h=>simp[h]
 rename_i h;simp[h]
theorem yZ(l:List Int): ∀k i,mX l k<=i->i<k->l.getD i 0=0
 |0,i,_,h=>by omega
 |k+1,i,h1,h2=>by
  unfold mX at h1;split at h1
  ·by_cases e:i=k
   ·subst e;assumption
   exact yZ l k i h1 (by omega)
  omega
theorem y5(l:List Int): ∀k,mX l k≠0->l.getD (mX l k-1) 0≠0
 |0,h=>by simp[mX] at h
 |k+1,h=>by
  unfold mX at h⊢;split
  next h0=>rw[zao h0] at h;exact y5 l k h
  simpa
theorem oA(l:List Int)(i:Nat):(bb l).getD i 0=l.getD i 0:=by
 have h0:=ov l l.length;unfold bb;by_cases h:i<mX l l.length
 ·simp[zac,h]
 rw[zac,zbc (by simp;omega)];by_cases h2:i<l.length
 ·exact(yZ l l.length i (by omega) h2).symm
 simp[zac,zbc (show l.length<=i by omega)]
theorem Gm(l:List Int)(n:Nat): ∀k,k<=n->mX (l.take n) k=mX l k
 |0,_=>rfl
 |k+1,h=>by
  have e:(l.take n).getD k 0=l.getD k 0:=by simp[zac,show k<n by omega]
  unfold mX;rw[e,Gm l n k (by omega)]
theorem Xx(l:List Int)(k:Nat):mX l (mX l k)=mX l k:=by
 cases h:mX l k with
 |zero=>rfl
 |succ m=>have:=y5 l k (by omega);rw[h] at this;unfold mX;rw[zal (by simpa using this)]
theorem Gn(l:List Int):bb (bb l)=bb l:=by
 have h0:=ov l l.length;have:mX (bb l) (bb l).length=mX l l.length:=by rw[oz];unfold bb;rw[Gm _ _ _ (zak _),Xx]
 rw[bb,this,zah (by simp)]
theorem ext_get{a b:List Int}(hl:a.length=b.length)(h: ∀i,a.getD i 0=b.getD i 0):a=b:=by apply zbX hl;intro i h1 h2;have:=h i;simpa [zac,h1,h2] using this
theorem Nv{v w:List Int}(h: ∀i,v.getD i 0=w.getD i 0):bb v=bb w:=by
 have key: ∀v w:List Int,(∀i,v.getD i 0=w.getD i 0)->mX v v.length<=mX w w.length:=by
  intro v w h;by_cases h0:mX v v.length=0
  ·omega
  have h1:=y5 v v.length h0;have h2:=ov v v.length;rw[h] at h1;refine zaM λhc=>h1 ?_;by_cases h3:mX v v.length-1<w.length
  ·exact yZ w w.length _ (by omega) h3
  simp[zac,zbc (show w.length<=mX v v.length-1 by omega)]
 have e:mX v v.length=mX w w.length:=by have:=key v w h;have:=key w v λi=>(h i).symm;omega
 refine ext_get (by simpa using e) λi=> ?_;rw[oA,oA,h]
theorem mq{v:List Int}{i:Nat}(h:v.length<=i):v.getD i 0=0:=by simp[zac,zbc h]
theorem Rr(v w:List Int)(i:Nat):(Xw v w).getD i 0=max (v.getD i 0) (w.getD i 0):=by
 unfold Xw;rw[p8];split
 ·rw[xr,xr]
 rw[mq (v:=v) (by omega),mq (v:=w) (by omega)];rfl
abbrev Nw(t r i:Int):D:= .agg [.int .i64 t,.int .i64 r,.int .i64 i]
abbrev V0(t r:Int):D:= .agg [.int .i64 t,.int .i64 r]
def uZ(t r:Int):Bool:=decide (1<=t/\t<=1099511627776/\1<=r/\r<=16)
def cy(t r i:Int):Bool:=decide (1<=t/\t<=1099511627776/\1<=r/\r<=16/\0<=i/\i<=400000)
def Z3:D:=D.bool false
def Z4(ae:P×List (Nat×En)->Prop):Prop:=ae (P.d Z3,[])
def Z2(i:Int):Bool:=decide (i>=(0:Int))
def Z1:Int:=(1099511627776:Int)
def Z0(t:Int):Bool:=decide (t>=(1:Int))
theorem Nx(t r i:Int)(ae:P×List (Nat×En)->Prop):(bif Z0 t then bif decide (t<=Z1) then bif Z0 r then bif decide (r<=(16:Int)) then bif Z2 i then ae (P.d (D.bool (decide (i<=(400000:Int)))),[]) else Z4 ae else Z4 ae else Z4 ae else Z4 ae else Z4 ae)=(aJ [] [] 147 [.d (Nw t r i)] []) ae:=by kernel_rfl
theorem Jj(t r i:Int)(ae:P×List (Nat×En)->Prop):(bif Z0 t then bif decide (t<=Z1) then bif Z0 r then bif decide (r<=(16:Int)) then bif Z2 i then ae (P.d (D.bool (decide (i<=(400000:Int)))),[]) else Z4 ae else Z4 ae else Z4 ae else Z4 ae else Z4 ae)=(aJ [] [] 151 [.d (Nw t r i)] []) ae:=by kernel_rfl
def ny:bm:=λps R ae=> ∃t r i,ps=[.d (Nw t r i)]/\R=[]/\ae (.d (.bool (cy t r i)),[])
def a8(l:List Int):List D:=l.map (D.int .i64)
abbrev vD(v:List Int):P:= .d (.sl 1 (a8 v))
def V1:bm:=λps R ae=> ∃l r,ps=[vD l,.d (.int .i64 r)]/\R=[]/\l.length<=9223372036854775807/\ae (.d (.int .i64 (eB l r)),[])
def Zc(r:Int):Nat:=Int.toNat (r-(1:Int))
def Za:Int:=(9223372036854775807:Int)
def Z9:Int:=(-9223372036854775808:Int)
def Zb(r:Int):Bool:=decide (Z9<=r-(1:Int)/\r-(1:Int)<=Za)
def Z7:D:=D.int .i64 (0:Int)
def Z8(ae:P×List (Nat×En)->Prop):Prop:=ae (P.d Z7,[])
def Z6(r:Int):Bool:=decide (r<(1:Int))
theorem qi9(es:List D)(r:Int)(ae:P×List (Nat×En)->Prop):(bif Z6 r then Z8 ae else bif decide (r>(↑(List.length es):Int)) then Z8 ae else bif Zb r then bif decide ((0:Int)<=r-(1:Int)/\r-(1:Int)<(↑(List.length es):Int)) then bif cx PR (3:TypeId) (D.nth es (Zc r)) then ae (P.d (D.int .i64 (D.aj (D.nth es (Zc r)))),[]) else False else False else False)=(aJ [] [] 31 [.d (.sl 1 es),.d (.int .i64 r)] []) ae:=by kernel_rfl
theorem qgk(es:List D)(r:Int)(ae:P×List (Nat×En)->Prop):(bif Z6 r then Z8 ae else bif decide (r>(↑(List.length es):Int)) then Z8 ae else bif Zb r then bif decide ((0:Int)<=r-(1:Int)/\r-(1:Int)<(↑(List.length es):Int)) then bif cx PR (3:TypeId) (D.nth es (Zc r)) then ae (P.d (D.int .i64 (D.aj (D.nth es (Zc r)))),[]) else False else False else False)=(aJ [] [] 13 [.d (.sl 1 es),.d (.int .i64 r)] []) ae:=by kernel_rfl
variable{X:XF}
theorem Rs{ae:P×List (Nat×En)->Prop}{k:IntKind}{a b:Int}{R:List (Nat×En)}(hp:ae (P.d (D.int k a),R))(h:a=b):ae (P.d (D.int k b),R):=h▸hp
theorem fU{ae:P×List (Nat×En)->Prop}{a b:Bool}{R:List (Nat×En)}(hp:ae (P.d (D.bool a),R))(h:a=b):ae (P.d (D.bool b),R):=h▸hp
theorem Ny:FD X 147 ny:=FD.mk (H:=[]) (by kernel_rfl) .nil .nil (by
 intro ps R ae hh;obtain⟨t,r,i,rfl,rfl,hp⟩:=hh
 (rw[<-Nx];delta Z3 Z4 Z2 Z1 Z0)
 repeat' (first |refine az (λ_=> ?_) (λ_=> ?_))
 all_goals exact fU hp (by simp only[zai,zaE,zbI,cy] at*;omega))
theorem sv:FD X 151 ny:=FD.mk (H:=[]) (by kernel_rfl) .nil .nil (by
 intro ps R ae hh;obtain⟨t,r,i,rfl,rfl,hp⟩:=hh
 (rw[<-Jj];delta Z3 Z4 Z2 Z1 Z0)
 repeat' (first |refine az (λ_=> ?_) (λ_=> ?_))
 all_goals exact fU hp (by simp only[zai,zaE,zbI,cy] at*;omega))
@[simp] theorem dN (l:List Int):(a8 l).length=l.length:=by simp[a8]
theorem lF{l:List Int}{i:Nat}(h:i<l.length):D.nth (a8 l) i= .int .i64 (l.getD i 0):=by simp[D.nth,a8,h]
theorem Jk(n:Int):cx PR 3 (.int .i64 n)=true:=by kernel_rfl
theorem Ru{ae:P×List (Nat×En)->Prop}{l:List Int}{r:Int}(hl:l.length<=9223372036854775807)(hp:ae (.d (.int .i64 (eB l r)),[])):
  bif decide (r<1) then ae (.d (.int .i64 0),[]) else bif decide (r>(l.length:Int)) then ae (.d (.int .i64 0),[]) else
   bif decide (-9223372036854775808<=r-1/\r-1<=9223372036854775807) then bif decide (0<=r-1/\r-1<(l.length:Int)) then bif cx PR 3 (D.nth (a8 l) (r-1).toNat) then ae (.d (.int .i64 (D.nth (a8 l) (r-1).toNat).aj),[]) else False else False else False:=by
 refine az (λh=> ?_) λh=>az (λh'=> ?_) λh'=> ?_
 ·exact Rs hp (by simp only[zai] at h;simp[eB,h])
 ·exact Rs hp (by simp only[zai] at h';simp[eB,h'])
 simp only[zaE] at h h';have bG:(r-1).toNat<l.length:=by omega
 rw[lF bG];refine aq (by simp;omega) (aq (by simp;omega) (aq (Jk _) ?_));exact Rs hp (by rw[eB,zal (by omega)];rfl)
theorem qja:FD X 31 V1:=FD.mk (H:=[]) (by kernel_rfl) .nil .nil (by
 intro ps R ae hh;obtain⟨l,r,rfl,rfl,hl,hp⟩:=hh
 (rw[<-qi9];delta Zc Za Z9 Zb Z7 Z8 Z6)
 simp only[dN];exact Ru hl hp)
theorem Gp:FD X 13 V1:=FD.mk (H:=[]) (by kernel_rfl) .nil .nil (by
 intro ps R ae hh;obtain⟨l,r,rfl,rfl,hl,hp⟩:=hh
 (rw[<-qgk];delta Zc Za Z9 Zb Z7 Z8 Z6)
 simp only[dN];exact Ru hl hp)
abbrev iD(n:Int):P:= .d (.int .i64 n)
abbrev qcO(v w:List Int)(k:Int):S:=⟨26,[(0,vD v),(1,vD w),(5,iD k)],[]⟩
abbrev Xy(v:List Int):S:=⟨21,[(0,vD v)],[]⟩
abbrev qcP(v:List Int)(k:Int):S:=⟨21,[(0,vD v),(3,iD k)],[]⟩
abbrev qgl(v w o:List Int)(m:Nat)(k:Int):S:=⟨28,[(0,vD v),(1,vD w),(5,P.sl 0 0 m),(6,iD k)],[(0,⟨0,none,.arr 3 false (a8 o)⟩)]⟩
abbrev qgm(v o:List Int)(r n:Int)(m:Nat)(k:Int):S:=⟨39,[(0,vD v),(1,iD r),(2,iD n),(8,P.sl 0 0 m),(9,iD k)],[(0,⟨0,none,.arr 3 false (a8 o)⟩)]⟩
abbrev qcQ(v:List Int)(n k:Int):S:=⟨25,[(0,vD v),(5,vD v),(6,iD n),(7,iD k)],[]⟩
abbrev qcR(v:List Int)(k:Int):S:=⟨24,[(0,vD v),(3,iD k)],[]⟩
def Zn(k:Int):D:=D.int .i64 (k+(1:Int))
def Zo(k:Int):List (Nat×P):=[(5,P.d (Zn k))]
def Zk(v:List Int):P:=P.d (D.sl 1 (a8 v))
def Zm(w:List Int):Nat×P:=(1,Zk w)
def Zl(v:List Int):Nat×P:=(0,Zk v)
def Zj(k:Int):Bool:=decide (Z9<=k+(1:Int)/\k+(1:Int)<=Za)
def Zi:List (Nat×P):=[(4,P.d Z3)]
def Zg(k:Int):Nat:=Int.toNat k
noncomputable def Zh(v:List Int)(k:Int):Bool:=cx PR (3:TypeId) (D.nth (a8 v) (Zg k))
def Ze(v:List Int):Int:=(↑(List.length (a8 v)):Int)
def Zf(k:Int)(v:List Int):Bool:=decide ((0:Int)<=k/\k<Ze v)
theorem qcS(v w:List Int)(k:Int)(ae:PX×S->Prop):(bif decide (k<Ze v) then bif Zf k v then bif Zh v k then bif Zf k w then bif Zh w k then bif D.aj (D.nth (a8 v) (Zg k)) !=D.aj (D.nth (a8 w) (Zg k)) then ae (PX.ret,S.mk 26 Zi []) else bif Zj k then ae (PX.normal,S.mk 26 (Zl v::Zm w::Zo k) []) else False else False else False else False else False else ae (PX.exit 0,S.mk 26 [] []))=(aD [] [] 26 4 (qcO v w k)) ae:=by kernel_rfl
def Zq(ae:PX×S->Prop)(v:List Int):Prop:=ae (PX.exit 0,S.mk 21 [Zl v] [])
def Zp(v:List Int):Bool:=decide (Z9<=Ze v-(1:Int)/\Ze v-(1:Int)<=Za)
theorem qcT(v:List Int)(ae:PX×S->Prop):(bif decide (Ze v>(0:Int)) then bif Zp v then bif decide ((0:Int)<=Ze v-(1:Int)/\Ze v-(1:Int)<Ze v) then bif cx PR (3:TypeId) (D.nth (a8 v) (Int.toNat (Ze v-(1:Int)))) then bif D.aj (D.nth (a8 v) (Int.toNat (Ze v-(1:Int))))==(0:Int) then bif Zp v then bif decide ((0:Int)<=Ze v-(1:Int)/\Ze v-(1:Int)<=Ze v) then ae (PX.normal,S.mk 21 [(0,P.d (D.sl 1 (List.drop 0 (List.take (Int.toNat (Ze v-(1:Int))) (a8 v)))))] []) else False else False else Zq ae v else False else False else False else Zq ae v)=(aD [] [] 74 1 (Xy v)) ae:=by kernel_rfl
def Zt(k:Int):D:=D.int .i64 k
def Zu(k:Int):List (Nat×P):=[(3,P.d (Zt k))]
def Zs(k:Int):P:=P.d (D.int .i64 (k-(1:Int)))
def Zr(k:Int):Bool:=decide (k>(0:Int))
theorem qcU(v:List Int)(k:Int)(ae:PX×S->Prop):(bif Zr k then bif Zb k then bif decide ((0:Int)<=k-(1:Int)/\k-(1:Int)<Ze v) then bif cx PR (3:TypeId) (D.nth (a8 v) (Zc k)) then bif D.aj (D.nth (a8 v) (Zc k))==(0:Int) then bif Zb k then ae (PX.normal,S.mk 21 [Zl v,(3,Zs k)] []) else False else ae (PX.exit 0,S.mk 21 (Zl v::Zu k) []) else False else False else False else ae (PX.exit 0,S.mk 21 (Zl v::Zu k) []))=(aD [] [] 75 2 (qcP v k)) ae:=by kernel_rfl
def ZD(o:List Int):List (Nat×En):=[(0,En.mk 0 none (Obj.arr (3:TypeId) false (a8 o)))]
def ZB(m:Nat):P:=P.sl 0 0 m
def ZC(m:Nat):Nat×P:=(5,ZB m)
def ZA(k:Int):List (Nat×P):=[(6,P.d (Zn k))]
def Zy:Nat:=9223372036854775807
def Zz(l:List Int):Prop:=List.length l<=Zy
def Zx:Prop:=EqR [] []
def Zv(k:Int):List P:=[P.d (Zt k)]
def Zw(v:List Int)(k:Int)(l:List Int)(r:Int):Prop:=Zk v::Zv k=Zk l::Zv r
theorem qcV(v w o:List Int)(m:Nat)(k:Int)(ae:PX×S->Prop):(bif decide (k<=max (Ze v) (Ze w)) then∃(l:List Int) (r:Int),Zw v k l r/\Zx/\Zz l/\ ∃(au:List Int) (bY:Int),Zw w k au bY/\Zx/\Zz au/\bif Nat.ble m (List.length (a8 o))&&aO (m+List.length [D.int .i64 (max (eB l r) (eB au bY))]) 8 then bif Zj k then ae (PX.normal,S.mk 28 (Zl v::Zm w::(5,P.sl 0 0 (m+List.length [D.int .i64 (max (eB l r) (eB au bY))]))::ZA k) [(0,En.mk 0 none (Obj.arr (3:TypeId) false (List.take m (a8 o)++[D.int .i64 (max (eB l r) (eB au bY))])))]) else False else False else ae (PX.exit 0,S.mk 28 [ZC m] (ZD o)))=(aD [(13,V1)] [] 47 3 (qgl v w o m k)) ae:=by kernel_rfl
def ZH(k:Int):List (Nat×P):=[(9,P.d (Zn k))]
def ZG(n:Int):Nat×P:=(2,P.d (Zt n))
def ZF(r:Int):Nat×P:=(1,P.d (Zt r))
def ZE(n:Int):List D:=[Zt n]
theorem qcW(v o:List Int)(r n:Int)(m:Nat)(k:Int)(ae:PX×S->Prop):(bif decide (k<=max (Ze v) r) then bif k==r then bif Nat.ble m (List.length (a8 o))&&aO (m+List.length (ZE n)) 8 then bif Zj k then ae (PX.normal,S.mk 39 (Zl v::ZF r::ZG n::(8,P.sl 0 0 (m+List.length (ZE n)))::ZH k) [(0,En.mk 0 none (Obj.arr (3:TypeId) false (List.take m (a8 o)++ZE n)))]) else False else False else∃(l:List Int) (bY:Int),Zw v k l bY/\Zx/\Zz l/\bif Nat.ble m (List.length (a8 o))&&aO (m+List.length [D.int .i64 (eB l bY)]) 8 then bif Zj k then ae (PX.normal,S.mk 39 (Zl v::ZF r::ZG n::(8,P.sl 0 0 (m+List.length [D.int .i64 (eB l bY)]))::ZH k) [(0,En.mk 0 none (Obj.arr (3:TypeId) false (List.take m (a8 o)++[D.int .i64 (eB l bY)])))]) else False else False else ae (PX.exit 0,S.mk 39 [(8,ZB m)] (ZD o)))=(aD [(13,V1)] [] 46 5 (qgm v o r n m k)) ae:=by kernel_rfl
def ZL(k:Int):List (Nat×P):=[(7,P.d (Zn k))]
def ZK(n:Int):Nat×P:=(6,P.d (Zt n))
def ZJ:List (Nat×P):=[(2,P.d Z3)]
def ZI(k:Int)(n:Int):Bool:=decide (k<n)
theorem qcX(v:List Int)(n k:Int)(ae:PX×S->Prop):(bif ZI k n then bif Zf k v then bif Zh v k then bif decide (D.aj (D.nth (a8 v) (Zg k))<(0:Int)) then ae (PX.ret,S.mk 25 (Zl v::ZJ) []) else bif Zj k then ae (PX.normal,S.mk 25 (Zl v::(5,Zk v)::ZK n::ZL k) []) else False else False else False else ae (PX.exit 0,S.mk 25 [Zl v] []))=(aD [] [] 108 2 (qcQ v n k)) ae:=by kernel_rfl
def ZM(k:Int):List (Nat×P):=[(3,P.d (Zn k))]
theorem qcY(v:List Int)(k:Int)(ae:PX×S->Prop):(bif decide (k<Ze v) then bif Zf k v then bif Zh v k then bif decide (D.aj (D.nth (a8 v) (Zg k))<(0:Int)) then ae (PX.ret,S.mk 24 (Zl v::ZJ) []) else bif Zj k then ae (PX.normal,S.mk 24 (Zl v::ZM k) []) else False else False else False else ae (PX.exit 0,S.mk 24 [Zl v] []))=(aD [] [] 105 2 (qcR v k)) ae:=by kernel_rfl
variable{X:XF}
theorem p9{k:Int}(h0: -9223372036854775808<=k)(h1:k<9223372036854775807):decide ((-9223372036854775808:Int)<=k+(1:Int)/\k+(1:Int)<=(9223372036854775807:Int))=true:=by simp;omega
theorem lG{p:Prop}[Decidable p] (h:p):decide p=true:=by simpa using h
theorem lH{p:Prop}[Decidable p] (h: ¬p):decide p=false:=by simpa using h
theorem bk{p:Prop}[Decidable p] {A B:Prop}(h1:p->A)(h2: ¬p->B):cond (decide p) A B:=az (λh=>h1 (by simpa using h)) (λh=>h2 (by simpa using h))
theorem bu{p:Prop}[Decidable p] {A:Prop}(h1:p)(h2:A):cond (decide p) A False:=aq (by simpa using h1) h2
theorem ie{a b:Int}{A B:Prop}(h1:a=b->A)(h2:a≠b->B):cond (a==b) A B:=az (λh=>h1 (by simpa using h)) (λh=>h2 (by simpa using h))
theorem y7{a b:Int}{A B:Prop}(h1:a≠b->A)(h2:a=b->B):cond (a !=b) A B:=az (λh=>h1 (by simpa using h)) (λh=>h2 (by simpa using h))
theorem u4{o:List Int}{m:Nat}(h:m=o.length)(x:Int):List.take m (a8 o)++[D.int .i64 x]=a8 (o++[x]):=by subst h;rw[zah (by simp)];simp[a8]
theorem qgn{m n b:Nat}(h:(m+n)*b<=140737488355328)(h2:m+n<=9223372036854775807)(l:List D)(hm:m<=l.length):(Nat.ble m l.length&&aO (m+n) b)=true:=by simp[hm,da h h2]
abbrev iN(v:List Int):Prop:=v.length<=1000000
def qcZ:S->K (PX×S):=λs ae=> ∃v w,s=qcO v w 0/\(v.length=w.length/\iN v)/\(v≠w->ae (.ret,⟨26,[(4,.d (.bool false))],[]⟩))/\(v=w->ae (.exit 0,⟨26,[],[]⟩))
theorem Xz:LD X 26 4 (ah (aL 26 4) qcZ):=LD.par (H:=[]) (hk:=[]) (by kernel_rfl) (by kernel_rfl) .nil .nil
 (A:=List Int×List Int) (B:=Int) (λa k=>qcO a.1 a.2 k)
 (λa k=>(a.1.length=a.2.length/\iN a.1)/\0<=k/\k<=a.1.length/\ ∀i:Nat,(i:Int)<k->a.1.getD i 0=a.2.getD i 0)
 (λa k=>(a.1.length-k).toNat)
 (λa x=>(a.1≠a.2/\x=(.ret,⟨26,[(4,.d (.bool false))],[]⟩))\/(a.1=a.2/\x=(.exit 0,⟨26,[],[]⟩)))
 (by
  rintro⟨v,w⟩ k ⟨⟨hl,hs⟩,h0,h1,he⟩;dsimp only at*
  (rw[<-qcS];delta Zn Zo Zk Zm Zl Za Z9 Zj Z3 Zi Zg Zh Ze Zf)
  simp only[dN];unfold iN at hs;refine bk (λh=> ?_) λh=> ?_
  ·rw[lF (by omega),lF (by omega)];refine bu (by omega) (aq (Jk _) (bu (by omega) (aq (Jk _) (y7 (λh'=> ?_) λh'=>aq (p9 (by omega) (by omega)) ?_))))
   ·exact .inl ⟨λe=>h' (by rw[e]),rfl⟩
   exact⟨_,by omega,k+1,rfl,⟨⟨hl,hs⟩,by omega,by omega,λi hi=>by
    by_cases e:(i:Int)=k
    ·have:i=k.toNat:=by omega
     rw[this];exact h'
    exact he i (by omega)⟩,rfl⟩
  exact .inr ⟨ext_get hl λi=>by
   by_cases hi:(i:Int)<k
   ·exact he i hi
   rw[mq (by omega),mq (by omega)],rfl⟩)
 (by
  rintro s ae ⟨v,w,rfl,h1,h2,h3⟩;refine⟨(v,w),0,rfl,⟨h1,by omega,by omega,λi hi=>by omega⟩,?_⟩;rintro x (⟨h,rfl⟩| ⟨h,rfl⟩)
  ·exact h2 h
  exact h3 h)
theorem Nz(v:List Int)(n:Nat):(a8 v).take n=a8 (v.take n):=by simp[a8]
def qc0:S->K (PX×S):=λs ae=> ∃v,s=Xy v/\iN v/\ae (.exit 0,⟨21,[(0,vD (bb v))],[]⟩)
theorem XA:LD X 74 1 (ah (aL 74 1) qc0):=LD.par (H:=[]) (hk:=[]) (by kernel_rfl) (by kernel_rfl) .nil .nil
 (A:=List Int) (B:=Nat) (λa k=>Xy (a.take k))
 (λa k=>iN a/\k<=a.length/\mX a k=mX a a.length)
 (λa k=>k)
 (λa x=>x=(.exit 0,⟨21,[(0,vD (bb a))],[]⟩))
 (by
  rintro v k ⟨hs,h1,he⟩
  (rw[<-qcT];delta Zk Zl Zq Za Ze Z9 Zp)
  have hlen:(v.take k).length=k:=by simp;omega
  unfold iN at hs;simp only[dN,hlen];refine bk (λh=> ?_) λh=> ?_
  ·have hk:((k:Int)-1).toNat=k-1:=by omega
   have hg:(v.take k).getD (k-1) 0=v.getD (k-1) 0:=by simp[zac,show k-1<k by omega]
   obtain⟨j,rfl⟩: ∃j,k=j+1:=⟨k-1,by omega⟩
   simp only[hk];rw[lF (by omega),hg];simp only[Nat.add_sub_cancel] at*
   refine bu (by omega) (bu (by omega) (aq (Jk _) (ie (λh'=> ?_) λh'=> ?_)))
   ·replace h':v.getD j 0=0:=h'
    refine bu (by omega) (bu (by omega) ?_);refine⟨_,zbY j,j,?_,⟨hs,by omega,by rw[<-he,mX,zao h']⟩,rfl⟩;simp[Xy,a8,List.take_take]
   replace h':v.getD j 0≠0:=h'
   have:bb v=v.take (j+1):=by rw[bb,<-he,mX,zal h']
   show _=_;rw[this]
  have:k=0:=by omega
  subst this;have:bb v=v.take 0:=by rw[bb,<-he];rfl
  show _=_;rw[this])
 (by rintro s ae ⟨v,rfl,h1,h2⟩;refine⟨v,v.length,by rw[zaj],⟨h1,zak _,rfl⟩,?_⟩;rintro x rfl;exact h2)
def qc1:S->K (PX×S):=λs ae=> ∃v n,s=qcP v n/\(n=(v.length:Int)/\iN v)/\ae (.exit 0,⟨21,[(0,vD v),(3,iD (mX v v.length))],[]⟩)
theorem XB:LD X 75 2 (ah (aL 75 2) qc1):=LD.par (H:=[]) (hk:=[]) (by kernel_rfl) (by kernel_rfl) .nil .nil
 (A:=List Int) (B:=Int) (λa k=>qcP a k)
 (λa k=>iN a/\0<=k/\k<=a.length/\mX a k.toNat=mX a a.length)
 (λa k=>k.toNat)
 (λa x=>x=(.exit 0,⟨21,[(0,vD a),(3,iD (mX a a.length))],[]⟩))
 (by
  rintro v k ⟨hs,h0,h1,he⟩
  (rw[<-qcU];delta Zt Zu Zs Zk Zl Zc Ze Za Z9 Zb Zr)
  unfold iN at hs;simp only[dN];refine bk (λh=> ?_) λh=> ?_
  ·have hj:k.toNat=(k-1).toNat+1:=by omega
   rw[lF (by omega)];refine bu (by omega) (bu (by omega) (aq (Jk _) (ie (λh'=> ?_) λh'=> ?_)))
   ·replace h':v.getD (k-1).toNat 0=0:=h'
    refine bu (by omega) ⟨_,by omega,k-1,rfl,⟨hs,by omega,by omega,by rw[<-he,hj,mX,zao h']⟩,rfl⟩
   replace h':v.getD (k-1).toNat 0≠0:=h'
   rw[hj,mX,zal h'] at he;show _=_;rw[<-he];simp;omega
  have:k=0:=by omega
  subst this;show _=_;rw[<-he];rfl)
 (by rintro s ae ⟨v,n,rfl,⟨hn,h1⟩,h2⟩;refine⟨v,n,rfl,⟨h1,by omega,by omega,by rw[hn];rfl⟩,?_⟩;rintro x rfl;exact h2)
variable{X:XF}
def Rv(f:Nat->Int)(k:Nat)(o:List Int):Prop:= ∀i,i<k->o.getD i 0=f i
theorem Rv.set{f:Nat->Int}{k:Nat}{o:List Int}(h:Rv f k o)(hk:k<o.length):Rv f (k+1) (o.set k (f k)):=λi hi=>by
 by_cases e:i=k
 ·subst e;simp[zac,hk]
 have:=h i (by omega);simpa [zac,List.getElem?_set,zbD e] using this
theorem Rv.all{f:Nat->Int}{o:List Int}(h:Rv f o.length o):o=pb o.length f:=ext_get (by simp) λi=>by
 rw[p8];split
 ·exact h i (by assumption)
 exact mq (by omega)
theorem NA(n:Nat)(f:Nat->Int):pb (n+1) f=pb n f++[f n]:=by simp[pb,List.range_succ]
theorem qbt{m:Nat}(h:m<=1000000)(x:D):aO (m+List.length [x]) 8=true:=da (by simp;omega) (by simp;omega)
def Gq(g:Int->Int->Int)(v w:List Int)(n:Nat):List Int:=pb n λi=>g (eB v (i+1)) (eB w (i+1))
theorem Lj{f id n t:Nat}{H:List (FuncId×bm)}(hH:HD X H)(hu:uniq PR f=true)(hc:cd (qK f) (bB PR f id)=true)
  {A:Type} (hd:A->List Int->Nat->Int->S) (Pre:A->Prop) (len:A->Nat) (F:A->Nat->Int)
  (hvc: ∀(a:A) (o:List Int) (m:Nat) (k:Int),Pre a->len a<=1000000->1<=k->k<=len a+1->m=o.length->(m:Int)+1=k-> ∀ae,(k<=len a->ae (.normal,hd a (o++[F a m]) (m+1) (k+1)))->(¬k<=len a->ae (.exit 0,⟨n,[(t,P.sl 0 0 m)],[(0,⟨0,none,.arr 3 false (a8 o)⟩)]⟩))->aD H [] f id (hd a o m k) ae)
  {g:S->K (PX×S)} (hg: ∀s ae,g s ae-> ∃a,s=hd a [] 0 1/\Pre a/\len a<=1000000/\ae (.exit 0,⟨n,[(t,P.sl 0 0 (len a))],[(0,⟨0,none,.arr 3 false (a8 (pb (len a) (F a)))⟩)]⟩)):
  LD X f id (ah (aL f id) g):=LD.par (H:=H) (hk:=[]) hu hc hH .nil
 (A:=A) (B:=List Int×Nat×Int) (λa b=>hd a b.1 b.2.1 b.2.2)
 (λa b=>Pre a/\len a<=1000000/\b.2.1<=len a/\b.1=pb b.2.1 (F a)/\b.2.2=b.2.1+1)
 (λa b=>len a+1-b.2.1)
 (λa x=>x=(.exit 0,⟨n,[(t,P.sl 0 0 (len a))],[(0,⟨0,none,.arr 3 false (a8 (pb (len a) (F a)))⟩)]⟩))
 (by
  rintro a ⟨o,m,k⟩ ⟨hp,hl,hm,ho,hk⟩;dsimp only at*
  refine hvc a o m k hp hl (by omega) (by omega) (by rw[ho];simp) (by omega) _ (λh=> ?_) λh=> ?_
  ·exact⟨_,by dsimp only;omega,(o++[F a m],m+1,k+1),rfl,⟨hp,hl,by dsimp only;omega,by rw[ho,NA],by dsimp only;omega⟩,rfl⟩
  have:m=len a:=by omega
  subst this;subst ho;rfl)
 (by intro s ae hs;obtain⟨a,rfl,h1,h2,h3⟩:=hg s ae hs;refine⟨a,([],0,1),rfl,⟨h1,h2,za5 _,rfl,rfl⟩,?_⟩;rintro x rfl;exact h3)
def qc2(g:Int->Int->Int):S->K (PX×S):=λs ae=> ∃v w es,s=⟨28,[(0,vD v),(1,vD w),(5,P.sl 0 0 0),(6,iD 1)],[(0,⟨0,none,.arr 3 false es⟩)]⟩/\(es=[]/\iN v/\iN w)/\
 ae (.exit 0,⟨28,[(5,P.sl 0 0 (max v.length w.length))],[(0,⟨0,none,.arr 3 false (a8 (Gq g v w (max v.length w.length)))⟩)]⟩)
theorem XC:LD X 47 3 (ah (aL 47 3) (qc2 max)):=Lj (H:=[(13,V1)]) (.cons Gp .nil) (by kernel_rfl) (by kernel_rfl)
 (A:=List Int×List Int) (λa o m k=>qgl a.1 a.2 o m k) (λa=>iN a.1/\iN a.2) (λa=>max a.1.length a.2.length) (λa i=>max (eB a.1 (i+1)) (eB a.2 (i+1)))
 (by
  rintro⟨v,w⟩ o m k ⟨hv,hw⟩ hl h1 h2 hm hk ae p1 p2;dsimp only at*
  unfold iN at hv hw
  (rw[<-qcV];delta ZD ZB ZC Zn ZA Zk Zm Zl Za Z9 Zj Zy Zz Zx Zt Zv Zw Ze)
  simp only[dN];refine bk (λh=> ?_) λh=>p2 (by omega);refine⟨v,k,rfl,rfl,by omega,w,k,rfl,rfl,by omega,aq ?_ (aq (p9 (by omega) (by omega)) ?_)⟩
  ·rw[qbt (by omega)];simp;omega
  rw[u4 hm];have:=p1 (by omega);rw[hk] at this;exact this)
 (by rintro s ae ⟨v,w,es,rfl,⟨rfl,hv,hw⟩,hp⟩;refine⟨(v,w),rfl,⟨hv,hw⟩,by unfold iN at hv hw;dsimp only;omega,hp⟩)
def qc3:S->K (PX×S):=λs ae=> ∃v r n es,s=⟨39,[(0,vD v),(1,iD r),(2,iD n),(8,P.sl 0 0 0),(9,iD 1)],[(0,⟨0,none,.arr 3 false es⟩)]⟩/\(es=[]/\iN v/\1<=r/\r<=16)/\
 ae (.exit 0,⟨39,[(8,P.sl 0 0 (max v.length r.toNat))],[(0,⟨0,none,.arr 3 false (a8 (e8 v r n))⟩)]⟩)
theorem XD:LD X 46 5 (ah (aL 46 5) qc3):=Lj (H:=[(13,V1)]) (.cons Gp .nil) (by kernel_rfl) (by kernel_rfl)
 (A:=List Int×Int×Int) (λa o m k=>qgm a.1 o a.2.1 a.2.2 m k) (λa=>iN a.1/\1<=a.2.1/\a.2.1<=16) (λa=>max a.1.length a.2.1.toNat) (λa i=>if(i:Int)+1=a.2.1 then a.2.2 else eB a.1 (i+1))
 (by
  rintro⟨v,r,n⟩ o m k ⟨hv,uA,hr1⟩ hl h1 h2 hm hk ae p1 p2;dsimp only at*
  unfold iN at hv
  (rw[<-qcW];delta ZD ZB Zy Zz Zx Zt Zv Zk Zw Zn ZH ZG ZF Zl Za Z9 Zj ZE Ze)
  simp only[dN];have oS: ∀x:D,(Nat.ble m (a8 o).length&&aO (m+List.length [x]) 8)=true:=λx=>by rw[qbt (by omega)];simp;omega
  simp only[dN] at oS;refine bk (λh=> ?_) λh=>p2 (by omega);have:=p1 (by omega);rw[hk] at this;refine ie (λh'=> ?_) λh'=> ?_
  ·rw[zao h'] at this;refine aq (oS _) (aq (p9 (by omega) (by omega)) ?_);rw[u4 hm];exact this
  rw[zal h'] at this;refine⟨v,k,rfl,rfl,by omega,aq (oS _) (aq (p9 (by omega) (by omega)) ?_)⟩;rw[u4 hm];exact this)
 (by rintro s ae ⟨v,r,n,es,rfl,⟨rfl,hv,h1,h2⟩,hp⟩;refine⟨(v,r,n),rfl,⟨hv,h1,h2⟩,by unfold iN at hv;dsimp only;omega,hp⟩)
def qc4:S->K (PX×S):=λs ae=> ∃v n,s=qcQ v n 0/\(n=v.length/\iN v)/\(¬(∀x∈v,0<=x)->ae (.ret,⟨25,[(0,vD v),(2,.d (.bool false))],[]⟩))/\((∀x∈v,0<=x)->ae (.exit 0,⟨25,[(0,vD v)],[]⟩))
def qc5:S->K (PX×S):=λs ae=> ∃v,s=qcR v 0/\iN v/\(¬(∀x∈v,0<=x)->ae (.ret,⟨24,[(0,vD v),(2,.d (.bool false))],[]⟩))/\((∀x∈v,0<=x)->ae (.exit 0,⟨24,[(0,vD v)],[]⟩))
def y8:bm:=λps R ae=> ∃v w,ps=[vD v,vD w]/\R=[]/\iN v/\ae (.d (.bool (decide (v=w))),[])
def jb:bm:=λps R ae=> ∃v,ps=[vD v]/\R=[]/\iN v/\ae (vD (bb v),[])
def Jl:bm:=λps R ae=> ∃v w,ps=[vD v,vD w]/\R=[]/\(iN v/\iN w)/\ae (vD (mN v w),[])
def qgo:bm:=λps R ae=> ∃v r n,ps=[vD v,iD r,iD n]/\R=[]/\iN v/\(¬(1<=r/\r<=16)->ae (.cT [.sl 0 0 0,iD 1],[(0,⟨0,none,.arr 3 false []⟩)]))/\((1<=r/\r<=16)->ae (.cT [vD (bb (e8 v r n)),iD 0],[]))
def qgp:bm:=λps R ae=> ∃v,ps=[vD v]/\R=[]/\iN v/\ae (.d (.bool (dp v)),[])
def ZO:P:=P.d (D.bool true)
def ZP(ae:P×List (Nat×En)->Prop):Prop:=ae (ZO,[])
def ZN:List (Nat×P):=[(5,P.d Z7)]
theorem qgq(v w:List Int)(ae:P×List (Nat×En)->Prop):(bif Ze v !=Ze w then Z4 ae else∃(cI:List Int) (EE:List Int),S.mk 26 (Zl v::Zm w::ZN) []=S.mk 26 (Zl cI::Zm EE::ZN) []/\(List.length cI=List.length EE/\iN cI)/\(cI≠EE->Z4 ae)/\(cI=EE->ZP ae))=(aJ [] [(4,ah (aL 26 4) qcZ)] 26 [vD v,vD w] []) ae:=by kernel_rfl
theorem qgr(v:List Int)(ae:P×List (Nat×En)->Prop):(∃(cI:List Int),S.mk 21 [(0,P.d (D.sl 1 (a8 v)))] []=S.mk 21 [(0,P.d (D.sl 1 (a8 cI)))] []/\iN cI/\ae (P.d (D.sl 1 (a8 (bb cI))),[]))=(aJ [] [(1,ah (aL 74 1) qc0)] 74 [vD v] []) ae:=by kernel_rfl
theorem XE(v:List Int)(ae:P×List (Nat×En)->Prop):(∃(cI:List Int),[P.d (D.sl 1 (a8 v))]=[P.d (D.sl 1 (a8 cI))]/\EqR [] []/\iN cI/\ae (P.d (D.sl 1 (a8 (bb cI))),[]))=(aJ [(74,jb)] [] 45 [vD v] []) ae:=by kernel_rfl
theorem qgs(v:List Int)(ae:P×List (Nat×En)->Prop):(∃(cI:List Int) (n:Int),S.mk 21 [Zl v,(3,P.d (D.int .i64 (Ze v)))] []=S.mk 21 (Zl cI::Zu n) []/\(n=(↑(List.length cI):Int)/\iN cI)/\bif decide ((0:Int)<=(↑(mX cI (List.length cI)):Int)/\(↑(mX cI (List.length cI)):Int)<=Ze cI) then ae (P.d (D.sl 1 (List.drop 0 (List.take (mX cI (List.length cI)) (a8 cI)))),[]) else False)=(aJ [] [(2,ah (aL 75 2) qc1)] 75 [vD v] []) ae:=by kernel_rfl
def ZW(v:List Int):List P:=[Zk v]
def ZV(es:List D):List (Nat×En):=[(0,En.mk 0 none (Obj.arr (3:TypeId) false es))]
def ZT:En:=En.mk 0 none (Obj.arr (3:TypeId) false [])
def ZU:List (Nat×En):=[(0,ZT)]
def ZR:D:=D.int .i64 (1:Int)
def ZQ:P:=P.sl 0 0 0
def ZS(v:List Int)(w:List Int):List (Nat×P):=[Zl v,Zm w,(5,ZQ),(6,P.d ZR)]
theorem Rw(v w:List Int)(ae:P×List (Nat×En)->Prop):(∃(cI:List Int) (EE:List Int) (es:List D),S.mk 28 (ZS v w) ZU=S.mk 28 (ZS cI EE) (ZV es)/\(es=[]/\iN cI/\iN EE)/\ ∃(v:List Int),[P.d (D.sl 1 (List.take (max (List.length cI) (List.length EE)) (a8 (Gq max cI EE (max (List.length cI) (List.length EE))))))]=ZW v/\Zx/\iN v/\ae (P.d (D.sl 1 (a8 (bb v))),[]))=(aJ [(75,jb)] [(3,ah (aL 47 3) (qc2 max))] 47 [vD v,vD w] []) ae:=by kernel_rfl
def mr:List P:=[P.d Z7]
def ZZ(v:List Int)(r:Int)(n:Int):List (Nat×P):=[Zl v,ZF r,ZG n,(8,ZQ),(9,P.d ZR)]
def ZY(r:Int):Bool:=decide (r>(16:Int))
def ZX:List P:=[P.d ZR]
theorem XG(v:List Int)(r n:Int)(ae:P×List (Nat×En)->Prop):(bif Z6 r then ae (P.cT (ZQ::ZX),ZU) else bif ZY r then ae (P.cT (ZQ::ZX),ZU) else∃(cI:List Int) (bY:Int) (cz:Int) (es:List D),S.mk 39 (ZZ v r n) ZU=S.mk 39 (ZZ cI bY cz) (ZV es)/\(es=[]/\iN cI/\(1:Int)<=bY/\bY<=(16:Int))/\ ∃(v:List Int),[P.d (D.sl 1 (List.take (max (List.length cI) (Zg bY)) (a8 (e8 cI bY cz))))]=ZW v/\Zx/\iN v/\ae (P.cT (P.d (D.sl 1 (a8 (bb v)))::mr),[]))=(aJ [(75,jb)] [(5,ah (aL 46 5) qc3)] 46 [vD v,iD r,iD n] []) ae:=by kernel_rfl
def Z12(cI:List Int):Prop:= ∀(x:Int),x∈cI->(0:Int)<=x
def sw:List (Nat×P):=[(7,P.d Z7)]
theorem qgt(v:List Int)(ae:P×List (Nat×En)->Prop):(∃(cI:List Int) (n:Int),S.mk 25 (Zl v::(5,Zk v)::(6,P.d (D.int .i64 (Ze v)))::sw) []=S.mk 25 (Zl cI::(5,Zk cI)::ZK n::sw) []/\(n=(↑(List.length cI):Int)/\iN cI)/\(¬Z12 cI->Z4 ae)/\(Z12 cI->bif decide (Ze cI<=(16:Int)) then∃(v:List Int),ZW cI=ZW v/\Zx/\iN v/\ae (P.d (D.bool ((↑(List.length (a8 (bb v))):Int)==Ze cI)),[]) else Z4 ae))=(aJ [(45,jb)] [(2,ah (aL 108 2) qc4)] 108 [vD v] []) ae:=by kernel_rfl
def Z14(y9:List Int)(ae:P×List (Nat×En)->Prop)(w:List Int):Prop:=Zx/\iN y9/\ae (P.d (D.bool (decide (y9=w))),[])
def Z13:List (Nat×P):=[(3,P.d Z7)]
theorem qgu(v:List Int)(ae:P×List (Nat×En)->Prop):(∃(cI:List Int),S.mk 24 (Zl v::Z13) []=S.mk 24 (Zl cI::Z13) []/\iN cI/\(¬Z12 cI->Z4 ae)/\(Z12 cI->bif decide (Ze cI<=(16:Int)) then∃(v:List Int),ZW cI=ZW v/\Zx/\iN v/\ ∃(y9:List Int) (w:List Int),[Zk cI,P.d (D.sl 1 (a8 (bb v)))]=Zk y9::ZW w/\Z14 y9 ae w else Z4 ae))=(aJ [(75,jb),(26,y8)] [(2,ah (aL 105 2) qc5)] 105 [vD v] []) ae:=by kernel_rfl
variable{X:XF}
theorem Dz(v:List Int):(∀x∈v,0<=x)↔ ∀i:Nat,i<v.length->0<=v.getD i 0:=by
 constructor
 ·intro h i hi;have:=h v[i] (zas hi);simpa [zac,hi] using this
 intro h x hx;obtain⟨i,hi,rfl⟩:=zaW hx;have:=h i hi;simpa [zac,hi] using this
theorem XH:LD X 108 2 (ah (aL 108 2) qc4):=LD.par (H:=[]) (hk:=[]) (by kernel_rfl) (by kernel_rfl) .nil .nil
 (A:=List Int×Int) (B:=Int) (λa k=>qcQ a.1 a.2 k)
 (λa k=>(a.2=a.1.length/\iN a.1)/\0<=k/\k<=a.1.length/\ ∀i:Nat,(i:Int)<k->0<=a.1.getD i 0)
 (λa k=>(a.1.length-k).toNat)
 (λa x=>((¬ ∀x∈a.1,0<=x)/\x=(.ret,⟨25,[(0,vD a.1),(2,.d (.bool false))],[]⟩))\/((∀x∈a.1,0<=x)/\x=(.exit 0,⟨25,[(0,vD a.1)],[]⟩)))
 (by
  rintro⟨v,n⟩ k ⟨⟨hn,hs⟩,h0,h1,he⟩;dsimp only at*
  subst hn
  (rw[<-qcX];delta Zn ZL Zt ZK Zk Za Z9 Zj Z3 ZJ Zl Zg Zh Ze Zf ZI)
  unfold iN at hs;simp only[dN];refine bk (λh=> ?_) λh=> ?_
  ·rw[lF (by omega)];refine bu (by omega) (aq (Jk _) (bk (λh'=> ?_) λh'=>aq (p9 (by omega) (by omega)) ?_))
   ·replace h':v.getD k.toNat 0<0:=h'
    refine .inl ⟨λhh=> ?_,rfl⟩;have:=(Dz v).1 hh k.toNat (by omega);omega
   replace h': ¬v.getD k.toNat 0<0:=h'
   exact⟨_,by omega,k+1,rfl,⟨⟨by simp,hs⟩,by omega,by first |omega | (dsimp only;omega),λi hi=>by
    by_cases e:(i:Int)=k
    ·have:i=k.toNat:=by omega
     rw[this];first |omega | (dsimp only;omega)
    exact he i (by omega)⟩,rfl⟩
  exact .inr ⟨(Dz v).2 λi hi=>he i (by omega),rfl⟩)
 (by
  rintro s ae ⟨v,n,rfl,⟨hn,h1⟩,h2,h3⟩;refine⟨(v,n),0,rfl,⟨⟨hn,h1⟩,by omega,by omega,λi hi=>by omega⟩,?_⟩;rintro x (⟨h,rfl⟩| ⟨h,rfl⟩)
  ·exact h2 h
  exact h3 h)
theorem XI:LD X 105 2 (ah (aL 105 2) qc5):=LD.par (H:=[]) (hk:=[]) (by kernel_rfl) (by kernel_rfl) .nil .nil
 (A:=List Int) (B:=Int) (λa k=>qcR a k)
 (λa k=>iN a/\0<=k/\k<=a.length/\ ∀i:Nat,(i:Int)<k->0<=a.getD i 0)
 (λa k=>(a.length-k).toNat)
 (λa x=>((¬ ∀x∈a,0<=x)/\x=(.ret,⟨24,[(0,vD a),(2,.d (.bool false))],[]⟩))\/((∀x∈a,0<=x)/\x=(.exit 0,⟨24,[(0,vD a)],[]⟩)))
 (by
  rintro v k ⟨hs,h0,h1,he⟩
  (rw[<-qcY];delta Zn ZM Za Z9 Zj Z3 ZJ Zk Zl Zg Zh Ze Zf)
  unfold iN at hs;simp only[dN];refine bk (λh=> ?_) λh=> ?_
  ·rw[lF (by omega)];refine bu (by omega) (aq (Jk _) (bk (λh'=> ?_) λh'=>aq (p9 (by omega) (by omega)) ?_))
   ·replace h':v.getD k.toNat 0<0:=h'
    refine .inl ⟨λhh=> ?_,rfl⟩;have:=(Dz v).1 hh k.toNat (by omega);omega
   replace h': ¬v.getD k.toNat 0<0:=h'
   exact⟨_,by omega,k+1,rfl,⟨hs,by omega,by omega,λi hi=>by
    by_cases e:(i:Int)=k
    ·have:i=k.toNat:=by omega
     rw[this];omega
    exact he i (by omega)⟩,rfl⟩
  exact .inr ⟨(Dz v).2 λi hi=>he i (by omega),rfl⟩)
 (by
  rintro s ae ⟨v,rfl,h1,h2,h3⟩;refine⟨v,0,rfl,⟨h1,by omega,by omega,λi hi=>by omega⟩,?_⟩;rintro x (⟨h,rfl⟩| ⟨h,rfl⟩)
  ·exact h2 h
  exact h3 h)
theorem Jm:FD X 26 y8:=FD.mk (H:=[]) (hk:=[(4,ah (aL 26 4) qcZ)]) (by kernel_rfl) .nil (.cons Xz .nil) (by
 intro ps R ae hh;obtain⟨v,w,rfl,rfl,hv,hp⟩:=hh
 (rw[<-qgq];delta ZO ZP Z7 ZN Zk Zm Zl Z3 Z4 Ze)
 simp only[dN];refine y7 (λh=> ?_) λh=>⟨v,w,rfl,⟨by omega,hv⟩,λhn=> ?_,λhe=> ?_⟩
 ·exact fU hp (lH λe=>h (by rw[e]))
 ·exact fU hp (lH hn)
 exact fU hp (lG he))
theorem qgv:FD X 74 jb:=FD.mk (H:=[]) (hk:=[(1,ah (aL 74 1) qc0)]) (by kernel_rfl) .nil (.cons XA .nil) (by intro ps R ae hh;obtain⟨v,rfl,rfl,hv,hp⟩:=hh;rw[<-qgr];exact⟨v,rfl,hv,hp⟩)
theorem Lk:FD X 45 jb:=FD.mk (H:=[(74,jb)]) (hk:=[]) (by kernel_rfl) (.cons qgv .nil) .nil (by intro ps R ae hh;obtain⟨v,rfl,rfl,hv,hp⟩:=hh;rw[<-XE];exact⟨v,rfl,rfl,hv,hp⟩)
theorem Rx:FD X 75 jb:=FD.mk (H:=[]) (hk:=[(2,ah (aL 75 2) qc1)]) (by kernel_rfl) .nil (.cons XB .nil) (by
 intro ps R ae hh;obtain⟨v,rfl,rfl,hv,hp⟩:=hh
 (rw[<-qgs];delta Zt Zu Ze Zk Zl)
 simp only[dN];refine⟨v,_,rfl,⟨rfl,hv⟩,bu ?_ ?_⟩
 ·have:=ov v v.length;omega
 rw[Nz];exact hp)
theorem Ll(g:Int->Int->Int)(v w:List Int)(m:Nat):(Gq g v w m).length=m:=by simp[Gq]
theorem tV{o:List Int}{m:Nat}(h:o.length=m):(a8 o).take m=a8 o:=by rw[zah (by simp[h])]
theorem Ry:FD X 47 Jl:=FD.mk (H:=[(75,jb)]) (hk:=[(3,ah (aL 47 3) (qc2 max))]) (by kernel_rfl) (.cons Rx .nil) (.cons XC .nil) (by
 intro ps R ae hh;obtain⟨v,w,rfl,rfl,h,hp⟩:=hh
 (rw[<-Rw];delta Zx Zk ZW ZV ZT ZU ZR ZQ Zm Zl ZS)
 refine⟨v,w,_,rfl,⟨rfl,h⟩,Gq max v w (max v.length w.length),by rw[tV (Ll ..)],rfl,?_,hp⟩;unfold iN at*;rw[Ll];omega)
theorem qgw:FD X 108 qgp:=FD.mk (H:=[(45,jb)]) (hk:=[(2,ah (aL 108 2) qc4)]) (by kernel_rfl) (.cons Lk .nil) (.cons XH .nil) (by
 intro ps R ae hh;obtain⟨v,rfl,rfl,hv,hp⟩:=hh
 (rw[<-qgt];delta Zx Zk ZW Z3 Z4 Z12 Zt ZK Z7 sw Ze Zl)
 simp only[dN];refine⟨v,_,rfl,⟨rfl,hv⟩,λh=>fU hp (lH λhh=>h hh.1),λh=>bk (λh'=>⟨v,rfl,rfl,hv,?_⟩) λh'=> ?_⟩
 ·refine fU hp ?_;rw[dp,zaH];simp only[zai,zaT];constructor
  ·rintro⟨_,_,h3⟩;omega
  intro h3;exact⟨h,by omega,by omega⟩
 exact fU hp (lH λhh=>h' (by omega)))
theorem qgx:FD X 105 qgp:=FD.mk (H:=[(75,jb),(26,y8)]) (hk:=[(2,ah (aL 105 2) qc5)]) (by kernel_rfl) (.cons Rx (.cons Jm .nil)) (.cons XI .nil) (by
 intro ps R ae hh;obtain⟨v,rfl,rfl,hv,hp⟩:=hh
 (rw[<-qgu];delta Zx Z14 Zk ZW Ze Z3 Z4 Z12 Z7 Z13 Zl)
 simp only[dN];refine⟨v,rfl,hv,λh=>fU hp (lH λhh=>h hh.1),λh=>bk (λh'=>⟨v,rfl,rfl,hv,v,bb v,rfl,rfl,hv,?_⟩) λh'=> ?_⟩
 ·refine fU hp ?_;rw[dp,zaH];simp only[zai];constructor
  ·rintro⟨_,_,h3⟩;have hl:=ov v v.length;rw[oz] at h3;rw[bb,h3,zaj]
  intro h3;exact⟨h,by omega,by rw[<-h3]⟩
 exact fU hp (lH λhh=>h' (by omega)))
theorem XJ:FD X 46 qgo:=FD.mk (H:=[(75,jb)]) (hk:=[(5,ah (aL 46 5) qc3)]) (by kernel_rfl) (.cons Rx .nil) (.cons XD .nil) (by
 intro ps R ae hh;obtain⟨v,r,n,rfl,rfl,hv,bX,dz⟩:=hh
 (rw[<-XG];delta Z7 mr Zx Zk ZW Zg ZV ZR ZQ Zt ZG ZF Zl ZZ ZY ZT ZU ZX Z6)
 have KK:=hv;unfold iN at KK;have hl:(e8 v r n).length=max v.length r.toNat:=by simp[e8]
 refine bk (λh=>bX (by omega)) λh=>bk (λh'=>bX (by omega)) λh'=>⟨v,r,n,_,rfl,⟨rfl,hv,by omega,by omega⟩,e8 v r n,by rw[tV hl],rfl,by unfold iN;rw[hl];omega,dz (by omega)⟩)
def BZ(t r i:Int):List UInt8:=Lib.itoa t++[46]++Lib.itoa r++[46]++Lib.itoa i
def lI(t r i:Int):List UInt8:=if cy t r i=true then BZ t r i else []
def Rz:bm:=λps R ae=> ∃t r i,ps=[.d (Nw t r i)]/\R=[]/\ae (.d (.str (lI t r i)),[])
variable{X:XF}
theorem AW: ∀u:Nat,(Lib.decDigits u).length<=u+1:=by
 intro u
 induction u using Nat.strongRecOn with
 |_ u ih=>
  rw[Lib.decDigits];split
  ·simp
  have:=ih (u/10) (by omega);simp only[zan,zap,zat];omega
theorem za{n:Int}(h0:0<=n)(h1:n<=1099511627776):(Lib.itoa n).length<=1099511627777:=by unfold Lib.itoa;rw[zal (by omega)];have:=AW n.toNat;omega
structure qiE(s:List UInt8):Prop where
 len:s.length<4294967281
 cnt:(Lib.split s [46]).length=Lib.count s [46]+1
 lim:Lib.count s [46]<=4294967281
 each: ∀x∈Lib.split s [46],x.length<=281474976710656
def oB(k:Nat):UInt8:=UInt8.ofNat (48+k)
theorem u5{u:Nat}(h:u<10):Lib.decDigits u=[oB u]:=by rw[Lib.decDigits,dif_pos h];rfl
theorem Lm{u:Nat}(h: ¬u<10):Lib.decDigits u=Lib.decDigits (u/10)++[oB (u%10)]:=by rw[Lib.decDigits,dif_neg h];rfl
theorem Ln: ∀(k u:Nat),u<10^(k+1)->(Lib.decDigits u).length<=k+1
 |0,u,h=>by rw[u5 (by simpa using h)];simp
 |k+1,u,h=>by
  by_cases hu:u<10
  ·rw[u5 hu];simp
  rw[Lm hu];have:=Ln k (u/10) (by rw[zcF (by omega)];rw[Nat.pow_succ] at h;exact h);simp;omega
abbrev sD(s:List UInt8):P:= .d (.str s)
abbrev qc6(n:Int)(s:List UInt8):S:=⟨37,[(0,iD n),(3,sD s)],[]⟩
def qc7:S->K (PX×S):=λs ae=> ∃n,s=qc6 n []/\(0<=n/\n<=9223372036854775807)/\ ∀n' s',(0<=n'/\n'<=9/\s'.length<=9223372036854775807/\Lib.decDigits n.toNat=oB n'.toNat::s')->ae (.exit 0,⟨37,[(0,iD n'),(3,sD s')],[]⟩)
def DA:bm:=λps R ae=> ∃n,ps=[iD n]/\R=[]/\(0<=n/\n<=9223372036854775807)/\ae (sD (Lib.itoa n),[])
def sx(s:List UInt8):Nat:=List.length s
def Z15(n:Int):List UInt8:=[UInt8.ofNat (Int.toNat (D.aj (D.int .u8 (IntKind.wrap IntKind.u8 ((48:Int)+Int.tmod n (10:Int))))))]
theorem qc8(n:Int)(s:List UInt8)(ae:PX×S->Prop):(bif decide (n>(9:Int)) then bif decide (Z9<=(48:Int)+Int.tmod n (10:Int)/\(48:Int)+Int.tmod n (10:Int)<=Za) then bif decide (List.length (Z15 n)+sx s<=Zy) then bif decide (Z9<=Int.tdiv n (10:Int)/\Int.tdiv n (10:Int)<=Za) then ae (PX.normal,S.mk 37 [(0,P.d (D.int .i64 (Int.tdiv n (10:Int)))),(3,P.d (D.str (Z15 n++s)))] []) else False else False else False else ae (PX.exit 0,S.mk 37 [(0,P.d (Zt n)),(3,P.d (D.str s))] []))=(aD [] [] 186 4 (qc6 n s)) ae:=by kernel_rfl
def Z1b(n':Int):List UInt8:=[UInt8.ofNat (Int.toNat (D.aj (D.int .u8 (IntKind.wrap IntKind.u8 ((48:Int)+n')))))]
def Z1a(cz:Int):Prop:=(0:Int)<=cz/\cz<=Za
def z7:D:=D.str []
def Z19(n:Int):S:=S.mk 37 [(0,P.d (Zt n)),(3,P.d z7)] []
def NB(n:Int):Bool:=decide (n<(0:Int))
theorem qgy(n:Int)(ae:P×List (Nat×En)->Prop):(bif NB n then bif decide (Z9<=(0:Int)-n/\(0:Int)-n<=Za) then False else False else∃(cz:Int),Z19 n=Z19 cz/\Z1a cz/\ ∀(n':Int) (s':List UInt8),(0:Int)<=n'/\n'<=(9:Int)/\sx s'<=Zy/\Lib.decDigits (Zg cz)=oB (Zg n')::s'->bif decide (Z9<=(48:Int)+n'/\(48:Int)+n'<=Za) then bif decide (List.length (Z1b n')+sx s'<=Zy) then ae (P.d (D.str (Z1b n'++s')),[]) else False else False)=(aJ [(186,λ_ _ _=>False)] [(4,ah (aL 186 4) qc7)] 186 [iD n] []) ae:=by kernel_rfl
def RA:List UInt8:=[(46:UInt8)]
def Z1e(n:Int)(cz:Int):List UInt8:=Lib.itoa n++RA++Lib.itoa cz++RA
def HQ(t:Int)(r:Int)(i:Int):List P:=[P.d (D.agg (Zt t::Zt r::ZE i))]
theorem XK(t r i:Int)(ae:P×List (Nat×En)->Prop):(∃(qa:Int) (bY:Int) (aI:Int),HQ t r i=HQ qa bY aI/\Zx/\bif !cy qa bY aI then ae (P.d z7,[]) else∃(n:Int),Zv t=Zv n/\Zx/\Z1a n/\bif decide (List.length (Lib.itoa n)+1<=Zy) then∃(cz:Int),Zv r=Zv cz/\Zx/\Z1a cz/\bif decide (List.length (Lib.itoa n++RA)+List.length (Lib.itoa cz)<=Zy) then bif decide (List.length (Lib.itoa n++RA++Lib.itoa cz)+1<=Zy) then∃(n_2:Int),Zv i=Zv n_2/\Zx/\Z1a n_2/\bif decide (List.length (Z1e n cz)+List.length (Lib.itoa n_2)<=Zy) then ae (P.d (D.str (Z1e n cz++Lib.itoa n_2)),[]) else False else False else False else False)=(aJ [(186,DA),(151,ny)] [] 177 [.d (Nw t r i)] []) ae:=by kernel_rfl
variable{X:XF}
theorem zb{k:Int}(h0:0<=k)(h1:k<=9):UInt8.ofNat (Int.toNat (D.aj (D.int .u8 (IntKind.wrap .u8 (48+k)))))=oB k.toNat:=by have:IntKind.wrap .u8 (48+k)=48+k:=IntWalk.u8_in (48+k) ⟨by omega,by omega⟩;simp only[D.aj,this,oB];congr 1;omega
theorem XL:LD X 186 4 (ah (aL 186 4) qc7):=LD.par (H:=[]) (hk:=[]) (by kernel_rfl) (by kernel_rfl) .nil .nil
 (A:=Int) (B:=Int×List UInt8) (λ_ b=>qc6 b.1 b.2)
 (λa b=>0<=b.1/\b.1<=9223372036854775807/\b.1.toNat+b.2.length<=9223372036854775807/\Lib.decDigits a.toNat=Lib.decDigits b.1.toNat++b.2)
 (λ_ b=>b.1.toNat)
 (λa x=> ∃n' s',(0<=n'/\n'<=9/\s'.length<=9223372036854775807/\Lib.decDigits a.toNat=oB n'.toNat::s')/\x=(.exit 0,⟨37,[(0,iD n'),(3,sD s')],[]⟩))
 (by
  rintro a ⟨n,s⟩ ⟨h0,h1,hl,he⟩;dsimp only at*
  (rw[<-qc8];delta Zt Zy sx Z15 Za Z9)
  refine bk (λh=> ?_) λh=> ?_
  ·have ed:Int.tdiv n 10=((n.toNat/10:Nat):Int):=by rw[Int.tdiv_eq_ediv_of_nonneg (by omega)];omega
   have em:Int.tmod n 10=((n.toNat%10:Nat):Int):=by rw[Int.tmod_eq_emod_of_nonneg (by omega)];omega
   rw[ed,em,zb (by omega) (by omega)];refine bu (by omega) (bu (by simp;omega) (bu (by omega) ?_));refine⟨_,?_,(((n.toNat/10:Nat):Int),oB (n.toNat%10)::s),rfl,⟨by omega,by dsimp only;omega,by simp;omega,?_⟩,rfl⟩
   ·dsimp only;omega
   rw[he,Lm (by omega: ¬n.toNat<10)];simp only[zb7,za0,zcc]
  rw[u5 (u:=n.toNat) (by omega)] at he;exact⟨n,s,⟨h0,by omega,by omega,he⟩,rfl⟩)
 (by rintro s ae ⟨n,rfl,⟨h1,h2⟩,h3⟩;refine⟨n,(n,[]),rfl,⟨h1,h2,by simp;omega,by simp⟩,?_⟩;rintro x ⟨n',s',h,rfl⟩;exact h3 n' s' h)
theorem gI{n:Int}(h0:0<=n)(h1:n<=9223372036854775807):(Lib.itoa n).length<=21:=by
 have h:=Ln 20 n.toNat (by
  have:(10:Nat)^21=1000000000000000000000:=by decide
  omega)
 unfold Lib.itoa;rw[zal (by omega)];exact h
theorem RB:FD X 186 DA:=FD.mk (H:=[(186,λ_ _ _=>False)]) (hk:=[(4,ah (aL 186 4) qc7)]) (by kernel_rfl) (.cons (λ_ _ _ h=>h.elim) .nil) (.cons XL .nil) (by
 intro ps R ae hh;obtain⟨n,rfl,rfl,⟨h0,h1⟩,hp⟩:=hh
 (rw[<-qgy];delta Z1b Zg Zy sx Za Z1a z7 Zt Z19 Z9 NB)
 refine bk (λh=>by omega) λh=>⟨n,rfl,⟨h0,h1⟩,?_⟩
 rintro n' s' ⟨a0,a1,a2,a3⟩;have hs:Lib.itoa n=oB n'.toNat::s':=by rw[<-a3];unfold Lib.itoa;rw[zal (by omega)]
 rw[zb a0 a1];have hl:(Lib.itoa n).length<=21:=gI h0 h1;rw[hs] at hl hp;simp at hl;exact bu (by omega) (bu (by simp;omega) hp))
theorem XM:FD X 177 Rz:=FD.mk (H:=[(186,DA),(151,ny)]) (hk:=[]) (by kernel_rfl) (.cons RB (.cons sv .nil)) .nil (by
 intro ps R ae hh;obtain⟨t,r,i,rfl,rfl,hp⟩:=hh
 (rw[<-XK];delta RA Z1e Zy Za Z1a Zt Zv z7 Zx ZE HQ)
 refine⟨_,_,_,rfl,rfl,az (λh=> ?_) λh=> ?_⟩
 ·have h:cy t r i=false:=by simpa using h
  rw[lI,zal (by simp[h])] at hp;exact hp
 have h:cy t r i=true:=by simpa using h
 rw[lI,zao h] at hp;simp only[cy,zai] at h;have l1:=za (n:=t) (by omega) (by omega);have l2:=za (n:=r) (by omega) (by omega);have l3:=za (n:=i) (by omega) (by omega);exact⟨_,rfl,rfl,⟨by omega,by omega⟩,aq (by simp;omega) ⟨_,rfl,rfl,⟨by omega,by omega⟩,aq (by simp;omega) (aq (by simp;omega) ⟨_,rfl,rfl,⟨by omega,by omega⟩,aq (by simp;omega) hp⟩)⟩⟩)
def Jn:List UInt8:=[48,49,50,51,52,53,54,55,56,57,65,66,67,68,69,70,71,72,73,74,75,76,77,78,79,80,81,82,83,84,85,86,87,88,89,90,97,98,99,100,101,102,103,104,105,106,107,108,109,110,111,112,113,114,115,116,117,118,119,120,121,122,46,45,95]
def iO(b:UInt8):Bool:=decide ((48<=b.toNat/\b.toNat<=57)\/(65<=b.toNat/\b.toNat<=90)\/(97<=b.toNat/\b.toNat<=122)\/b.toNat=46\/b.toNat=45\/b.toNat=95)
theorem NC: ∀n:Fin 256,Jn.contains (UInt8.ofNat n.val)=iO (UInt8.ofNat n.val):=by decide+kernel
theorem Jo(b:UInt8):Jn.contains b=iO b:=by have:=NC ⟨b.toNat,b.toNat_lt⟩;simpa using this
def dQ(s:List UInt8):Bool:=decide (s≠[]/\s.length<=32/\s≠[46]/\s≠[46,46]/\ ∀b∈s,iO b=true)
theorem dropWhile_nil{α:Type}(p:α->Bool): ∀l:List α,l.dropWhile p=[]↔ ∀b∈l,p b=true
 | []=>by simp
 |x::l=>by
  cases h:p x with
  |true=>simp[List.dropWhile,h,dropWhile_nil p l]
  |false=>simp[List.dropWhile,h]
theorem RC(s cs:List UInt8):Lib.trimS s cs=[]↔ ∀b∈s,cs.contains b=true:=by
 unfold Lib.trimS Lib.trimLeftS Lib.trimRightS;rw[dropWhile_nil];constructor
 ·intro h b hb;have hr:b∈s.reverse:=by simpa using hb
  rw[<-List.takeWhile_append_dropWhile (p:=(cs.contains ·)) (l:=s.reverse)] at hr;rcases zaI.1 hr with h1 |h1
  ·exact zbl.1 (List.all_takeWhile (p:=(cs.contains ·)) (l:=s.reverse)) b h1
  exact h b (by simpa using h1)
 intro h b hb;have hb:b∈s.reverse.dropWhile (cs.contains ·):=by simpa using hb
 exact h b (by simpa using(List.dropWhile_sublist _).subset hb)
def pre(c:UInt8)(s:List UInt8):List UInt8:=s.takeWhile (· !=c)
def lJ(s:List UInt8)(t r i:Int):List UInt8×Int:=if dQ s=true then(if cy t r i=true then(s++126::BZ t r i,0) else([],1)) else([],70)
section
variable{X:XF}
theorem Jp(t r i:Int):(lI t r i).length<=2000000:=by
 unfold lI;split
 next h=>simp only[cy,zai] at h;have l1:=gI (n:=t) (by omega) (by omega);have l2:=gI (n:=r) (by omega) (by omega);have l3:=gI (n:=i) (by omega) (by omega);simp[BZ];omega
 simp
end
abbrev lV(b:Bool):P:= .d (.bool b)
def RD:bm:=λps R ae=> ∃s c,ps=[sD s,sD c]/\R=[]/\(s.length<=9223372036854775807/\c.length<4294967281/\c.all (λb=>decide (b.toNat<128))=true)/\ae (sD (Lib.trimS s c),[])
def B0:bm:=λps R ae=> ∃s,ps=[sD s]/\R=[]/\ae (lV (dQ s),[])
def Jq:bm:=λps R ae=> ∃s t r i,ps=[sD s,.d (Nw t r i)]/\R=[]/\ae (.cT [sD (lJ s t r i).1,iD (lJ s t r i).2],[])
abbrev nmH(s:List UInt8)(k:Int):S:=⟨64,[(0,sD s),(3,iD k)],[]⟩
def wu(c:List UInt8):List P:=[P.d (D.str c)]
def DB(s:List UInt8):Int:=(↑(sx s):Int)
theorem qc9(s:List UInt8)(ae:P×List (Nat×En)->Prop):(bif !s==[] then bif decide (DB s<=(32:Int)) then bif !s==RA then bif !s==(46:UInt8)::RA then∃(iP:List UInt8) (c:List UInt8),[P.d (D.str s),P.d (D.str (have y:List UInt8:=have y:List UInt8:=have y:List UInt8:=have y:List UInt8:=[(121:UInt8),(122:UInt8),(46:UInt8),(45:UInt8),(95:UInt8)];(117:UInt8)::(118:UInt8)::(119:UInt8)::(120:UInt8)::y;have y:List UInt8:=(113:UInt8)::(114:UInt8)::(115:UInt8)::(116:UInt8)::y;(109:UInt8)::(110:UInt8)::(111:UInt8)::(112:UInt8)::y;have y:List UInt8:=have y:List UInt8:=(105:UInt8)::(106:UInt8)::(107:UInt8)::(108:UInt8)::y;(101:UInt8)::(102:UInt8)::(103:UInt8)::(104:UInt8)::y;have y:List UInt8:=(97:UInt8)::(98:UInt8)::(99:UInt8)::(100:UInt8)::y;(87:UInt8)::(88:UInt8)::(89:UInt8)::(90:UInt8)::y;have y:List UInt8:=have y:List UInt8:=have y:List UInt8:=(83:UInt8)::(84:UInt8)::(85:UInt8)::(86:UInt8)::y;(79:UInt8)::(80:UInt8)::(81:UInt8)::(82:UInt8)::y;have y:List UInt8:=(75:UInt8)::(76:UInt8)::(77:UInt8)::(78:UInt8)::y;(71:UInt8)::(72:UInt8)::(73:UInt8)::(74:UInt8)::y;have y:List UInt8:=have y:List UInt8:=(67:UInt8)::(68:UInt8)::(69:UInt8)::(70:UInt8)::y;(56:UInt8)::(57:UInt8)::(65:UInt8)::(66:UInt8)::y;have y:List UInt8:=(52:UInt8)::(53:UInt8)::(54:UInt8)::(55:UInt8)::y;(48:UInt8)::(49:UInt8)::(50:UInt8)::(51:UInt8)::y))]=P.d (D.str iP)::wu c/\Zx/\(sx iP<=Zy/\sx c<4294967281/\(List.all c λ(b:UInt8)=>decide (UInt8.toNat b<128))=true)/\ae (P.d (D.bool (Lib.trimS iP c==[])),[]) else Z4 ae else Z4 ae else Z4 ae else Z4 ae)=(aJ [(146,RD)] [] 112 [sD s] []) ae:=by kernel_rfl
def Z1i(k:Int)(ae:PX×S->Prop)(s:List UInt8):Prop:=bif Zj k then ae (PX.normal,S.mk 64 ((0,P.d (D.str s))::ZM k) []) else False
def V2(s:List UInt8)(k:Int):Int:=(↑(UInt8.toNat (List.getD s (Zg k) (0:UInt8))):Int)
def Z1j(s:List UInt8)(k:Int)(ae:PX×S->Prop):Prop:=bif V2 s k==(46:Int) then Z1i k ae s else bif V2 s k==(45:Int) then Z1i k ae s else bif !V2 s k==(95:Int) then ae (PX.ret,S.mk 64 ZJ []) else Z1i k ae s
def Z1k(s:List UInt8)(k:Int)(ae:PX×S->Prop):Prop:=bif decide (V2 s k>=(97:Int)) then bif decide (V2 s k<=(122:Int)) then Z1i k ae s else Z1j s k ae else Z1j s k ae
def Z1l(s:List UInt8)(k:Int)(ae:PX×S->Prop):Prop:=bif decide (V2 s k>=(65:Int)) then bif decide (V2 s k<=(90:Int)) then Z1i k ae s else Z1k s k ae else Z1k s k ae
theorem qgz(s:List UInt8)(k:Int)(ae:PX×S->Prop):(bif decide (k<DB s) then bif decide ((0:Int)<=k/\k<DB s) then bif decide (V2 s k>=(48:Int)) then bif decide (V2 s k<=(57:Int)) then Z1i k ae s else Z1l s k ae else Z1l s k ae else False else ae (PX.exit 0,S.mk 64 [] []))=(aD [] [] 138 4 (nmH s k)) ae:=by kernel_rfl
theorem RE(s:List UInt8)(t r i:Int)(ae:P×List (Nat×En)->Prop):(∃(iP:List UInt8),wu s=wu iP/\Zx/\bif !dQ iP then ae (P.cT [P.d z7,P.d (D.int .i64 (70:Int))],[]) else∃(qa:Int) (bY:Int) (aI:Int),HQ t r i=HQ qa bY aI/\Zx/\bif lI qa bY aI==[] then ae (P.cT (P.d z7::ZX),[]) else bif decide (sx s+1<=Zy) then bif decide (List.length (s++[(126:UInt8)])+List.length (lI qa bY aI)<=Zy) then ae (P.cT (P.d (D.str (s++[(126:UInt8)]++lI qa bY aI))::mr),[]) else False else False)=(aJ [(138,B0),(177,Rz)] [] 152 [sD s,.d (Nw t r i)] []) ae:=by kernel_rfl
section
variable{X:XF}
theorem qda:FD X 146 RD:=FD.tR Tryz.func146 (by kernel_rfl) (by kernel_rfl) (by intro ps R ae hh;obtain⟨s,c,rfl,rfl,hc,hp⟩:=hh;refine⟨_,?_,hp⟩;show Lh [.d (.str s),.d (.str c)] []=_;exact zao hc)
theorem qdb:FD X 112 B0:=FD.mk (H:=[(146,RD)]) (hk:=[]) (by kernel_rfl) (.cons qda .nil) .nil (by
 intro ps R ae hh;obtain⟨s,rfl,rfl,hp⟩:=hh
 (rw[<-qc9];delta Z3 Z4 Zy sx Zx wu RA DB)
 refine az (λh1=>bk (λh2=>az (λh3=>az (λh4=>⟨s,Jn,rfl,rfl,⟨by omega,by decide,by decide⟩,?_⟩) λh4=> ?_) λh3=> ?_) λh2=> ?_) λh1=> ?_
 ·refine fU hp ?_;rw[zaH,dQ,zaT,RC];simp only[Jo,zai];constructor
  ·intro h;exact h.2.2.2.2
  intro h;exact⟨by simpa using h1,by omega,by simpa using h3,by simpa using h4,h⟩
 ·exact fU hp (lH λh=>by simp at h4;exact h.2.2.2.1 h4)
 ·exact fU hp (lH λh=>by simp at h3;exact h.2.2.1 h3)
 ·exact fU hp (lH λh=>by omega)
 exact fU hp (lH λh=>by simp at h1;exact h.1 h1))
theorem NF(b:UInt8):iO b=true↔((48<=(b.toNat:Int)/\(b.toNat:Int)<=57)\/(65<=(b.toNat:Int)/\(b.toNat:Int)<=90)\/(97<=(b.toNat:Int)/\(b.toNat:Int)<=122)\/(b.toNat:Int)=46\/(b.toNat:Int)=45\/(b.toNat:Int)=95):=by unfold iO;simp only[zai];omega
theorem Gr(p:UInt8->Bool)(s:List UInt8):(∀b∈s,p b=true)↔ ∀i:Nat,i<s.length->p (s.getD i 0)=true:=by
 constructor
 ·intro h i hi;have:=h s[i] (zas hi);simpa [zac,hi] using this
 intro h x hx;obtain⟨i,hi,rfl⟩:=zaW hx;have:=h i hi;simpa [zac,hi] using this
def gNm:S->K (PX×S):=λs ae=> ∃l,s=nmH l 0/\l.length<=32/\(¬(∀b∈l,iO b=true)->ae (.ret,⟨64,[(2,lV false)],[]⟩))/\((∀b∈l,iO b=true)->ae (.exit 0,⟨64,[],[]⟩))
theorem qdc:LD X 138 4 (ah (aL 138 4) gNm):=LD.par (H:=[]) (hk:=[]) (by kernel_rfl) (by kernel_rfl) .nil .nil
 (A:=List UInt8) (B:=Int) (λa k=>nmH a k)
 (λa k=>a.length<=32/\0<=k/\k<=a.length/\ ∀i:Nat,(i:Int)<k->iO (a.getD i 0)=true)
 (λa k=>(a.length-k).toNat)
 (λa x=>((¬ ∀b∈a,iO b=true)/\x=(.ret,⟨64,[(2,lV false)],[]⟩))\/((∀b∈a,iO b=true)/\x=(.exit 0,⟨64,[],[]⟩)))
 (by
  rintro l k ⟨hs,h0,h1,he⟩
  (rw[<-qgz];delta Z3 ZJ Zn ZM Za Z9 Zj Z1i Zg V2 Z1j Z1k Z1l sx DB)
  have hb:=NF (l.getD k.toNat 0);have bX: ¬iO (l.getD k.toNat 0)=true->k<l.length-> ¬ ∀b∈l,iO b=true:=λh hk hh=>h ((Gr _ l).1 hh k.toNat (by omega));have dz:iO (l.getD k.toNat 0)=true->k<l.length->roundPost (l.length-k).toNat (λm s=> ∃b',s=nmH l b'/\(l.length<=32/\0<=b'/\b'<=(l.length:Int)/\ ∀i:Nat,(i:Int)<b'->iO (l.getD i 0)=true)/\m=(l.length-b').toNat) (λx=>((¬ ∀b∈l,iO b=true)/\x=(.ret,⟨64,[(2,lV false)],[]⟩))\/((∀b∈l,iO b=true)/\x=(.exit 0,⟨64,[],[]⟩))) (PX.normal,nmH l (k+1)):=λh hk=>
   ⟨_,by omega,k+1,rfl,⟨hs,by omega,by omega,λi hi=>by
    by_cases e:(i:Int)=k
    ·have:i=k.toNat:=by omega
     rw[this];exact h
    exact he i (by omega)⟩,rfl⟩
  generalize (((l.getD k.toNat 0).toNat:Nat):Int)=b at*
  refine bk (λh=>bu (by omega) ?_) λh=> .inr ⟨(Gr _ l).2 λi hi=>he i (by omega),rfl⟩
  repeat' (first |refine bk (λ_=> ?_) (λ_=> ?_)|refine ie (λ_=> ?_) (λ_=> ?_)|refine y7 (λ_=> ?_) (λ_=> ?_))
  all_goals first
   |exact absurd (p9 (k:=k) (by omega) (by omega)) (by simp;omega)
   |exact dz (hb.2 (by omega)) h
   |exact .inl ⟨bX (λhh=>by have:=hb.1 hh;omega) h,rfl⟩)
 (by
  rintro s ae ⟨l,rfl,h1,h2,h3⟩;refine⟨l,0,rfl,⟨h1,by omega,by omega,λi hi=>by omega⟩,?_⟩;rintro x (⟨h,rfl⟩| ⟨h,rfl⟩)
  ·exact h2 h
  exact h3 h)
end
def qb(l:List (List UInt8)):List UInt8:=l.flatMap λx=>47::x
def XO(l:List (List UInt8)):Nat:=(qb l).length
def Z1m(s:List UInt8):S:=S.mk 64 ((0,P.d (D.str s))::Z13) []
theorem XP(s:List UInt8)(ae:P×List (Nat×En)->Prop):(bif s==[] then Z4 ae else bif decide (DB s>(32:Int)) then Z4 ae else bif s==RA then Z4 ae else bif s==(46:UInt8)::RA then Z4 ae else∃(l:List UInt8),Z1m s=Z1m l/\sx l<=32/\((¬∀(b:UInt8),b∈l->iO b=true)->Z4 ae)/\((∀(b:UInt8),b∈l->iO b=true)->ZP ae))=(aJ [] [(4,ah (aL 138 4) gNm)] 138 [sD s] []) ae:=by kernel_rfl
section
variable{X:XF}
theorem DC:FD X 138 B0:=FD.mk (H:=[]) (hk:=[(4,ah (aL 138 4) gNm)]) (by kernel_rfl) .nil (.cons qdc .nil) (by
 intro ps R ae hh;obtain⟨s,rfl,rfl,hp⟩:=hh
 (rw[<-XP];delta ZO ZP sx Z7 Z13 Z1m RA DB Z3 Z4)
 refine az (λh1=> ?_) λh1=>bk (λh2=> ?_) λh2=>az (λh3=> ?_) λh3=>az (λh4=> ?_) λh4=>⟨s,rfl,by omega,λbX=> ?_,λdz=> ?_⟩
 ·exact fU hp (lH λh=>h.1 (by simpa using h1))
 ·exact fU hp (lH λh=>by omega)
 ·exact fU hp (lH λh=>h.2.2.1 (by simpa using h3))
 ·exact fU hp (lH λh=>h.2.2.2.1 (by simpa using h4))
 ·exact fU hp (lH λh=>bX h.2.2.2.2)
 exact fU hp (lG ⟨by simpa using h1,by omega,by simpa using h3,by simpa using h4,dz⟩))
theorem zd{t r i:Int}:lI t r i=[]↔cy t r i=false:=by
 unfold lI;split
 next h=>simp[h,BZ]
 rename_i h;simpa using h
theorem RG:FD X 152 Jq:=FD.mk (H:=[(138,B0),(177,Rz)]) (hk:=[]) (by kernel_rfl) (.cons DC (.cons XM .nil)) .nil (by
 intro ps R ae hh;obtain⟨s,t,r,i,rfl,rfl,hp⟩:=hh
 (rw[<-RE];delta Z7 mr Zy sx ZR ZX Zt ZE HQ z7 Zx wu)
 unfold lJ at hp;refine⟨s,rfl,rfl,az (λh=> ?_) λh=>⟨t,r,i,rfl,rfl,az (λh2=> ?_) λh2=> ?_⟩⟩
 ·rw[zal (by simpa using h)] at hp;exact hp
 ·have h2:cy t r i=false:=zd.1 (by simpa using h2);rw[zao (by simpa using h),zal (by simp[h2])] at hp;exact hp
 have hn:dQ s=true:=by simpa using h
 have hi:cy t r i=true:=by
  cases hi:cy t r i with
  |true=>rfl
  |false=>rw[zd.2 hi] at h2;simp at h2
 rw[zao hn,zao hi] at hp;have hl:=Jp t r i;simp only[dQ,zai] at hn;refine bu (by omega) (bu (by simp;omega) ?_);rw[lI,zao hi];simpa using hp)
end
def Jr:bm:=λps R ae=> ∃s,ps=[sD s]/\R=[]/\s.length<=2000000/\ae (lV (Lib.validD s),[])
def Js:bm:=λps R ae=> ∃s,ps=[sD s]/\R=[]/\s.length<=2000000/\ae (iD (Lib.runeCount ⟨⟨s⟩⟩),[])
def Z1o:List P:=[P.d (D.int .i64 (60:Int))]
def HR(iP:List UInt8):Prop:=sx iP<=2000000
theorem qgA(s:List UInt8)(ae:P×List (Nat×En)->Prop):(∃(iP:List UInt8),wu s=wu iP/\Zx/\HR iP/\bif !Lib.validD iP then ae (P.cT (P.d Z7::Z1o),[]) else∃(s_2:List UInt8),wu s=wu s_2/\Zx/\HR s_2/\ae (P.cT (P.d (D.int .i64 (↑(Lib.runeCount (ByteArray.mk (Array.mk s_2))):Int))::mr),[]))=(aJ [(148,Jr),(149,Js)] [] 115 [sD s] []) ae:=by kernel_rfl
section
variable{X:XF}
theorem XQ:FD X 148 Jr:=FD.tR Tryz.func148 (by kernel_rfl) (by kernel_rfl) (by rintro ps R ae ⟨s,rfl,rfl,hs,hp⟩;exact⟨_,zao (by omega),hp⟩)
theorem XR:FD X 149 Js:=FD.tR Tryz.func149 (by kernel_rfl) (by kernel_rfl) (by rintro ps R ae ⟨s,rfl,rfl,hs,hp⟩;exact⟨_,zao (by omega),hp⟩)
end
abbrev En3:=List UInt8×Bool×List UInt8
def SmE(l:List En3):Prop:=l.length<=2000000/\ ∀e∈l,e.1.length<=2000000/\e.2.2.length<=2000000
def SmX(l:List En3):Prop:=l.length<=2000/\ ∀e∈l,e.1.length<=10000/\e.2.2.length<=10000
section
variable{X:XF}
theorem SmX.e{l:List En3}(h:SmX l):SmE l:=⟨by have:=h.1;omega,λe he=>by have:=h.2 e he;omega⟩
end
def Jt(s:List UInt8):Prop:=(Lib.decodeL s).1=65533/\(Lib.decodeL s).2=1
def Ju:bm:=λps R ae=> ∃s,ps=[sD s]/\R=[]/\(s≠[]/\s.length<=2000000)/\(Jt s-> ∀c n,ae (.cT [iD c,iD n,lV false],[]))/\(¬Jt s-> ∀(c:Int) (n:Int),n=(Lib.decodeL s).2->1<=n->n.toNat<=s.length->ae (.cT [iD c,iD n,lV true],[]))
def Pa:List P:=[ZO]
def Z1K(s:List UInt8):Int:=(↑(UInt8.toNat (List.getD s 3 (0:UInt8))):Int)
def Gs(s:List UInt8):Int:=(↑(UInt8.toNat (List.getD s 2 (0:UInt8))):Int)
def EF(s:List UInt8):Int:=(↑(UInt8.toNat (List.getD s 1 (0:UInt8))):Int)
def B1(s:List UInt8):Int:=(↑(UInt8.toNat (List.getD s 0 (0:UInt8))):Int)
def Z1I(s:List UInt8):Int:=(B1 s-(240:Int))*(64:Int)
def Z1J(s:List UInt8):Int:=(Z1I s+EF s-(128:Int))*(64:Int)
def Z1L(s:List UInt8):Int:=(Z1J s+Gs s-(128:Int))*(64:Int)
def Z1M(s:List UInt8):Int:=Z1L s+Z1K s-(128:Int)
def Z1N(ae:P×List (Nat×En)->Prop)(s:List UInt8):Prop:=ae (P.cT (P.d (D.int .i64 (Z1M s))::P.d (D.int .i64 (4:Int))::Pa),[])
def Z1D(s:List UInt8):Bool:=decide ((0:Int)<=(1:Int)+(1:Int)/\(1:Int)+(1:Int)<DB s)
def Z1x(s:List UInt8):Bool:=decide (EF s>=(192:Int))
def Z1w(s:List UInt8):Bool:=decide (EF s<(128:Int))
def Z1v(s:List UInt8):Bool:=decide (Z9<=EF s/\EF s<=Za)
def Z1t(s:List UInt8):Bool:=decide ((0:Int)<=(1:Int)/\(1:Int)<DB s)
def V3:List P:=[P.d Z3]
def wv(ae:P×List (Nat×En)->Prop):Prop:=ae (P.cT (P.d Z7::P.d Z7::V3),[])
def Z1O(s:List UInt8)(ae:P×List (Nat×En)->Prop):Prop:=bif decide (B1 s>=(240:Int)) then bif decide (B1 s<(245:Int)) then bif decide (Z9<=B1 s-(240:Int)/\B1 s-(240:Int)<=Za) then bif decide (DB s<(4:Int)) then wv ae else bif Z1t s then bif Z1v s then bif Z1w s then wv ae else bif Z1x s then wv ae else bif decide (Z9<=Z1I s/\Z1I s<=Za) then bif decide (Z9<=Z1I s+EF s/\Z1I s+EF s<=Za) then bif decide (Z9<=Z1I s+EF s-(128:Int)/\Z1I s+EF s-(128:Int)<=Za) then bif Z1D s then bif decide (Z9<=Gs s/\Gs s<=Za) then bif decide (Gs s<(128:Int)) then wv ae else bif decide (Gs s>=(192:Int)) then wv ae else bif decide (Z9<=Z1J s/\Z1J s<=Za) then bif decide (Z9<=Z1J s+Gs s/\Z1J s+Gs s<=Za) then bif decide (Z9<=Z1J s+Gs s-(128:Int)/\Z1J s+Gs s-(128:Int)<=Za) then bif decide ((0:Int)<=(1:Int)+(1:Int)+(1:Int)/\(1:Int)+(1:Int)+(1:Int)<DB s) then bif decide (Z9<=Z1K s/\Z1K s<=Za) then bif decide (Z1K s<(128:Int)) then wv ae else bif decide (Z1K s>=(192:Int)) then wv ae else bif decide (Z9<=Z1L s/\Z1L s<=Za) then bif decide (Z9<=Z1L s+Z1K s/\Z1L s+Z1K s<=Za) then bif decide (Z9<=Z1M s/\Z1M s<=Za) then bif decide (Z1M s<(65536:Int)) then wv ae else bif decide (Z1M s>(1114111:Int)) then wv ae else bif decide (Z1M s>=(55296:Int)) then bif decide (Z1M s<(57344:Int)) then wv ae else Z1N ae s else Z1N ae s else False else False else False else False else False else False else False else False else False else False else False else False else False else False else False else False else wv ae else wv ae
def Z1C(s:List UInt8):Int:=(B1 s-(224:Int))*(64:Int)
def Z1F(s:List UInt8):Int:=(Z1C s+EF s-(128:Int))*(64:Int)
def Z1G(s:List UInt8):Int:=Z1F s+Gs s-(128:Int)
def Z1H(ae:P×List (Nat×En)->Prop)(s:List UInt8):Prop:=ae (P.cT (P.d (D.int .i64 (Z1G s))::P.d (D.int .i64 (3:Int))::Pa),[])
def Z1P(s:List UInt8)(ae:P×List (Nat×En)->Prop):Prop:=bif decide (B1 s>=(224:Int)) then bif decide (B1 s<(240:Int)) then bif decide (Z9<=B1 s-(224:Int)/\B1 s-(224:Int)<=Za) then bif decide (DB s<(3:Int)) then wv ae else bif Z1t s then bif Z1v s then bif Z1w s then wv ae else bif Z1x s then wv ae else bif decide (Z9<=Z1C s/\Z1C s<=Za) then bif decide (Z9<=Z1C s+EF s/\Z1C s+EF s<=Za) then bif decide (Z9<=Z1C s+EF s-(128:Int)/\Z1C s+EF s-(128:Int)<=Za) then bif Z1D s then bif decide (Z9<=Gs s/\Gs s<=Za) then bif decide (Gs s<(128:Int)) then wv ae else bif decide (Gs s>=(192:Int)) then wv ae else bif decide (Z9<=Z1F s/\Z1F s<=Za) then bif decide (Z9<=Z1F s+Gs s/\Z1F s+Gs s<=Za) then bif decide (Z9<=Z1G s/\Z1G s<=Za) then bif decide (Z1G s<(2048:Int)) then wv ae else bif decide (Z1G s>(1114111:Int)) then wv ae else bif decide (Z1G s>=(55296:Int)) then bif decide (Z1G s<(57344:Int)) then wv ae else Z1H ae s else Z1H ae s else False else False else False else False else False else False else False else False else False else False else False else Z1O s ae else Z1O s ae
def V4:D:=D.int .i64 (2:Int)
def Z1y(s:List UInt8):Int:=(B1 s-(192:Int))*(64:Int)
def Z1z(s:List UInt8):Int:=Z1y s+EF s-(128:Int)
def Z1B(ae:P×List (Nat×En)->Prop)(s:List UInt8):Prop:=ae (P.cT (P.d (D.int .i64 (Z1z s))::P.d V4::Pa),[])
theorem XS(s:List UInt8)(ae:P×List (Nat×En)->Prop):(bif decide ((0:Int)<=(0:Int)/\(0:Int)<DB s) then bif decide (Z9<=B1 s/\B1 s<=Za) then bif decide (B1 s<(128:Int)) then ae (P.cT (P.d (D.int .i64 (B1 s))::P.d ZR::Pa),[]) else bif decide (B1 s>=(194:Int)) then bif decide (B1 s<(224:Int)) then bif decide (Z9<=B1 s-(192:Int)/\B1 s-(192:Int)<=Za) then bif decide (DB s<(2:Int)) then wv ae else bif Z1t s then bif Z1v s then bif Z1w s then wv ae else bif Z1x s then wv ae else bif decide (Z9<=Z1y s/\Z1y s<=Za) then bif decide (Z9<=Z1y s+EF s/\Z1y s+EF s<=Za) then bif decide (Z9<=Z1z s/\Z1z s<=Za) then bif decide (Z1z s>(1114111:Int)) then wv ae else bif decide (Z1z s>=(55296:Int)) then bif decide (Z1z s<(57344:Int)) then wv ae else Z1B ae s else Z1B ae s else False else False else False else False else False else False else Z1P s ae else Z1P s ae else False else False)=(aJ [] [] 168 [sD s] []) ae:=by kernel_rfl
abbrev rsH(s:List UInt8)(o:List (List UInt8)):S:=⟨29,[(0,sD s),(4,.sl 0 0 o.length)],[(0,⟨0,none,.arr 9 false (o.map D.str)⟩)]⟩
def RH(o:List (List UInt8)):En:=En.mk 0 none (Obj.arr (9:TypeId) false (List.map D.str o))
def Z1W(ae:P×List (Nat×En)->Prop)(o:List (List UInt8)):Prop:=ae (P.cT (P.sl 0 0 (List.length o)::mr),[(0,RH o)])
def RI(iP:List UInt8):Prop:=Lib.validD iP=true
def Z1Q:En:=En.mk 0 none (Obj.arr (9:TypeId) false [])
def RJ(iP:List UInt8):Prop:=Lib.validD iP=false
def Z1T(iP:List UInt8)(ae:P×List (Nat×En)->Prop):Prop:=RJ iP-> ∀(_:List (List UInt8)),ae (P.cT (ZQ::Z1o),[(0,Z1Q)])
def Z1R(s:List UInt8):S:=S.mk 29 [(0,P.d (D.str s)),(4,ZQ)] [(0,Z1Q)]
def Z1X(ae:P×List (Nat×En)->Prop)(o:List (List UInt8)):Prop:=ae (P.cT (P.d (D.int .i64 (↑(List.length o):Int))::mr),[])
def Z1Z(o:List (List UInt8))(n:Int)(s:List UInt8):Nat:=List.length o+List.length [D.str (List.drop 0 (List.take (Zg n) s))]
def Lo(o:List (List UInt8)):Nat×En:=(1,RH o)
theorem qgB(s:List UInt8)(o:List (List UInt8))(ae:PX×S->Prop):(bif decide (DB s>(0:Int)) then∃(iP:List UInt8),wu s=wu iP/\Zx/\(iP≠[]/\HR iP)/\(Jt iP-> ∀(_ _:Int),ae (PX.ret,S.mk 29 [(2,ZQ),(3,P.d (D.int .i64 (60:Int))),(4,P.sl 1 0 (List.length o))] [(0,Z1Q),Lo o]))/\(¬Jt iP-> ∀(_ n:Int),n=(↑(Prod.snd (Lib.decodeL iP)):Int)->(1:Int)<=n->Zg n<=sx iP->bif decide ((0:Int)<=n/\n<=DB s) then bif Nat.ble (List.length o) (List.length (List.map D.str o))&&aO (Z1Z o n s) 16 then bif decide ((0:Int)<=n/\n<=DB s) then ae (PX.normal,S.mk 29 [(0,P.d (D.str (List.drop (Zg n) (List.take (sx s) s)))),(4,P.sl 0 0 (Z1Z o n s))] [(0,En.mk 0 none (Obj.arr (9:TypeId) false (List.take (List.length o) (List.map D.str o)++[D.str (List.drop 0 (List.take (Zg n) s))])))]) else False else False else False) else ae (PX.exit 0,S.mk 29 [(4,P.sl 0 0 (List.length o))] [(0,RH o)]))=(aD [(168,Ju)] [] 144 2 (rsH s o)) ae:=by kernel_rfl
def Gt(n b0 b1 b2 b3:Nat):Nat×Nat:=
 if b0<128 then(b0,1) else
 if b0/32=6/\1<n/\b1/64=2 then(if 128<=(b0%32)*64+b1%64 then((b0%32)*64+b1%64,2) else(65533,1)) else
 if b0/16=14/\(1<n/\b1/64=2)/\2<n/\b2/64=2 then(if 2048<=(b0%16)*4096+(b1%64)*64+b2%64/\((b0%16)*4096+(b1%64)*64+b2%64<55296\/57344<=(b0%16)*4096+(b1%64)*64+b2%64/\(b0%16)*4096+(b1%64)*64+b2%64<=1114111) then((b0%16)*4096+(b1%64)*64+b2%64,3) else(65533,1)) else
 if b0/8=30/\(1<n/\b1/64=2)/\(2<n/\b2/64=2)/\3<n/\b3/64=2 then(if 65536<=(b0%8)*262144+(b1%64)*4096+(b2%64)*64+b3%64/\((b0%8)*262144+(b1%64)*4096+(b2%64)*64+b3%64<55296\/57344<=(b0%8)*262144+(b1%64)*4096+(b2%64)*64+b3%64/\(b0%8)*262144+(b1%64)*4096+(b2%64)*64+b3%64<=1114111) then((b0%8)*262144+(b1%64)*4096+(b2%64)*64+b3%64,4) else(65533,1)) else(65533,1)
theorem RL(s:List UInt8)(k:Nat):(ByteArray.mk s.toArray).get! k=s.getD k 0:=by
 show s.toArray.getD k 0=_;simp[Array.getD,zac];split
 next h=>simp[h]
 rename_i h;simp[zbc (by omega:s.length<=k)]
theorem NG(s:List UInt8):Lib.decodeL s=Gt s.length (s.getD 0 0).toNat (s.getD 1 0).toNat (s.getD 2 0).toNat (s.getD 3 0).toNat:=by
 have hs:(ByteArray.mk s.toArray).size=s.length:=rfl;have hv: ∀c:Nat,Utf8.valid (c:Int)=decide (c<55296\/57344<=c/\c<=1114111):=λc=>by unfold Utf8.valid;rw[zaH];simp only[za9,zab,zai];omega
 unfold Lib.decodeL Utf8.decode Gt;simp only[RL,zaF,hs,hv,zab,zaT,zai,ge_iff_le,Utf8.runeError,and_assoc]
section
variable{X:XF}
theorem XU:FD X 168 Ju:=FD.mk (H:=[]) (hk:=[]) (by kernel_rfl) .nil .nil (by
 intro ps R ae hh;obtain⟨s,rfl,rfl,⟨dP,hs⟩,h1,h2⟩:=hh
 (rw[<-XS];delta ZO Pa Z1K Gs EF B1 Z1I Z1J Z1L Z1M Z1N sx DB Z1D Z1x Z1w Za Z9 Z1v Z1t Z3 V3 Z7 wv Z1O Z1C Z1F Z1G Z1H Z1P V4 Z1y Z1z Z1B ZR)
 have XV:0<s.length:=zbN.2 dP;unfold Jt at h1 h2;rw[NG] at h1 h2;have CZ:=(s.getD 0 0).toNat_lt;have jX:=(s.getD 1 0).toNat_lt;have cm:=(s.getD 2 0).toNat_lt;have jt:=(s.getD 3 0).toNat_lt;generalize (s.getD 0 0).toNat=b0 at CZ h1 h2;generalize (s.getD 1 0).toNat=b1 at jX h1 h2;generalize (s.getD 2 0).toNat=b2 at cm h1 h2;generalize (s.getD 3 0).toNat=b3 at jt h1 h2;generalize s.length=n at XV hs h1 h2;have bad:Gt n b0 b1 b2 b3=(65533,1)->ae (.cT [iD 0,iD 0,lV false],[]):=λh=>h1 (by rw[h];exact⟨rfl,rfl⟩) 0 0;have qgC:b0<128-> ∀c,ae (.cT [iD c,iD 1,lV true],[]):=λh c=>by
  have e:Gt n b0 b1 b2 b3=(b0,1):=by unfold Gt;rw[zao h]
  rw[e] at h2;exact h2 (λh=>by have:=h.1;simp only at this;omega) c 1 rfl (by omega) (by omega)
 have qdd: ∀c (k:Int),(Gt n b0 b1 b2 b3).2=k.toNat->2<=k->k.toNat<=n->ae (.cT [iD c,iD k,lV true],[]):=λc k h3 h4 h5=>h2 (λh=>by rw[h3] at h;omega) c k (by omega) (by omega) h5;clear h1 h2
 repeat' (first |refine bu (by omega) ?_ |refine bk (λh=> ?_) (λh=> ?_))
 all_goals first
  | (refine bad ?_;unfold Gt;(repeat' split);all_goals first |rfl | (exfalso;omega))
  |exact qgC (by omega) _
  | (refine qdd _ _ ?_ (by omega) (by omega);unfold Gt;(repeat' split);all_goals first |rfl | (exfalso;omega)))
end
def q8(x y:Int):Int:=if x<y then-1 else if x>y then 1 else 0
def Lp(x y:Int):Int:=if x≠0 then x else y
def qc(t r t' r':Int):Int:=Lp (q8 t t') (q8 r r')
def ze(t r i t' r' i':Int):Int:=Lp (qc t r t' r') (q8 i i')
def sA(t r t' r':Int):Bool:=decide (t<t'\/t=t'/\r<r')
abbrev itD(t r i:Int)(p:List UInt8)(d b:Bool):D:= .agg [.int .i64 t,.int .i64 r,.int .i64 i,.str p,.bool d,.bool b]
def Z22(ae:P×List (Nat×En)->Prop):Prop:=ae (P.d ZR,[])
def Lq:P:=P.d (D.int .i64 (-1:Int))
def pk(ae:P×List (Nat×En)->Prop):Prop:=ae (Lq,[])
def Z23(x:Int)(y:Int)(ae:P×List (Nat×En)->Prop):Prop:=bif ZI x y then pk ae else bif decide (x>y) then Z22 ae else Z8 ae
theorem NH(x y:Int)(ae:P×List (Nat×En)->Prop):(bif x !=x then bif y !=y then Z8 ae else pk ae else bif y !=y then Z22 ae else Z23 x y ae)=(aJ [] [] 100 [.d (.int .i64 x),.d (.int .i64 y)] []) ae:=by kernel_rfl
theorem qjb(x y:Int)(ae:P×List (Nat×En)->Prop):(bif D.aj (D.nth (Zt x::ZE y) 0) !=(0:Int) then ae (P.d (D.int .i64 (D.aj (D.nth (Zt x::ZE y) 0))),[]) else bif D.aj (D.nth (Zt x::ZE y) 1) !=(0:Int) then ae (P.d (D.int .i64 (D.aj (D.nth (Zt x::ZE y) 1))),[]) else Z8 ae)=(aJ [] [] 99 [.d (.sl 1 [.int .i64 x,.int .i64 y])] []) ae:=by kernel_rfl
theorem RM(t r t' r':Int)(ae:P×List (Nat×En)->Prop):(bif decide (t<t') then ae (P.d (D.bool true),[]) else bif t==t' then ae (P.d (D.bool (decide (r<r'))),[]) else ae (P.d (D.bool false),[]))=(aJ [] [] 14 [.d (V0 t r),.d (V0 t' r')] []) ae:=by kernel_rfl
def gu:bm:=λps R ae=> ∃x y,ps=[.d (.int .i64 x),.d (.int .i64 y)]/\R=[]/\ae (.d (.int .i64 (q8 x y)),[])
def hOr:bm:=λps R ae=> ∃x y,ps=[.d (.sl 1 [.int .i64 x,.int .i64 y])]/\R=[]/\ae (.d (.int .i64 (Lp x y)),[])
def xt:bm:=λps R ae=> ∃t r t' r',ps=[.d (V0 t r),.d (V0 t' r')]/\R=[]/\ae (.d (.bool (sA t r t' r')),[])
def u7:bm:=λps R ae=> ∃t r t' r',ps=[.d (V0 t r),.d (V0 t' r')]/\R=[]/\ae (.d (.int .i64 (qc t r t' r')),[])
def jc:bm:=λps R ae=> ∃t r i t' r' i',ps=[.d (Nw t r i),.d (Nw t' r' i')]/\R=[]/\ae (.d (.int .i64 (ze t r i t' r' i')),[])
def Z24(t:Int)(t':Int)(x:Int)(y:Int):Prop:=P.d (Zt t)::Zv t'=P.d (Zt x)::Zv y
theorem qgD(t r t' r':Int)(ae:P×List (Nat×En)->Prop):(∃(x:Int) (y:Int),Z24 t t' x y/\Zx/\ ∃(aK:Int) (DE:Int),Z24 r r' aK DE/\Zx/\ ∃(x_2:Int) (y_2:Int),[P.d (D.sl 1 [D.int .i64 (q8 x y),D.int .i64 (q8 aK DE)])]=[P.d (D.sl 1 (Zt x_2::ZE y_2))]/\Zx/\ae (P.d (D.int .i64 (Lp x_2 y_2)),[]))=(aJ [(100,gu),(99,hOr)] [] 66 [.d (V0 t r),.d (V0 t' r')] []) ae:=by kernel_rfl
def Jv(t:Int)(r:Int)(t':Int)(r':Int):List P:=[P.d (D.agg (Zt t::ZE r)),P.d (D.agg (Zt t'::ZE r'))]
theorem qde(t r t' r':Int)(ae:P×List (Nat×En)->Prop):(∃(qa:Int) (bY:Int) (DF:Int) (DG:Int),Jv t r t' r'=Jv qa bY DF DG/\Zx/\bif sA qa bY DF DG then pk ae else∃(t_2:Int) (z8:Int) (qgE:Int) (qgF:Int),Jv t' r' t r=Jv t_2 z8 qgE qgF/\Zx/\bif sA t_2 z8 qgE qgF then Z22 ae else Z8 ae)=(aJ [(14,xt)] [] 117 [.d (V0 t r),.d (V0 t' r')] []) ae:=by kernel_rfl
theorem XW(t r i t' r' i':Int)(ae:P×List (Nat×En)->Prop):(∃(qa:Int) (bY:Int) (DF:Int) (DG:Int),Jv t r t' r'=Jv qa bY DF DG/\Zx/\ ∃(x:Int) (y:Int),Z24 i i' x y/\Zx/\ ∃(aK:Int) (DE:Int),[P.d (D.sl 1 [D.int .i64 (qc qa bY DF DG),D.int .i64 (q8 x y)])]=[P.d (D.sl 1 (Zt aK::ZE DE))]/\Zx/\ae (P.d (D.int .i64 (Lp aK DE)),[]))=(aJ [(100,gu),(99,hOr),(66,u7)] [] 150 [.d (Nw t r i),.d (Nw t' r' i')] []) ae:=by kernel_rfl
theorem RN(t r i t' r' i':Int)(ae:P×List (Nat×En)->Prop):(∃(qa:Int) (bY:Int) (DF:Int) (DG:Int),Jv t r t' r'=Jv qa bY DF DG/\Zx/\bif qc qa bY DF DG !=(0:Int) then ae (P.d (D.int .i64 (qc qa bY DF DG)),[]) else Z23 i i' ae)=(aJ [(117,u7)] [] 88 [.d (Nw t r i),.d (Nw t' r' i')] []) ae:=by kernel_rfl
theorem qd{ae:P×List (Nat×En)->Prop}{k:IntKind}{a b:Int}{R:List (Nat×En)}(hp:ae (P.d (D.int k a),R))(h:a=b):ae (P.d (D.int k b),R):=h▸hp
theorem zf{ae:P×List (Nat×En)->Prop}{a b:Bool}{R:List (Nat×En)}(hp:ae (P.d (D.bool a),R))(h:a=b):ae (P.d (D.bool b),R):=h▸hp
theorem zg(x:Int):(x !=x)=false:=by simp
theorem Gu: ∀ps R ae,gu ps R ae->aJ [] [] 100 ps R ae:=by
 intro ps R ae hh;obtain⟨x,y,rfl,rfl,hp⟩:=hh
 (rw[<-NH];delta Z7 Z8 ZR Z22 Lq pk ZI Z23)
 refine lD (zg x) (lD (zg y) ?_);refine az (λh=> ?_) λh=>az (λh'=> ?_) λh'=> ?_
 ·exact qd hp (by
   have h:x<y:=by simpa using h
   simp[q8,h])
 ·exact qd hp (by
   have h: ¬x<y:=by simpa using h
   have h':x>y:=by simpa using h'
   simp[q8,h,h'])
 exact qd hp (by
  have h: ¬x<y:=by simpa using h
  have h': ¬x>y:=by simpa using h'
  simp[q8,h,h'])
theorem bOr: ∀ps R ae,hOr ps R ae->aJ [] [] 99 ps R ae:=by
 intro ps R ae hh;obtain⟨x,y,rfl,rfl,hp⟩:=hh
 (rw[<-qjb];delta Z7 Z8 Zt ZE)
 refine az (λh=> ?_) λh=>az (λh'=> ?_) λh'=> ?_
 ·exact qd hp (by
   have h:x≠0:=by simpa [D.nth,D.aj] using h
   simp[Lp,h,D.nth,D.aj])
 ·exact qd hp (by
   have h:x=0:=by simpa [D.nth,D.aj] using h
   simp[Lp,h,D.nth,D.aj])
 exact qd hp (by
  have h:x=0:=by simpa [D.nth,D.aj] using h
  have h':y=0:=by simpa [D.nth,D.aj] using h'
  simp[Lp,h,h'])
theorem XX: ∀ps R ae,xt ps R ae->aJ [] [] 14 ps R ae:=by
 intro ps R ae hh;obtain⟨t,r,t',r',rfl,rfl,hp⟩:=hh;rw[<-RM];refine az (λh=> ?_) λh=>az (λh'=> ?_) λh'=> ?_
 ·exact zf hp (by
   have h:t<t':=by simpa using h
   simp[sA,h])
 ·exact zf hp (by
   have h':t=t':=by simpa using h'
   simp[sA,h'])
 exact zf hp (by
  have h: ¬t<t':=by simpa using h
  have h': ¬t=t':=by simpa using h'
  simp[sA,h'];omega)
theorem qgG: ∀ps R ae,u7 ps R ae->aJ [(100,gu),(99,hOr)] [] 66 ps R ae:=by
 intro ps R ae hh;obtain⟨t,r,t',r',rfl,rfl,hp⟩:=hh
 (rw[<-qgD];delta Zt ZE Zx Zv Z24)
 exact⟨_,_,rfl,rfl,_,_,rfl,rfl,_,_,rfl,rfl,hp⟩
theorem qdf: ∀ps R ae,jc ps R ae->aJ [(100,gu),(99,hOr),(66,u7)] [] 150 ps R ae:=by
 intro ps R ae hh;obtain⟨t,r,i,t',r',i',rfl,rfl,hp⟩:=hh
 (rw[<-XW];delta Zt ZE Zv Z24 Zx Jv)
 exact⟨_,_,_,_,rfl,rfl,_,_,rfl,rfl,_,_,rfl,rfl,hp⟩
section
variable{X:XF}
theorem Gv:FD X 14 xt:=FD.mk (H:=[]) (by kernel_rfl) .nil .nil XX
theorem qdg:FD X 117 u7:=FD.mk (H:=[(14,xt)]) (by kernel_rfl) (.cons Gv .nil) .nil (by
 intro ps R ae hh;obtain⟨t,r,t',r',rfl,rfl,hp⟩:=hh
 (rw[<-qde];delta Z7 Z8 ZR Z22 Lq pk Zx Zt ZE Jv)
 refine⟨_,_,_,_,rfl,rfl,az (λh=> ?_) λh=>⟨_,_,_,_,rfl,rfl,az (λh'=> ?_) λh'=> ?_⟩⟩
 all_goals exact qd hp (by simp only[sA,zai,zaE] at*;simp only[qc,Lp,q8];(repeat' split)<;>omega))
theorem nz:FD X 88 jc:=FD.mk (H:=[(117,u7)]) (by kernel_rfl) (.cons qdg .nil) .nil (by
 intro ps R ae hh;obtain⟨t,r,i,t',r',i',rfl,rfl,hp⟩:=hh
 (rw[<-RN];delta Z7 Z8 ZR Z22 Lq pk ZI Z23 Zx Zt ZE Jv)
 refine⟨_,_,_,_,rfl,rfl,az (λh=> ?_) λh=>az (λh'=> ?_) λh'=>az (λh''=> ?_) λh''=> ?_⟩
 all_goals exact qd hp (by simp only[bne_iff_ne,bne_eq_false_iff_eq,ne_eq,zai,zaE] at*;simp only[ze,Lp,q8];(repeat' split)<;>omega))
theorem B2:FD X 100 gu:=FD.mk (H:=[]) (by kernel_rfl) .nil .nil Gu
theorem qgH:FD X 99 hOr:=FD.mk (H:=[]) (by kernel_rfl) .nil .nil bOr
theorem qbu:FD X 66 u7:=FD.mk (H:=[(100,gu),(99,hOr)]) (by kernel_rfl) (.cons B2 (.cons qgH .nil)) .nil qgG
theorem XY:FD X 150 jc:=FD.mk (H:=[(100,gu),(99,hOr),(66,u7)]) (by kernel_rfl) (.cons B2 (.cons qgH (.cons qbu .nil))) .nil qdf
end
theorem NI:FC 100 gu:=FC.mk (H:=[]) (by kernel_rfl) .nil Gu
theorem qjc:FC 99 hOr:=FC.mk (H:=[]) (by kernel_rfl) .nil bOr
theorem qbv:FC 66 u7:=FC.mk (H:=[(100,gu),(99,hOr)]) (by kernel_rfl) (.cons NI (.cons qjc .nil)) qgG
theorem FC.qgI{g:Nat}{h:bm}(hf:FC g h){x y:D}{i:Int}(hp:h [.d x,.d y] [] (λz=>z=(.d (.int .i64 i),[]))):yQ PR yX g x y i:=by obtain⟨z,h1,h2⟩:=hf _ _ _ hp;subst h2;exact h1
abbrev av:=Int×Int×Int
def bH(x:av):D:= .agg [.int .i64 x.1,.int .i64 x.2.1,.int .i64 x.2.2]
abbrev cX(l:List av):P:= .d (.sl 3 (l.map bH))
abbrev Pl:=av×av×List UInt8×Bool
def bP(p:Pl):D:= .agg [.int .i64 p.1.1,.int .i64 p.1.2.1,.int .i64 p.1.2.2,.int .i64 p.2.1.1,.int .i64 p.2.1.2.1,.int .i64 p.2.1.2.2,.str p.2.2.1,.bool p.2.2.2]
abbrev eM(l:List Pl):P:= .d (.sl 8 (l.map bP))
def zh(p:Pl):Bool:=cy p.1.1 p.1.2.1 p.1.2.2&&dQ p.2.2.1
def ez(T:List Pl)(x:av):Option Pl:=T.find? λp=>p.1==x
def Jw(T:List Pl)(p:Pl):List Pl:=if(ez T p.1).isSome then T else if zh p then T++[p] else T
def pn(l:List Pl):List Pl:=l.foldl Jw []
theorem ig(p:Pl):cx PR 104 (bP p)=true:=by obtain⟨⟨a,b,c⟩,⟨d,e,f⟩,g,h⟩:=p;kernel_rfl
theorem l6(x:av):cx PR 50 (bH x)=true:=by obtain⟨a,b,c⟩:=x;kernel_rfl
def tW:Pl:=((0,0,0),(0,0,0),[],false)
theorem jd{l:List Pl}{i:Nat}(h:i<l.length):D.nth (l.map bP) i=bP (l.getD i tW):=by rw[ay bP l i h];simp[zac,h]
theorem qdh{l:List av}{i:Nat}(h:i<l.length):D.nth (l.map bH) i=bH (l.getD i (0,0,0)):=by rw[ay bH l i h];simp[zac,h]
theorem Jx{α β:Type}(f:β->α->β)(b:β)(l:List α)(d:α)(k:Nat)(h:k<l.length):(l.take (k+1)).foldl f b=f ((l.take k).foldl f b) (l.getD k d):=by rw[zb8,zae h,za3];simp[zac,h]
section
variable{X:XF}
end
def XZ(T:List Pl):Nat->av->List av->Option (List av)
 |0,_,_=>none
 |n+1,x,out=>match ez T x with
  |none=>none
  |some p=>if 0<out.length/\p.2.2.2=false then none else if p.2.1=(0,0,0) then some (out++[x]) else XZ T n p.2.1 (out++[x])
def wy(T:List Pl)(x:av):Option (List av):=XZ T (T.length+1) x []
def mO(x y:av):Bool:=decide (x.1<y.1\/x.1=y.1/\(x.2.1<y.2.1\/x.2.1=y.2.1/\x.2.2<y.2.2))
theorem ij(x y:av):ze x.1 x.2.1 x.2.2 y.1 y.2.1 y.2.2<0↔mO x y=true:=by
 unfold mO;simp only[zai,ze,qc,Lp,q8]
 (repeat' split)<;>omega
structure HS{α:Type}(lt:α->α->Bool):Prop where
 K8: ∀x,lt x x=false
 tr: ∀x y z,lt x y=true->lt y z=true->lt x z=true
 r4: ∀x y,lt x y=false->lt y x=false->x=y
theorem qbw:HS mO where
 K8 x:=by simp[mO]
 tr x y z:=by simp only[mO,zai];omega
 r4 x y:=by
  simp only[mO,zaE];intro h1 h2;obtain⟨a,b,c⟩:=x;obtain⟨d,e,f⟩:=y;simp only at h1 h2;have:a=d:=by omega
  have:b=e:=by omega
  have:c=f:=by omega
  subst_vars
  rfl
theorem HS.asymm{α:Type}{lt:α->α->Bool}(h:HS lt){x y:α}(h1:lt x y=true):lt y x=false:=by
 cases h2:lt y x with
 |false=>rfl
 |true=>have:=h.tr _ _ _ h1 h2;rw[h.K8] at this;cases this
theorem HS.ntr{α:Type}{lt:α->α->Bool}(h:HS lt){x y z:α}(h1:lt x y=false)(h2:lt y z=false):lt x z=false:=by
 cases h3:lt x z with
 |false=>rfl
 |true=>
  cases h4:lt y x with
  |true=>rw[h.tr _ _ _ h4 h3] at h2;cases h2
  |false=>have:=h.r4 _ _ h1 h4;subst this;rw[h3] at h2;cases h2
section
variable{α:Type}(lt:α->α->Bool)
def oC(a:α):List α->List α
 | []=>[a]
 |b::r=>if lt a b then b::oC a r else a::b::r
def cJ(o:List α)(a:α):List α:=(oC lt a o.reverse).reverse
def cp(l:List α):List α:=l.foldl (cJ lt) []
variable{lt}
theorem u9(a:α): ∀l,(oC lt a l).Perm (a::l)
 | []=> .refl _
 |b::r=>by
  unfold oC;split
  ·exact((u9 a r).cons b).trans (.swap a b r)
  exact .refl _
theorem gQ(o:List α)(a:α):(cJ lt o a).Perm (o++[a]):=by unfold cJ;refine(zcv _).trans ((u9 a _).trans ?_);exact((zcv o).cons a).trans (List.perm_append_comm (l₁:=[a]) (l₂:=o))
theorem zi: ∀(l o:List α),(l.foldl (cJ lt) o).Perm (o++l)
 | [],o=>by simp
 |a::r,o=>by refine(zi r _).trans ?_;exact((gQ o a).append_right r).trans (by simp)
theorem bZ(l:List α):(cp lt l).Perm l:=by simpa [cp] using zi (lt:=lt) l []
theorem Lr(h:HS lt)(a:α): ∀l,l.Pairwise (λx y=>lt x y=false)->(oC lt a l).Pairwise (λx y=>lt x y=false)
 | [],_=>by simp[oC]
 |b::r,hp=>by
  unfold oC;have O6:=zcT.1 hp;split
  next hl=>
   refine zcT.2 ⟨λy hy=> ?_,Lr h a r O6.2⟩;rcases zaw.1 ((u9 a r).mem_iff.1 hy) with rfl |hy
   ·exact h.asymm hl
   exact O6.1 _ hy
  rename_i hl;have hl:lt a b=false:=by simpa using hl
  refine zcT.2 ⟨λy hy=> ?_,hp⟩;rcases zaw.1 hy with rfl |hy
  ·exact hl
  exact h.ntr hl (O6.1 _ hy)
theorem Ls(h:HS lt){o:List α}(a:α)(hp:o.Pairwise (λx y=>lt y x=false)):(cJ lt o a).Pairwise (λx y=>lt y x=false):=by unfold cJ;rw[zcd];exact Lr h a _ (by rw[zcd];exact hp)
theorem Gw(h:HS lt): ∀(l o:List α),o.Pairwise (λx y=>lt y x=false)->(l.foldl (cJ lt) o).Pairwise (λx y=>lt y x=false)
 | [],_,hp=>hp
 |a::r,_,hp=>Gw h r _ (Ls h a hp)
theorem Gx(h:HS lt)(l:List α):(cp lt l).Pairwise (λx y=>lt y x=false):=Gw h l [] .nil
end
theorem zj{α β:Type}{lt:β->β->Bool}(h:HS lt)(key:α->β){a b:List α}(hk: ∀x∈a,∀y∈a,key x=key y->x=y)(hp:a.Perm b)
  (ha:a.Pairwise (λx y=>lt (key y) (key x)=false)) (hb:b.Pairwise (λx y=>lt (key y) (key x)=false)):a=b:=
 List.Perm.eq_of_pairwise (le:=λx y=>lt (key y) (key x)=false) (λx y hx hy h1 h2=>hk x hx y (hp.mem_iff.2 hy) (h.r4 _ _ h2 h1)) ha hb hp
theorem Gy{α β:Type}{lt:β->β->Bool}(key:α->β)(a:α): ∀l:List α,(oC (λx y=>lt (key x) (key y)) a l).map key=oC lt (key a) (l.map key)
 | []=>rfl
 |b::r=>by
  simp only[oC,zbm];split
  ·simp[Gy key a r]
  simp
theorem RO{α β:Type}{lt:β->β->Bool}(key:α->β)(o:List α)(a:α):(cJ (λx y=>lt (key x) (key y)) o a).map key=cJ lt (o.map key) (key a):=by unfold cJ;rw[List.map_reverse,Gy,List.map_reverse]
theorem B3{α β:Type}{lt:β->β->Bool}(key:α->β): ∀l o:List α,(l.foldl (cJ (λx y=>lt (key x) (key y))) o).map key=(l.map key).foldl (cJ lt) (o.map key)
 | [],_=>rfl
 |a::r,o=>by simp only[za8,zbm];rw[B3 key r,RO]
theorem qL{α β:Type}{lt:β->β->Bool}(h:HS lt)(key:α->β)(l:List α):(cp (λx y=>lt (key x) (key y)) l).Pairwise (λx y=>lt (key y) (key x)=false):=by have e:(cp (λx y=>lt (key x) (key y)) l).map key=cp lt (l.map key):=B3 key l [];have:=Gx h (l.map key);rw[<-e,zcu] at this;exact this
abbrev aB:av:=(0,0,0)
inductive Up(T:List Pl):av->List av->Prop
 |top {x:av} {p:Pl} (h:ez T x=some p) (h0:p.2.1=aB):Up T x [x]
 |step {x:av} {p q:Pl} {w:List av} (h:ez T x=some p) (h0:p.2.1≠aB) (hq:ez T p.2.1=some q) (hd:q.2.2.2=true) (hw:Up T p.2.1 w):Up T x (x::w)
section
variable{T:List Pl}
theorem jG{x:av}{p:Pl}(h:ez T x=some p):p∈T/\p.1=x:=by unfold ez at h;exact⟨zcq h,by simpa using zc6 h⟩
theorem Up.one{x:av}{w:List av}(h:Up T x w): ∀{w'},Up T x w'->w=w':=by
 induction h with
 |top h h0=>
  intro w' h';cases h' with
  |top=>rfl
  |step h1 h2=>rw[h] at h1;cases h1;exact absurd h0 h2
 |step h h0 hq hd hw ih=>
  intro w' h';cases h' with
  |top h1 h2=>rw[h] at h1;cases h1;exact absurd h2 h0
  |step h1 h2 _ _ h5=>rw[h] at h1;cases h1;rw[ih h5]
theorem Up.hd{x:av}{w:List av}(h:Up T x w): ∃r,w=x::r:=by
 cases h with
 |top=>exact⟨_,rfl⟩
 |step=>exact⟨_,rfl⟩
theorem Up.at{x:av}{w:List av}(h:Up T x w): ∃p,ez T x=some p:=by
 cases h with
 |top h=>exact⟨_,h⟩
 |step h=>exact⟨_,h⟩
theorem Up.sub{x:av}{w:List av}(h:Up T x w): ∀u∈w,∃w',Up T u w'/\w'.length<=w.length/\ ∃v,w=v++w':=by
 induction h with
 |top h h0=>intro u hu;simp at hu;subst hu;exact⟨_,.top h h0,by simp,[],rfl⟩
 | @step x p q w h h0 hq hd hw ih=>
  intro u hu;rcases zaw.1 hu with rfl |hu
  ·exact⟨_,.step h h0 hq hd hw,zak _,[],rfl⟩
  obtain⟨w',h1,h2,v,h3⟩:=ih u hu;exact⟨w',h1,by simp;omega,x::v,by rw[h3];rfl⟩
theorem Up.nodup{x:av}{w:List av}(h:Up T x w):w.Nodup:=by
 induction h with
 |top=>simp
 | @step x p q w h h0 hq hd hw ih=>refine za7.2 ⟨λhx=> ?_,ih⟩;obtain⟨w',h1,h2,_⟩:=hw.sub x hx;have:=h1.one (.step h h0 hq hd hw);rw[this] at h2;simp at h2;omega
theorem Up.len{x:av}{w:List av}(h:Up T x w):w.length<=T.length:=by
 have:w⊆T.map (·.1):=λu hu=>by obtain⟨w',h1,_⟩:=h.sub u hu;obtain⟨p,hp⟩:=h1.at;obtain⟨h2,h3⟩:=jG hp;exact zaA.2 ⟨p,h2,h3⟩
 simpa using h.nodup.length_le_of_subset this
theorem RP: ∀(n:Nat) (x:av) (out l:List av),XZ T n x out=some l->(∀p,0<out.length->ez T x=some p->p.2.2.2=true)-> ∃w,l=out++w/\Up T x w
 |0,_,_,_,h,_=>by cases h
 |n+1,x,out,l,h,hd=>by
  unfold XZ at h;cases hp:ez T x with
  |none=>rw[hp] at h;cases h
  |some p=>
   rw[hp] at h;simp only at h;split at h
   ·cases h
   split at h
   ·cases h;exact⟨[x],rfl,.top hp (by assumption)⟩
   rename_i h0 h1;cases hq:ez T p.2.1 with
   |none=>
    cases n with
    |zero=>cases h
    |succ n=>unfold XZ at h;rw[hq] at h;cases h
   |some q=>
    have qgJ:q.2.2.2=true:=by
     cases n with
     |zero=>cases h
     |succ n=>
      unfold XZ at h;rw[hq] at h;simp only at h;split at h
      ·cases h
      rename_i hh;cases hqd:q.2.2.2 with
      |true=>rfl
      |false=>exact absurd ⟨by simp,hqd⟩ hh
    obtain⟨w,e,hw⟩:=RP n p.2.1 (out++[x]) l h λp' _ O6=>by rw[hq] at O6;cases O6;exact qgJ
    exact⟨x::w,by rw[e];simp,.step hp h1 hq qgJ hw⟩
theorem qdi{x:av}{w:List av}(h:Up T x w): ∀(n:Nat) (out:List av),w.length<=n->(∀p,0<out.length->ez T x=some p->p.2.2.2=true)->XZ T n x out=some (out++w):=by
 induction h with
 | @top x p h h0=>
  intro n out hn hd;cases n with
  |zero=>simp at hn
  |succ n=>unfold XZ;simp only[h];rw[zal (λhh=>by have:=hd p hh.1 h;rw[hh.2] at this;cases this),zao h0]
 | @step x p q w h h0 hq QT hw ih=>
  intro n out hn hd;cases n with
  |zero=>simp at hn
  |succ n=>unfold XZ;simp only[h];rw[zal (λhh=>by have:=hd p hh.1 h;rw[hh.2] at this;cases this),zal h0];rw[ih n (out++[x]) (by simp at hn;omega) λp' _ O6=>by rw[hq] at O6;cases O6;exact QT];simp
theorem Jy{x:av}{w:List av}:wy T x=some w↔Up T x w:=by
 constructor
 ·intro h;obtain⟨w',e,hw⟩:=RP _ _ _ _ h (λ_ h=>by simp at h);rw[e];exact hw
 intro h;have:=qdi h (T.length+1) [] (by have:=h.len;omega) (λ_ h=>by simp at h);rw[zbi] at this;exact this
def tX(T:List Pl):Nat->av->Bool
 |0,_=>false
 |n+1,x=>match ez T x with
  |none=>false
  |some p=>if p.2.1=aB then true else match ez T p.2.1 with
   |none=>false
   |some q=>if q.2.2.2=false then false else tX T n p.2.1
def lK(T:List Pl)(x:av):Bool:=tX T (T.length+1) x
theorem Gz: ∀(n:Nat) (x:av),tX T n x=true-> ∃w,Up T x w
 |0,_,h=>by cases h
 |n+1,x,h=>by
  unfold tX at h;cases hp:ez T x with
  |none=>rw[hp] at h;cases h
  |some p=>
   rw[hp] at h;simp only at h;split at h
   ·exact⟨_,.top hp (by assumption)⟩
   rename_i h0;cases hq:ez T p.2.1 with
   |none=>rw[hq] at h;cases h
   |some q=>
    rw[hq] at h;simp only at h;split at h
    ·cases h
    rename_i hd;obtain⟨w,hw⟩:=Gz n _ h;exact⟨_,.step hp h0 hq (by simpa using hd) hw⟩
theorem RQ{x:av}{w:List av}(h:Up T x w): ∀n,w.length<=n->tX T n x=true:=by
 induction h with
 | @top x p h h0=>
  intro n hn;cases n with
  |zero=>simp at hn
  |succ n=>unfold tX;simp only[h];rw[zao h0]
 | @step x p q w h h0 hq hd hw ih=>
  intro n hn;cases n with
  |zero=>simp at hn
  |succ n=>unfold tX;simp only[h,hq];rw[zal h0,zal (by rw[hd];simp)];exact ih n (by simp at hn;omega)
theorem zk{x:av}:lK T x=true↔ ∃w,Up T x w:=
 ⟨Gz _ _,λ⟨_,h⟩=>RQ h _ (by have:=h.len;omega)⟩
def mv(T:List Pl):Nat->av->av->Bool
 |0,_,_=>true
 |n+1,x,up=>if x=up then true else match ez T x with
  |none=>false
  |some p=>mv T n p.2.1 up
def within(T:List Pl)(x up:av):Bool:=mv T (T.length+1) x up
theorem Jz{x:av}{w:List av}(h:Up T x w){up:av}(hu:up≠aB)(h00:ez T aB=none): ∀n,w.length<n->mv T n x up=decide (up∈w):=by
 induction h with
 | @top x p h h0=>
  intro n hn
  match n,hn with
  |n+2,_=>
   unfold mv;simp only[h];split
   next e=>simp[e]
   rename_i e;unfold mv;rw[h0,zal (λh=>hu h.symm)];simp only[h00];simpa using λh:up=x=>e h.symm
  |1,hn=>simp at hn
 | @step x p q w h h0 hq hd hw ih=>
  intro n hn;cases n with
  |zero=>simp at hn
  |succ n=>
   unfold mv;simp only[h];split
   next e=>simp[e]
   rename_i e;rw[ih n (by simp at hn;omega)];have:up≠x:=λh=>e h.symm;simp[this]
def marked(T:List Pl)(live:List av)(z:av):Bool:=live.any λx=>match wy T x with |some w=>w.contains z |none=>false
theorem sB{live:List av}{z:av}:marked T live z=true↔ ∃x∈live,∃w,Up T x w/\z∈w:=by
 unfold marked;rw[zby];constructor
 ·rintro⟨x,hx,h⟩;cases hw:wy T x with
  |none=>rw[hw] at h;cases h
  |some w=>rw[hw] at h;exact⟨x,hx,w,Jy.1 hw,by simpa using h⟩
 rintro⟨x,hx,w,hw,hz⟩;exact⟨x,hx,by rw[Jy.2 hw];simpa using hz⟩
def bg(T:List Pl)(live:List av):List Pl:=T.filter λp=>marked T live p.1
theorem B4{live:List av}{z:av}(h:marked T live z=true): ∃w,Up T z w/\ ∀u∈w,marked T live u=true:=by obtain⟨x,hx,w,hw,hz⟩:=sB.1 h;obtain⟨w',h1,_,v,h3⟩:=hw.sub z hz;exact⟨w',h1,λu hu=>sB.2 ⟨x,hx,w,hw,by rw[h3];exact zbd _ hu⟩⟩
def mkF(S:List av):List av->List av
 | []=>S
 |u::r=>if u∈S then S else mkF (S++[u]) r
def UpC(T:List Pl)(S:List av):Prop:= ∀z∈S,∃w,Up T z w/\ ∀u∈w,u∈S
theorem X0{x:av}{w:List av}(h:Up T x w): ∀{S:List av},(∀u∈w,u∈S-> ∀w',Up T u w'-> ∀z∈w',z∈S)-> ∀z,z∈mkF S w↔z∈S\/z∈w:=by
 induction h with
 | @top x p h h0=>
  intro S hC z;unfold mkF;split
  next hx=>exact⟨.inl,λh=>h.elim id λhz=>by simp at hz;exact hz▸hx⟩
  simp[mkF]
 | @step x p q w h h0 hq hd hw ih=>
  intro S hC z;unfold mkF;split
  next hx=>exact⟨.inl,λhz=>hz.elim id λhz=>hC x (by simp) hx _ (.step h h0 hq hd hw) z hz⟩
  rename_i hx;have hn:=(Up.step h h0 hq hd hw).nodup;have hxw:x∉w:=(za7.1 hn).1;rw[ih (λu hu hS w' F9 z hz=>by
   have hS':u∈S:=by
    rcases zaI.1 hS with h |h
    ·exact h
    simp at h;subst h;exact absurd hu hxw
   exact zbA _ (hC u (by simp[hu]) hS' w' F9 z hz))]
  simp[or_assoc]
theorem UpC.in{S:List av}(h:UpC T S){z:av}(hz:z∈S){w:List av}(hw:Up T z w): ∀u∈w,u∈S:=by obtain⟨w',h1,h2⟩:=h z hz;rw[hw.one h1];exact h2
theorem UpC.mk{x:av}{w:List av}(h:Up T x w){S:List av}(hS:UpC T S):UpC T (mkF S w)/\ ∀z,z∈mkF S w↔z∈S\/z∈w:=by
 have hm:=X0 h (S:=S) λu _ hu w' F9=>hS.in hu F9;refine⟨λz hz=> ?_,hm⟩;rcases(hm z).1 hz with hz |hz
 ·obtain⟨w',h1,h2⟩:=hS z hz;exact⟨w',h1,λu hu=>(hm u).2 (.inl (h2 u hu))⟩
 obtain⟨w',h1,_,v,h3⟩:=h.sub z hz;exact⟨w',h1,λu hu=>(hm u).2 (.inr (by rw[h3];exact zbd _ hu))⟩
def qgK(T:List Pl)(live:List av):List av:=(bg T live).map (·.1)
def Uq(T:List Pl):Prop:=(T.map (·.1)).Nodup
theorem Lt(hu:Uq T){p:Pl}(hp:p∈T):ez T p.1=some p:=by
 unfold ez;unfold Uq at hu
 induction T with
 |nil=>cases hp
 |cons a r ih=>
  rw[zbm,za7] at hu;rw[List.find?_cons];rcases zaw.1 hp with rfl |hp
  ·simp
  have:(a.1==p.1)=false:=by simp only[zcN,ne_eq];exact λe=>hu.1 (e▸za6 hp)
  rw[this];exact ih hu.2 hp
theorem GA(hu:Uq T)(live:List av):(qgK T live).Nodup:=
 List.Nodup.sublist (zcj.map _) hu
end
abbrev aw:=Int×Int
structure aX where
 kind:Int
 node:av
 parent:av
 name:List UInt8
 dir:Bool
 cg:List aw
 after:av
 elem:av
 text:List UInt8
 elems:List av
structure ak where
 s:aw
 n:Int
 deps:List Int
 bN:aw
 ops:List aX
abbrev l7(a b:aw):Bool:=sA a.1 a.2 b.1 b.2
abbrev JA(a:aw):Bool:=uZ a.1 a.2
abbrev rgX(x:av):Bool:=cy x.1 x.2.1 x.2.2
abbrev GB(x:av):aw:=(x.1,x.2.1)
def lL(n:Nat)(f:Nat->Bool):Bool:=(List.range n).all f
theorem GC{n:Nat}{f:Nat->Bool}:lL n f=true↔ ∀i,i<n->f i=true:=by simp[lL]
theorem DH{n i:Nat}{f:Nat->Bool}(hi:i<n)(h:f i=false):lL n f=false:=by
 cases hh:lL n f with
 |false=>rfl
 |true=>rw[GC.1 hh i hi] at h;cases h
theorem vb{n:Nat}{f:Nat->Bool}(h: ∀i,i<n->f i=true):lL n f=true:=GC.2 h
def db(s:aw)(k:Int)(x:av):Bool:=rgX x&&(l7 (GB x) s ||GB x==s&&decide (x.2.2<k))
def l8(s:aw)(k:Int)(x:av):Bool:=x==aB ||db s k x
def l9(s:aw)(l:List aw)(i:Nat):Bool:=JA (l.getD i (0,0))&& !l7 s (l.getD i (0,0))&&(i==0 ||l7 (l.getD (i-1) (0,0)) (l.getD i (0,0)))
def nA(s:aw)(l:List aw):Bool:=lL l.length (l9 s l)&&decide (l.length<=200)
def B5(s:aw)(k:Int)(l:List av)(i:Nat):Bool:=db s k (l.getD i aB)&&(i==0 ||mO (l.getD (i-1) aB) (l.getD i aB))
def tY(s:aw)(k:Int)(l:List av):Bool:=lL l.length (B5 s k l)&&decide (1<=l.length/\l.length<=2000)
def ky(o:aX)(place dir cg run elems:Bool):Bool:=
 (place ||o.parent==aB&&o.name==[])&&(dir || !o.dir)&&(cg ||o.cg.length==0)&&(run ||o.after==aB&&o.elem==aB&&o.text==[])&&(elems ||o.elems.length==0)
def fD(o:aX):Bool:=ky o (o.kind==0 ||o.kind==1) (o.kind==0) (o.kind==2) (o.kind==3) (o.kind==4)
def AX(s:List UInt8):Int:=Lib.runeCount ⟨⟨s⟩⟩
def nB(s:List UInt8):Bool:=Lib.validD s&&decide (1<=AX s/\AX s<=2000)
def kJ(s:aw)(k:Int)(o:aX):Option Int:=
 if fD o=false then none
 else if o.kind=0 then(if o.node=(s.1,s.2,k)/\l8 s k o.parent=true/\dQ o.name=true then some 1 else none)
 else if o.kind=1 then(if db s k o.node=true/\l8 s k o.parent=true/\dQ o.name=true then some 0 else none)
 else if o.kind=2 then(if db s k o.node=true/\nA s o.cg=true then some 0 else none)
 else if o.kind=3 then(if db s k o.node=true/\l8 s k o.after=true/\o.elem=(s.1,s.2,k)/\nB o.text=true then some (AX o.text) else none)
 else if o.kind=4 then(if db s k o.node=true/\tY s k o.elems=true then some 0 else none)
 else none
def je(s:aw):Int->List aX->Bool
 |_,[]=>true
 |k,o::r=>match kJ s k o with |some n=>je s (k+n) r |none=>false
def V5(g:ak):Bool:=JA g.s&&decide (1<=g.n/\g.n<=1099511627776)&&dp g.deps&&(eB g.deps g.s.2==g.n-1)
def cE(g:ak):Bool:=V5 g&&(if g.bN≠(0,0) then JA g.bN&&l7 g.bN g.s&&g.ops.length==0 else decide (1<=g.ops.length/\g.ops.length<=200)&&je g.s 0 g.ops)
def RR:Nat->List UInt8->List (List UInt8)
 |0,_=>[]
 |n+1,s=>if s=[] then [] else s.take (Lib.decodeL s).2::RR n (s.drop (Lib.decodeL s).2)
def HT(s:List UInt8):List (List UInt8):=RR s.length s
theorem xu{s:List UInt8}(h:s≠[]):1<=(Lib.decodeL s).2:=by refine Lib.decode_width_pos ⟨s.toArray⟩ 0 ?_;exact zbN.2 h
theorem vd: ∀(n m:Nat) (s:List UInt8),s.length<=n->s.length<=m->RR n s=RR m s
 |0,0,_,_,_=>rfl
 |0,m+1,s,h,_=>by have:s=[]:=zau (by omega);subst this;rfl
 |n+1,0,s,_,h=>by have:s=[]:=zau (by omega);subst this;rfl
 |n+1,m+1,s,h1,h2=>by
  unfold RR;split
  ·rfl
  rename_i dP;have:=xu dP;have hl:0<s.length:=zbN.2 dP;rw[vd n m _ (by rw[zbf];omega) (by rw[zbf];omega)]
theorem X1:HT []=[]:=rfl
theorem GD{s:List UInt8}(h:s≠[]):HT s=s.take (Lib.decodeL s).2::HT (s.drop (Lib.decodeL s).2):=by have hl:0<s.length:=zbN.2 h;have:=xu h;unfold HT;rw[vd s.length ((s.length-1)+1) s (zak _) (by omega)];show(if s=[] then [] else _)=_;rw[zal h];rw[vd (s.length-1) (s.drop (Lib.decodeL s).2).length _ (by rw[zbf];omega) (zak _)]
theorem X2{s:List UInt8}(h:s≠[]):Lib.runeCount ⟨s.toArray⟩=1+Lib.runeCount ⟨(s.drop (Lib.decodeL s).2).toArray⟩:=by
 have hl:0<s.length:=zbN.2 h;have hp:=xu h;have hle:=Lib.decodeL_le s h;have hs:(ByteArray.mk s.toArray).size=s.length:=rfl;have e1:Lib.runeCount ⟨s.toArray⟩=Lib.runeCountFrom ⟨s.toArray⟩ ((s.length-1)+1) 0:=by unfold Lib.runeCount;exact Lib.fuel_enough _ _ _ _ (by omega) (by omega)
 rw[e1];unfold Lib.runeCountFrom;rw[zao (by rw[hs];exact hl)];have ex:(ByteArray.mk (s.drop (Lib.decodeL s).2).toArray)=(ByteArray.mk s.toArray).extract (Lib.decodeL s).2 (ByteArray.mk s.toArray).size:=by apply ByteArray.ext;simp[ByteArray.data_extract,hs];rw[<-zbf,zaj]
 have e2:Lib.runeCount ⟨(s.drop (Lib.decodeL s).2).toArray⟩=Lib.runeCountFrom ⟨s.toArray⟩ (s.length-(Lib.decodeL s).2) (Lib.decodeL s).2:=by
  unfold Lib.runeCount;have hz:(ByteArray.mk (s.drop (Lib.decodeL s).2).toArray).size=s.length-(Lib.decodeL s).2:=by show(s.drop (Lib.decodeL s).2).toArray.size=_;simp
  rw[hz,ex,Lib.tail_count];rfl
 rw[e2];show 1+Lib.runeCountFrom _ (s.length-1) (0+(Lib.decodeL s).2)=_;rw[zaF];congr 1;exact Lib.fuel_enough _ _ _ _ (by omega) (by omega)
theorem JB: ∀(n:Nat) (s:List UInt8),s.length<=n->Lib.runeCount ⟨s.toArray⟩=(HT s).length
 |0,s,h=>by have:s=[]:=zau (by omega);subst this;rfl
 |n+1,s,h=>by
  by_cases hs:s=[]
  ·subst hs;rfl
  have:=xu hs;have hl:0<s.length:=zbN.2 hs;rw[X2 hs,GD hs,zap,JB n _ (by rw[zbf];omega)];omega
theorem zl(s:List UInt8):AX s=((HT s).length:Nat):=by unfold AX;rw[<-JB s.length s (zak _)]
theorem DI(s:List UInt8):(HT s).length<=s.length:=by rw[<-JB s.length s (zak _)];exact Lib.runeCount_le _
def qdj:S->K (PX×S):=λst ae=> ∃s,st=rsH s []/\s.length<=2000000/\(Lib.validD s=false-> ∀o:List (List UInt8),ae (.ret,⟨29,[(2,.sl 0 0 0),(3,iD 60),(4,.sl 1 0 o.length)],[(0,⟨0,none,.arr 9 false []⟩),(1,⟨0,none,.arr 9 false (o.map D.str)⟩)]⟩))/\(Lib.validD s=true-> ∀o:List (List UInt8),o=HT s->ae (.exit 0,⟨29,[(4,.sl 0 0 o.length)],[(0,⟨0,none,.arr 9 false (o.map D.str)⟩)]⟩))
def tZ:bm:=λps R ae=> ∃s,ps=[sD s]/\R=[]/\s.length<=2000000/\(Lib.validD s=false->ae (.cT [.sl 0 0 0,iD 60],[(0,⟨0,none,.arr 9 false []⟩)]))/\(Lib.validD s=true-> ∀o:List (List UInt8),o=HT s->ae (.cT [.sl 0 0 o.length,iD 0],[(0,⟨0,none,.arr 9 false (o.map D.str)⟩)]))
def B6:bm:=λps R ae=> ∃s,ps=[sD s]/\R=[]/\s.length<=2000000/\(Lib.validD s=false->ae (.cT [iD 0,iD 60],[]))/\(Lib.validD s=true-> ∀n,n=AX s->ae (.cT [iD n,iD 0],[]))
theorem qgL(s:List UInt8)(ae:P×List (Nat×En)->Prop):(∃(iP:List UInt8),Z1R s=Z1R iP/\HR iP/\Z1T iP ae/\(RI iP-> ∀(o:List (List UInt8)),o=HT iP->Z1W ae o))=(aJ [] [(2,ah (aL 144 2) qdj)] 144 [sD s] []) ae:=by kernel_rfl
theorem qgM(s:List UInt8)(ae:P×List (Nat×En)->Prop):(∃(iP:List UInt8),wu s=wu iP/\Zx/\HR iP/\(RJ iP->ae (P.cT (P.d Z7::Z1o),[]))/\(RI iP-> ∀(o:List (List UInt8)),o=HT iP->Z1X ae o))=(aJ [(144,tZ)] [] 142 [sD s] []) ae:=by kernel_rfl
section
variable{X:XF}
theorem X3:LD X 144 2 (ah (aL 144 2) qdj):=LD.par (H:=[(168,Ju)]) (hk:=[]) (by kernel_rfl) (by kernel_rfl) (.cons XU .nil) .nil
 (A:=List UInt8) (B:=List UInt8×List (List UInt8)) (λ_ b=>rsH b.1 b.2)
 (λa b=>a.length<=2000000/\b.1.length+b.2.length<=a.length/\Lib.validD b.1=Lib.validD a/\b.2++HT b.1=HT a)
 (λ_ b=>b.1.length)
 (λa x=>(Lib.validD a=false/\ ∃o:List (List UInt8),x=(.ret,⟨29,[(2,.sl 0 0 0),(3,iD 60),(4,.sl 1 0 o.length)],[(0,⟨0,none,.arr 9 false []⟩),(1,⟨0,none,.arr 9 false (o.map D.str)⟩)]⟩))\/(Lib.validD a=true/\ ∃o:List (List UInt8),o=HT a/\x=(.exit 0,⟨29,[(4,.sl 0 0 o.length)],[(0,⟨0,none,.arr 9 false (o.map D.str)⟩)]⟩)))
 (by
  rintro a ⟨s,o⟩ ⟨ha,hl,hv,hpc⟩;dsimp only at*
  (rw[<-qgB];delta RH Zg Z1Z sx Lo Z1Q ZQ HR Zx wu DB)
  refine bk (λh=> ?_) λh=> ?_
  ·have dP:s≠[]:=λe=>by subst e;simp at h
   have ln:=Lib.validD_step s dP;refine⟨s,rfl,rfl,⟨dP,by omega⟩,λhb c n=> .inl ⟨?_,o,rfl⟩,λhb c n hn h1 hle=> ?_⟩
   ·unfold Jt at hb;rw[<-hv,ln,zao hb]
   unfold Jt at hb;rw[zal hb] at ln;refine bu (by omega) (aq (qgn (by simp;omega) (by simp;omega) _ (by simp)) (bu (by omega) ?_));refine⟨_,?_,(s.drop n.toNat,o++[s.take n.toNat]),?_,⟨ha,?_,?_,?_⟩,rfl⟩
   ·dsimp only;rw[zbf];omega
   ·rw[zaj,zah (l:=List.map D.str o) (by simp),zb9];simp only[rsH,zaB,zbm,List.map_nil,zan,zap,zat]
   ·dsimp only;rw[zbf,zan];simp;omega
   ·dsimp only;rw[<-hv,ln,hn];rfl
   dsimp only;rw[<-hpc,GD dP,za0,hn];rfl
  have:s=[]:=zau (by omega);subst this;exact .inr ⟨hv.symm.trans Lib.validD_nil,o,by rw[<-hpc,X1,zbe],rfl⟩)
 (by
  rintro st ae ⟨s,rfl,hs,h1,h2⟩;refine⟨s,(s,[]),rfl,⟨hs,by simp,rfl,rfl⟩,?_⟩;rintro x (⟨h3,o,rfl⟩| ⟨h3,o,h4,rfl⟩)
  ·exact h1 h3 o
  exact h2 h3 o h4)
theorem GF:FD X 144 tZ:=FD.mk (H:=[]) (hk:=[(2,ah (aL 144 2) qdj)]) (by kernel_rfl) .nil (.cons X3 .nil) (by
 intro ps R ae hh;obtain⟨s,rfl,rfl,hs,h1,h2⟩:=hh
 (rw[<-qgL];delta RH Z7 mr Z1W RI Z1Q Z1o ZQ RJ Z1T sx HR Z1R)
 exact⟨s,rfl,hs,λh o=>h1 h,λh o=>h2 h o⟩)
theorem X4:FD X 142 B6:=FD.mk (H:=[(144,tZ)]) (hk:=[]) (by kernel_rfl) (.cons GF .nil) .nil (by
 intro ps R ae hh;obtain⟨s,rfl,rfl,hs,h1,h2⟩:=hh
 (rw[<-qgM];delta Z7 mr Z1X RI Z1o RJ sx HR Zx wu)
 refine⟨s,rfl,rfl,hs,λh=>h1 h,λh o ho=>h2 h _ ?_⟩;rw[ho,zl])
theorem qdk:FD X 115 B6:=FD.mk (H:=[(148,Jr),(149,Js)]) (hk:=[]) (by kernel_rfl) (.cons XQ (.cons XR .nil)) .nil (by
 intro ps R ae hh;obtain⟨s,rfl,rfl,hs,h1,h2⟩:=hh
 (rw[<-qgA];delta Z7 mr Z1o sx HR Zx wu)
 refine⟨s,rfl,rfl,hs,az (λh=>h1 (by simpa using h)) λh=>⟨s,rfl,rfl,hs,h2 (by simpa using h) _ rfl⟩⟩)
end
def jH{α:Type}(t:α->Bool)(l:List α):Int:=match l.findIdx? t with |some i=>(i:Int)|none=> -1
theorem GG{α:Type}{t:α->Bool}{l:List α}{i:Nat}(hi:i<l.length)(ht:t l[i]=true)(hb: ∀j (hj:j<i),t (l[j]'(by omega))=false):jH t l=(i:Int):=by unfold jH;rw[zbp.2 ⟨hi,ht,λj hj=>by rw[hb j hj];simp⟩]
theorem Lu{α:Type}{t:α->Bool}{l:List α}(h: ∀j (hj:j<l.length),t l[j]=false):jH t l= -1:=by unfold jH;rw[zbL.2 λx hx=>by obtain⟨j,hj,rfl⟩:=zaW hx;exact h j hj]
theorem zm{α:Type}(t:α->Bool)(l:List α):jH t l<0↔l.any t=false:=by
 unfold jH;split
 next i h=>
  obtain⟨hi,ht,_⟩:=zbp.1 h;constructor
  ·intro h;omega
  intro h2;rw[zcw] at h2;exact absurd ht (h2 _ (zas hi))
 rename_i h;refine⟨λ_=> ?_,λ_=>by omega⟩;rw[zcw];intro x hx;have:=(zbL.1 h) x hx;simp[this]
variable{X:XF}
theorem LD.idx{H:List (FuncId×bm)}{hk:List (Nat×(S->K (PX×S)))}{f id:Nat}{g:S->K (PX×S)}(hu:uniq PR f=true)(hc:cd (qK f) (bB PR f id)=true)(hH:HD X H)(hl:Rq X f hk)
  {A B:Type} (hd:A->B->Int->S) (len:A->Nat) (Inv:A->Nat->B->Prop) (Out:A->PX×S->Prop)
  (hr: ∀a b (k:Int) ae,0<=k->k<len a->k.toNat<len a->Inv a k.toNat b->(∀b',Inv a (k.toNat+1) b'->ae (.normal,hd a b' (k+1)))->(∀x,x.1≠ .normal->Out a x->ae x)->aD H hk f id (hd a b k) ae)
  (hx: ∀a b (k:Int) ae,k=len a->Inv a (len a) b->(∀x,x.1≠ .normal->Out a x->ae x)->aD H hk f id (hd a b k) ae)
  (hg: ∀s ae,g s ae-> ∃a b,s=hd a b 0/\Inv a 0 b/\ ∀x,Out a x->ae x):LD X f id (ah (aL f id) g):=
 LD.par hu hc hH hl (A:=A) (B:=B×Int) (λa b=>hd a b.1 b.2) (λa b=>0<=b.2/\b.2.toNat<=len a/\Inv a b.2.toNat b.1) (λa b=>(len a-b.2).toNat) Out
  (by
   rintro a ⟨b,k⟩ ⟨h1,h2,h3⟩;dsimp only at*
   have bt: ∀x:PX×S,x.1≠ .normal->Out a x->roundPost ((len a-k).toNat) (λm s=> ∃b':B×Int,s=hd a b'.1 b'.2/\(0<=b'.2/\b'.2.toNat<=len a/\Inv a b'.2.toNat b'.1)/\m=(len a-b'.2).toNat) (Out a) x:=by
    rintro⟨e,s⟩ dP hx;cases e with
    |normal=>exact absurd rfl dP
    |exit i=>exact hx
    |ret=>exact hx
   by_cases hk:k<len a
   ·refine hr a b k _ h1 hk (by omega) h3 (λb' hb=> ?_) bt;exact⟨((len a:Int)-(k+1)).toNat,by omega,(b',k+1),rfl,⟨by show 0<=k+1;omega,by show(k+1).toNat<=len a;omega,by show Inv a (k+1).toNat b';rw[show(k+1).toNat=k.toNat+1 by omega];exact hb⟩,rfl⟩
   have e:k=len a:=by omega
   refine hx a b k _ e ?_ bt;have:k.toNat=len a:=by omega
   rwa [this] at h3)
  (by intro s ae hp;obtain⟨a,b,h1,h2,h3⟩:=hg s ae hp;exact⟨a,(b,0),h1,⟨zbz _,by simp,h2⟩,h3⟩)
theorem LD.find{H:List (FuncId×bm)}{hk:List (Nat×(S->K (PX×S)))}{f id:Nat}{g:S->K (PX×S)}(hu:uniq PR f=true)(hc:cd (qK f) (bB PR f id)=true)(hH:HD X H)(hl:Rq X f hk)
  {A α:Type} (hd:A->Int->S) (pc:A->List α) (t:A->Nat->α->Bool) (C:A->Prop) (rt:A->Int->PX×S) (ex:A->PX×S) (qjd: ∀a k,(rt a k).1≠ .normal) (qje: ∀a,(ex a).1≠ .normal)
  (hr: ∀a (k:Int) ae (dO:k.toNat<(pc a).length),C a->0<=k->k<(pc a).length->(t a k.toNat (pc a)[k.toNat]=true->ae (rt a k))->(t a k.toNat (pc a)[k.toNat]=false->ae (.normal,hd a (k+1)))->aD H hk f id (hd a k) ae)
  (hx: ∀a (k:Int) ae,C a->k=(pc a).length->ae (ex a)->aD H hk f id (hd a k) ae)
  (hg: ∀s ae,g s ae-> ∃a,s=hd a 0/\C a/\(∀(i:Int) (hi:i.toNat<(pc a).length),0<=i->t a i.toNat (pc a)[i.toNat]=true->(∀j (hj:j<i.toNat),t a j ((pc a)[j]'(by omega))=false)->ae (rt a i))/\((∀j (hj:j<(pc a).length),t a j (pc a)[j]=false)->ae (ex a))):LD X f id (ah (aL f id) g):=
 LD.idx hu hc hH hl (A:=A) (B:=Unit) (λa _ k=>hd a k) (λa=>(pc a).length) (λa k _=>C a/\ ∀j (hj:j<(pc a).length),j<k->t a j (pc a)[j]=false)
  (λa x=>(∃(i:Int) (hi:i.toNat<(pc a).length),0<=i/\t a i.toNat (pc a)[i.toNat]=true/\(∀j (hj:j<i.toNat),t a j ((pc a)[j]'(by omega))=false)/\x=rt a i)\/((∀j (hj:j<(pc a).length),t a j (pc a)[j]=false)/\x=ex a))
  (by
   intro a _ k ae h0 hk dO ⟨hC,hI⟩ hn ho;refine hr a k ae dO hC h0 hk (λht=>ho _ (qjd a k) (.inl ⟨k,dO,h0,ht,λj hj=>hI j (by omega) hj,rfl⟩)) λht=>hn () ⟨hC,λj hj hjk=> ?_⟩;by_cases e:j=k.toNat
   ·subst e;exact ht
   exact hI j hj (by omega))
  (by intro a _ k ae hk ⟨hC,hI⟩ ho;exact hx a k ae hC hk (ho _ (qje a) (.inr ⟨λj hj=>hI j hj hj,rfl⟩)))
  (by
   intro s ae hp;obtain⟨a,h1,h2,h3,h4⟩:=hg s ae hp;refine⟨a,(),h1,⟨h2,λj _ hj=>by omega⟩,?_⟩;rintro x (⟨i,hi,g1,g2,g3,rfl⟩| ⟨g1,rfl⟩)
   ·exact h3 i hi g1 g2 g3
   exact h4 g1)
abbrev iE(n:Int):D:= .int .i64 n
def bh(s:aw):D:= .agg [iE s.1,iE s.2]
def eN(o:aX):D:= .agg [iE o.kind,iE o.node.1,iE o.node.2.1,iE o.node.2.2,iE o.parent.1,iE o.parent.2.1,iE o.parent.2.2,.str o.name,.bool o.dir,.sl 2 (o.cg.map bh),
 iE o.after.1,iE o.after.2.1,iE o.after.2.2,iE o.elem.1,iE o.elem.2.1,iE o.elem.2.2,.str o.text,.sl 3 (o.elems.map bH)]
def aQ(g:ak):D:= .agg [iE g.s.1,iE g.s.2,iE g.n,.sl 1 (a8 g.deps),iE g.bN.1,iE g.bN.2,.sl 18 (g.ops.map eN)]
abbrev bC(l:List ak):P:= .d (.sl 7 (l.map aQ))
abbrev qdl(l:List aX):P:= .d (.sl 18 (l.map eN))
abbrev gh(l:List aw):P:= .d (.sl 2 (l.map bh))
structure NJ(a b:aw)(c:Int):Prop where
 lt:c<0↔l7 a b=true
 gt:c>0↔l7 b a=true
structure Lv(a b:av)(c:Int):Prop where
 lt:c<0↔mO a b=true
 gt:c>0↔mO b a=true
def zn:bm:=λps R ae=> ∃a b,ps=[.d (bh a),.d (bh b)]/\R=[]/\ ∀c,NJ a b c->ae (iD c,[])
def qM:bm:=λps R ae=> ∃x y,ps=[.d (bH x),.d (bH y)]/\R=[]/\ ∀c,Lv x y c->ae (iD c,[])
def wR:bm:=λps R ae=> ∃s,ps=[.d (bh s)]/\R=[]/\ ∀b,b=JA s->ae (lV b,[])
def NK:bm:=λps R ae=> ∃x,ps=[.d (bH x)]/\R=[]/\ ∀b,b=rgX x->ae (lV b,[])
def nC:bm:=λps R ae=> ∃a b,ps=[.d (bh a),.d (bh b)]/\R=[]/\ ∀r,r=l7 a b->ae (lV r,[])
abbrev ckB(g:ak)(k:Int):Obj:= .box 149 [iD g.s.1,iD g.s.2,iD g.n,.d (.sl 1 (a8 g.deps)),iD g.bN.1,iD g.bN.2,qdl g.ops,iD k]
abbrev wx(g:ak)(k:Int):List (Nat×En):=[(0,⟨0,some 0,ckB g k⟩)]
theorem qgN(s:aw)(ae:P×List (Nat×En)->Prop):(bif decide (Prod.fst s>=(1:Int)) then bif decide (Prod.fst s<=Z1) then bif decide (Prod.snd s>=(1:Int)) then ae (P.d (D.bool (decide (Prod.snd s<=(16:Int)))),[]) else Z4 ae else Z4 ae else Z4 ae)=(aJ [] [] 82 [.d (bh s)] []) ae:=by kernel_rfl
theorem qdm(s:aw)(ae:P×List (Nat×En)->Prop):(bif decide (Prod.fst s>=(1:Int)) then bif decide (Prod.fst s<=Z1) then bif decide (Prod.snd s>=(1:Int)) then ae (P.d (D.bool (decide (Prod.snd s<=(16:Int)))),[]) else Z4 ae else Z4 ae else Z4 ae)=(aJ [] [] 104 [.d (bh s)] []) ae:=by kernel_rfl
def po(g:ak):P:=P.d (D.sl 18 (List.map eN (ak.ops g)))
def kc(g:ak):D:=D.int .i64 (Prod.snd (ak.bN g))
def ke(g:ak):D:=D.int .i64 (Prod.fst (ak.bN g))
def oD(g:ak):P:=P.d (D.sl 1 (a8 (ak.deps g)))
def q9(g:ak):P:=P.d (D.int .i64 (ak.n g))
def kg(g:ak):Int:=Prod.snd (ak.s g)
def il(g:ak):D:=D.int .i64 (kg g)
def kh(g:ak):Int:=Prod.fst (ak.s g)
def iz(g:ak):D:=D.int .i64 (kh g)
def NL(g:ak)(k:Int):Obj:=Obj.box (149:TypeId) (P.d (iz g)::P.d (il g)::q9 g::oD g::P.d (ke g)::P.d (kc g)::po g::Zv k)
def rQ(g:ak)(k:Int):List (Nat×En):=[(0,En.mk 0 (some 0) (NL g k))]
def JC(ae:P×List (Nat×En)->Prop)(g:ak)(k:Int):Prop:=ae (P.d Z3,rQ g k)
def gU(x:av):Int:=Prod.snd (Prod.snd x)
def im(x:av):Int:=Prod.fst (Prod.snd x)
def Z2w(x:av)(g:ak):Bool:=Prod.fst x==kh g&&(im x==kg g&&true)
def gV(a:aw):D:=D.int .i64 (Prod.snd a)
def gW(a:aw):D:=D.int .i64 (Prod.fst a)
def qe(a:aw):P:=P.d (D.agg [gW a,gV a])
def mP(b:aw):List P:=[qe b]
def AY(a:aw)(b:aw):List P:=qe a::mP b
def NM(g:ak):P:=P.d (D.agg [iz g,il g])
def JD(g:ak):List P:=[NM g]
def gJ(x:av):D:=D.int .i64 (im x)
def gK(x:av):D:=D.int .i64 (Prod.fst x)
def gT(x:av):D:=D.int .i64 (gU x)
def ve(x:av):P:=P.d (D.agg [gK x,gJ x,gT x])
def jf(x:av):List P:=[ve x]
theorem X5(g:ak)(k:Int)(x:av)(ae:P×List (Nat×En)->Prop):(∃(aK:av),jf x=jf aK/\Zx/\ ∀(b:Bool),b=rgX aK->bif b then∃(a:aw) (b:aw),P.d (D.agg [gK x,gJ x])::JD g=AY a b/\Zx/\ ∀(c:Int),NJ a b c->bif NB c then ae (ZO,rQ g k) else bif Z2w x g then ae (P.d (D.bool (decide (gU x<k))),rQ g k) else JC ae g k else JC ae g k)=(aJ [(147,NK),(66,zn)] [] 113 [.ref 0 0 0,.d (bH x)] (wx g k)) ae:=by kernel_rfl
def sC:bm:=λps R ae=> ∃g k x,ps=[.ref 0 0 0,.d (bH x)]/\R=wx g k/\ ∀b,b=db g.s k x->ae (lV b,wx g k)
def fI(b:Bool):P:=P.d (D.bool b)
def Aa(b:Bool)(aT:ak)(bW:Int)(aK:av):Prop:=b=db (ak.s aT) bW aK
def B7(g:ak)(k:Int)(aT:ak)(bW:Int):Prop:=rQ g k=rQ aT bW
def bT:P:=P.ref 0 0 0
def Z2y(x:av):Bool:=Prod.fst x==(0:Int)&&(im x==(0:Int)&&true)&&(gU x==(0:Int)&&true)
theorem RS(g:ak)(k:Int)(x:av)(ae:P×List (Nat×En)->Prop):(bif Z2y x then ae (ZO,rQ g k) else∃(aT:ak) (bW:Int) (aK:av),bT::jf x=bT::jf aK/\B7 g k aT bW/\ ∀(b:Bool),Aa b aT bW aK->ae (fI b,rQ aT bW))=(aJ [(113,sC)] [] 111 [.ref 0 0 0,.d (bH x)] (wx g k)) ae:=by kernel_rfl
def DJ:bm:=λps R ae=> ∃g k x,ps=[.ref 0 0 0,.d (bH x)]/\R=wx g k/\ ∀b,b=l8 g.s k x->ae (lV b,wx g k)
def plainO(o:aX):aX:=
 if o.kind=0 then⟨o.kind,o.node,o.parent,o.name,o.dir,[],aB,aB,[],[]⟩
 else if o.kind=1 then⟨o.kind,o.node,o.parent,o.name,false,[],aB,aB,[],[]⟩
 else if o.kind=2 then⟨o.kind,o.node,aB,[],false,o.cg,aB,aB,[],[]⟩
 else if o.kind=3 then⟨o.kind,o.node,aB,[],false,[],o.after,o.elem,o.text,[]⟩
 else if o.kind=4 then⟨o.kind,o.node,aB,[],false,[],aB,aB,[],o.elems⟩
 else⟨o.kind,o.node,aB,[],false,[],aB,aB,[],[]⟩
def DK:bm:=λps R ae=> ∃o,ps=[.d (eN o)]/\R=[]/\ ∀p,p=plainO o->ae (.d (eN p),[])
def RT(o:aX):List D:=[D.sl 3 (List.map bH (aX.elems o))]
def Z2N:List D:=[D.sl 3 []]
def wS(o:aX):Int:=Prod.snd (Prod.snd (aX.elem o))
def wT(o:aX):Int:=Prod.fst (Prod.snd (aX.elem o))
def wU(o:aX):Int:=Prod.fst (aX.elem o)
def Ab(o:aX):Int:=Prod.snd (Prod.snd (aX.after o))
def AZ(o:aX):D:=D.int .i64 (Ab o)
def Ac(o:aX):Int:=Prod.fst (Prod.snd (aX.after o))
def A0(o:aX):D:=D.int .i64 (Ac o)
def A1(o:aX):D:=D.int .i64 (Prod.fst (aX.after o))
def lM(o:aX):D:=D.sl 2 (List.map bh (aX.cg o))
def V6:List D:=Z7::Z7::Z7::Z7::Z7::Z7::z7::Z2N
def Pb:D:=D.sl 2 []
def Z2P:List D:=Z3::Pb::V6
def Ad(o:aX):Int:=Prod.snd (Prod.snd (aX.parent o))
def Ae(o:aX):D:=D.int .i64 (Ad o)
def Af(o:aX):Int:=Prod.fst (Prod.snd (aX.parent o))
def Ag(o:aX):D:=D.int .i64 (Af o)
def Ah(o:aX):D:=D.int .i64 (Prod.fst (aX.parent o))
def vf(o:aX):D:=D.int .i64 (Prod.snd (Prod.snd (aX.node o)))
def vg(o:aX):D:=D.int .i64 (Prod.fst (Prod.snd (aX.node o)))
def vi(o:aX):D:=D.int .i64 (Prod.fst (aX.node o))
def wV(o:aX):D:=D.int .i64 (aX.kind o)
theorem RU(o:aX)(ae:P×List (Nat×En)->Prop):(bif aX.kind o==(0:Int) then ae (P.d (D.agg (wV o::vi o::vg o::vf o::Ah o::Ag o::Ae o::D.str (aX.name o)::D.bool (aX.dir o)::Pb::V6)),[]) else bif aX.kind o==(1:Int) then ae (P.d (D.agg (wV o::vi o::vg o::vf o::Ah o::Ag o::Ae o::D.str (aX.name o)::Z2P)),[]) else bif aX.kind o==(2:Int) then ae (P.d (D.agg (wV o::vi o::vg o::vf o::Z7::Z7::Z7::z7::Z3::lM o::V6)),[]) else bif aX.kind o==(3:Int) then ae (P.d (D.agg (wV o::vi o::vg o::vf o::Z7::Z7::Z7::z7::Z3::Pb::A1 o::A0 o::AZ o::D.int .i64 (wU o)::D.int .i64 (wT o)::D.int .i64 (wS o)::D.str (aX.text o)::Z2N)),[]) else bif aX.kind o==(4:Int) then ae (P.d (D.agg (wV o::vi o::vg o::vf o::Z7::Z7::Z7::z7::Z3::Pb::Z7::Z7::Z7::Z7::Z7::Z7::z7::RT o)),[]) else ae (P.d (D.agg (wV o::vi o::vg o::vf o::Z7::Z7::Z7::z7::Z2P)),[]))=(aJ [] [] 145 [.d (eN o)] []) ae:=by kernel_rfl
def Z32(p:aX):Int:=(↑(List.length (List.map bH (aX.elems p))):Int)
def nM(p:aX):Int:=(↑(List.length (List.map bh (aX.cg p))):Int)
def A2(o:aX):D:=D.agg (wV o::vi o::vg o::vf o::Ah o::Ag o::Ae o::D.str (aX.name o)::D.bool (aX.dir o)::lM o::A1 o::A0 o::AZ o::D.int .i64 (wU o)::D.int .i64 (wT o)::D.int .i64 (wS o)::D.str (aX.text o)::RT o)
theorem qdn(o:aX)(ae:P×List (Nat×En)->Prop):(∃(aP:aX),[P.d (A2 o)]=[P.d (A2 aP)]/\Zx/\ ∀(p:aX),p=plainO aP->bif Prod.fst (aX.parent p)==Prod.fst (aX.parent o)&&(Af p==Af o&&true)&&(Ad p==Ad o&&true) then bif aX.name p==aX.name o then bif aX.dir p==aX.dir o then bif Prod.fst (aX.after p)==Prod.fst (aX.after o)&&(Ac p==Ac o&&true)&&(Ab p==Ab o&&true) then bif wU p==wU o&&(wT p==wT o&&true)&&(wS p==wS o&&true) then bif aX.text p==aX.text o then bif nM p==nM o then ae (P.d (D.bool (Z32 p==Z32 o)),[]) else Z4 ae else Z4 ae else Z4 ae else Z4 ae else Z4 ae else Z4 ae else Z4 ae)=(aJ [(145,DK)] [] 109 [.d (eN o)] []) ae:=by kernel_rfl
def JE:bm:=λps R ae=> ∃o,ps=[.d (eN o)]/\R=[]/\ ∀b,b=fD o->ae (lV b,[])
abbrev dtH(g:ak)(k:Int)(l:List aw)(i:Int):S:=⟨45,[(0,.ref 0 0 0),(1,gh l),(7,gh l),(8,iD ((l.map bh).length:Int)),(9,iD i)],wx g k⟩
def dX(l:List aw):List D:=List.map bh l
def lN(l:List aw):P:=P.d (D.sl 2 (dX l))
def JF(l:List aw):Nat×P:=(1,lN l)
def e9:Nat×P:=(0,bT)
def A3(l:List aw):Int:=(↑(List.length (dX l)):Int)
def Z3i(i:Int)(ae:PX×S->Prop)(l:List aw)(g:ak)(k:Int):Prop:=bif Zj i then ae (PX.normal,S.mk 45 (e9::JF l::(7,lN l)::(8,P.d (D.int .i64 (A3 l)))::ZH i) (rQ g k)) else False
def X6(l:List aw)(i:Int):List D:=[D.int .i64 (D.aj (D.ar (D.nth (dX l) (Zc i)) 0)),D.int .i64 (D.aj (D.ar (D.nth (dX l) (Zc i)) 1))]
noncomputable def X7(l:List aw)(i:Int):Bool:=cx PR (30:TypeId) (D.nth (dX l) (Zc i))
def Z3f(ae:PX×S->Prop)(l:List aw)(g:ak)(k:Int):Prop:=ae (PX.ret,S.mk 45 (e9::JF l::Zi) (rQ g k))
def ju(b:Bool):Bool:= !b
def GH(l:List aw)(i:Int):Int:=D.aj (D.ar (D.nth (dX l) (Zg i)) 1)
def EG(l:List aw)(i:Int):Int:=D.aj (D.ar (D.nth (dX l) (Zg i)) 0)
def A4(l:List aw)(i:Int):List D:=[D.int .i64 (EG l i),D.int .i64 (GH l i)]
noncomputable def uD(l:List aw)(i:Int):Bool:=cx PR (30:TypeId) (D.nth (dX l) (Zg i))
def Lw(i:Int)(l:List aw):Bool:=decide ((0:Int)<=i/\i<A3 l)
def Pc(i:Int)(l:List aw):Bool:=decide (i<A3 l)
theorem Lx(g:ak)(k:Int)(l:List aw)(i:Int)(ae:PX×S->Prop):(bif Pc i l then bif Lw i l then bif uD l i then∃(s:aw),[P.d (D.agg (A4 l i))]=mP s/\Zx/\ ∀(b:Bool),b=JA s->bif ju b then Z3f ae l g k else∃(a:aw) (b:aw),P.d (D.agg (A4 l i))::JD g=AY a b/\Zx/\ ∀(c:Int),NJ a b c->bif Zr c then Z3f ae l g k else bif Zr i then bif Zb i then bif decide ((0:Int)<=i-(1:Int)/\i-(1:Int)<A3 l) then bif X7 l i then∃(a:aw) (b:aw),[P.d (D.agg (X6 l i)),P.d (D.agg (A4 l i))]=AY a b/\Zx/\ ∀(c:Int),NJ a b c->bif Z2 c then Z3f ae l g k else Z3i i ae l g k else False else False else False else Z3i i ae l g k else False else False else ae (PX.exit 0,S.mk 45 [e9,JF l] (rQ g k)))=(aD [(82,wR),(66,zn)] [] 114 2 (dtH g k l i)) ae:=by kernel_rfl
abbrev elH(g:ak)(k:Int)(l:List av)(i:Int):S:=⟨41,[(0,.ref 0 0 0),(1,cX l),(7,cX l),(8,iD ((l.map bH).length:Int)),(9,iD i)],wx g k⟩
def gD(l:List av):List D:=List.map bH l
def qf(l:List av):Nat:=List.length (gD l)
def wz(l:List av):Int:=(↑(qf l):Int)
def ma(l:List av):P:=P.d (D.sl 3 (gD l))
def nN(l:List av):Nat×P:=(1,ma l)
def Z3x(i:Int)(ae:PX×S->Prop)(l:List av)(aT:ak)(bW:Int):Prop:=bif Zj i then ae (PX.normal,S.mk 41 (e9::nN l::(7,ma l)::(8,P.d (D.int .i64 (wz l)))::ZH i) (rQ aT bW)) else False
def JG(l:List av)(i:Int):Int:=D.aj (D.ar (D.nth (gD l) (Zg i)) 2)
def JH(l:List av)(i:Int):Int:=D.aj (D.ar (D.nth (gD l) (Zg i)) 1)
def JI(l:List av)(i:Int):Int:=D.aj (D.ar (D.nth (gD l) (Zg i)) 0)
def NN(l:List av)(i:Int):List D:=[D.int .i64 (JI l i),D.int .i64 (JH l i),D.int .i64 (JG l i)]
def V7(l:List av)(i:Int):List D:=[D.int .i64 (D.aj (D.ar (D.nth (gD l) (Zc i)) 0)),D.int .i64 (D.aj (D.ar (D.nth (gD l) (Zc i)) 1)),D.int .i64 (D.aj (D.ar (D.nth (gD l) (Zc i)) 2))]
def Z3w(l:List av)(i:Int)(x:av)(y:av):Prop:=[P.d (D.agg (V7 l i)),P.d (D.agg (NN l i))]=ve x::jf y
noncomputable def Pd(l:List av)(i:Int):Bool:=cx PR (50:TypeId) (D.nth (gD l) (Zc i))
noncomputable def xv(l:List av)(i:Int):Bool:=cx PR (50:TypeId) (D.nth (gD l) (Zg i))
def NP(i:Int)(l:List av):Bool:=decide ((0:Int)<=i/\i<wz l)
theorem GI(g:ak)(k:Int)(l:List av)(i:Int)(ae:PX×S->Prop):(bif decide (i<wz l) then bif NP i l then bif xv l i then∃(aT:ak) (bW:Int) (x:av),[bT,P.d (D.agg (NN l i))]=bT::jf x/\B7 g k aT bW/\ ∀(b:Bool),Aa b aT bW x->bif ju b then ae (PX.ret,S.mk 41 (e9::nN l::Zi) (rQ aT bW)) else bif Zr i then bif Zb i then bif decide ((0:Int)<=i-(1:Int)/\i-(1:Int)<wz l) then bif Pd l i then∃(x:av) (y:av),Z3w l i x y/\Zx/\ ∀(c:Int),Lv x y c->bif Z2 c then ae (PX.ret,S.mk 41 (e9::nN l::Zi) (rQ aT bW)) else Z3x i ae l aT bW else False else False else False else Z3x i ae l aT bW else False else False else ae (PX.exit 0,S.mk 41 [e9,nN l] (rQ g k)))=(aD [(113,sC),(150,qM)] [] 116 2 (elH g k l i)) ae:=by kernel_rfl
theorem DL(a b:aw):NJ a b (qc a.1 a.2 b.1 b.2) where
 lt:=by
  simp only[sA,qc,Lp,q8,zai]
  (repeat' split)<;>omega
 gt:=by
  simp only[sA,qc,Lp,q8,zai]
  (repeat' split)<;>omega
theorem GJ(a b:av):Lv a b (ze a.1 a.2.1 a.2.2 b.1 b.2.1 b.2.2) where
 lt:=ij a b
 gt:=by
  simp only[mO,ze,qc,Lp,q8,zai]
  (repeat' split)<;>omega
theorem jI(s:aw):cx PR 30 (bh s)=true:=by kernel_rfl
theorem JJ(o:aX):cx PR 54 (eN o)=true:=by kernel_rfl
theorem cY(g:ak):cx PR 34 (aQ g)=true:=by kernel_rfl
theorem DM(a b:aw):(a.1==b.1&&(a.2==b.2&&true))=(a==b):=by obtain⟨x,y⟩:=a;obtain⟨z,u⟩:=b;rw[zaH];simp
theorem EH(a b:av):(a.1==b.1&&(a.2.1==b.2.1&&true)&&(a.2.2==b.2.2&&true))=(a==b):=by obtain⟨x,y,z⟩:=a;obtain⟨u,v,w⟩:=b;rw[zaH];simp[and_assoc]
theorem lnE(m n:Nat):((m:Int)==(n:Int))=(m==n):=by rw[zaH,zaT,zaT];omega
theorem RV(o:aX):fD o=((plainO o).parent==o.parent&&((plainO o).name==o.name&&((plainO o).dir==o.dir&&((plainO o).after==o.after&&((plainO o).elem==o.elem&&((plainO o).text==o.text&&((plainO o).cg.length==o.cg.length&&(plainO o).elems.length==o.elems.length))))))):=by
 have h0: ∀x:av,(aB==x)=(x==aB):=λx=>by rw[zaH,zaT,zaT];exact eq_comm
 have h1: ∀s:List UInt8,(([]:List UInt8)==s)=(s==[]):=λs=>by rw[zaH,zaT,zaT];exact eq_comm
 have h2:(false==o.dir)= !o.dir:=by cases o.dir<;>rfl
 have h3: ∀n:Nat,((0:Nat)==n)=(n==0):=λn=>by rw[zaH,zaT,zaT];exact eq_comm
 unfold fD ky plainO;by_cases e0:o.kind=0
 ·have g0:(o.kind==0)=true:=by simpa using e0
  have g1:(o.kind==1)=false:=by rw[e0];rfl
  have g2:(o.kind==2)=false:=by rw[e0];rfl
  have g3:(o.kind==3)=false:=by rw[e0];rfl
  have g4:(o.kind==4)=false:=by rw[e0];rfl
  rw[zao e0,g0,g1,g2,g3,g4];simp only[zbH,zat,h0,h1,h3,zce,zaS,zbu,zbo,zbU];rw[zaH];simp only[zab];constructor
  ·rintro⟨⟨a,⟨b,c⟩,d⟩,e⟩;exact⟨b,c,d,a,e⟩
  rintro⟨b,c,d,a,e⟩;exact⟨⟨a,⟨b,c⟩,d⟩,e⟩
 have f0:(o.kind==0)=false:=by simpa using e0
 by_cases e1:o.kind=1
 ·have g1:(o.kind==1)=true:=by simpa using e1
  have g2:(o.kind==2)=false:=by rw[e1];rfl
  have g3:(o.kind==3)=false:=by rw[e1];rfl
  have g4:(o.kind==4)=false:=by rw[e1];rfl
  rw[zal e0,zao e1,f0,g1,g2,g3,g4];simp only[zbH,zat,h0,h1,h2,h3,zce,Bool.or_true,zaS,zbo];rw[zaH];simp only[zab];constructor
  ·rintro⟨⟨⟨a,f⟩,⟨b,c⟩,d⟩,e⟩;exact⟨a,b,c,d,f,e⟩
  rintro⟨a,b,c,d,f,e⟩;exact⟨⟨⟨a,f⟩,⟨b,c⟩,d⟩,e⟩
 have f1:(o.kind==1)=false:=by simpa using e1
 by_cases e2:o.kind=2
 ·have g2:(o.kind==2)=true:=by simpa using e2
  have g3:(o.kind==3)=false:=by rw[e2];rfl
  have g4:(o.kind==4)=false:=by rw[e2];rfl
  rw[zal e0,zal e1,zao e2,f0,f1,g2,g3,g4];simp only[zbH,zat,h0,h1,h2,h3,zce,zaS,zbu,zbo,zbU];rw[zaH];simp only[zab];constructor
  ·rintro⟨⟨⟨⟨a,b⟩,c⟩,⟨d,e⟩,f⟩,g⟩;exact⟨a,b,c,d,e,f,g⟩
  rintro⟨a,b,c,d,e,f,g⟩;exact⟨⟨⟨⟨a,b⟩,c⟩,⟨d,e⟩,f⟩,g⟩
 have g2:(o.kind==2)=false:=by simpa using e2
 by_cases e3:o.kind=3
 ·have g3:(o.kind==3)=true:=by simpa using e3
  have g4:(o.kind==4)=false:=by rw[e3];rfl
  rw[zal e0,zal e1,zal e2,zao e3,f0,f1,g2,g3,g4];simp only[zbH,zat,h0,h1,h2,h3,zce,zaS,zbu,zbo,zbU];rw[zaH];simp only[zab];constructor
  ·rintro⟨⟨⟨⟨a,b⟩,c⟩,f⟩,g⟩;exact⟨a,b,c,f,g⟩
  rintro⟨a,b,c,f,g⟩;exact⟨⟨⟨⟨a,b⟩,c⟩,f⟩,g⟩
 have g3:(o.kind==3)=false:=by simpa using e3
 by_cases e4:o.kind=4
 ·have g4:(o.kind==4)=true:=by simpa using e4
  rw[zal e0,zal e1,zal e2,zal e3,zao e4,f0,f1,g2,g3,g4];simp only[zat,h0,h1,h2,h3,zbH,zce,zbu,zbo,zbU];rw[zaH];simp only[zab];constructor
  ·rintro⟨⟨⟨⟨a,b⟩,c⟩,f⟩,⟨d,e⟩,g⟩;exact⟨a,b,c,d,e,g,f⟩
  rintro⟨a,b,c,d,e,g,f⟩;exact⟨⟨⟨⟨a,b⟩,c⟩,f⟩,⟨d,e⟩,g⟩
 have g4:(o.kind==4)=false:=by simpa using e4
 rw[zal e0,zal e1,zal e2,zal e3,zal e4,f0,f1,g2,g3,g4];simp only[zat,h0,h1,h2,h3,zbo,zbU];rw[zaH];simp only[zab];constructor
 ·rintro⟨⟨⟨⟨⟨a,b⟩,c⟩,f⟩,⟨d,e⟩,g⟩,h⟩;exact⟨a,b,c,d,e,g,f,h⟩
 rintro⟨a,b,c,d,e,g,f,h⟩;exact⟨⟨⟨⟨⟨a,b⟩,c⟩,f⟩,⟨d,e⟩,g⟩,h⟩
theorem zo{p:Prop}[Decidable p] {A B:Prop}(h1:p)(h2:A):cond (decide p) A B:=fT (zaP h1) h2
section
variable{X:XF}
theorem JK:FD X 66 zn:=qbu.weaken λps R ae h=>by obtain⟨a,b,rfl,rfl,hp⟩:=h;exact⟨_,_,_,_,rfl,rfl,hp _ (DL a b)⟩
theorem RW:FD X 150 qM:=XY.weaken λps R ae h=>by obtain⟨a,b,rfl,rfl,hp⟩:=h;exact⟨_,_,_,_,_,_,rfl,rfl,hp _ (GJ a b)⟩
theorem NQ:FD X 88 qM:=nz.weaken λps R ae h=>by obtain⟨a,b,rfl,rfl,hp⟩:=h;exact⟨_,_,_,_,_,_,rfl,rfl,hp _ (GJ a b)⟩
theorem vj:FD X 14 nC:=Gv.weaken λps R ae h=>by obtain⟨a,b,rfl,rfl,hp⟩:=h;exact⟨_,_,_,_,rfl,rfl,hp _ rfl⟩
theorem qgO:FD X 147 NK:=Ny.weaken λps R ae h=>by obtain⟨x,rfl,rfl,hp⟩:=h;exact⟨_,_,_,rfl,rfl,hp _ rfl⟩
theorem qdo:FD X 151 NK:=sv.weaken λps R ae h=>by obtain⟨x,rfl,rfl,hp⟩:=h;exact⟨_,_,_,rfl,rfl,hp _ rfl⟩
theorem RX:FD X 82 wR:=FD.mk (H:=[]) (by kernel_rfl) .nil .nil (by
 intro ps R ae hh;obtain⟨s,rfl,rfl,hp⟩:=hh
 (rw[<-qgN];delta Z3 Z4 Z1)
 refine bk (λh1=>bk (λh2=>bk (λh3=>hp _ ?_) λh3=>hp _ ?_) λh2=>hp _ ?_) λh1=>hp _ ?_
 all_goals (simp only[uZ];rw[eq_comm];first | (rw[zbI];omega)| (rw[zaE];omega)))
theorem RY:FD X 104 wR:=FD.mk (H:=[]) (by kernel_rfl) .nil .nil (by
 intro ps R ae hh;obtain⟨s,rfl,rfl,hp⟩:=hh
 (rw[<-qdm];delta Z3 Z4 Z1)
 refine bk (λh1=>bk (λh2=>bk (λh3=>hp _ ?_) λh3=>hp _ ?_) λh2=>hp _ ?_) λh1=>hp _ ?_
 all_goals (simp only[uZ];rw[eq_comm];first | (rw[zbI];omega)| (rw[zaE];omega)))
theorem DN:FD X 113 sC:=FD.mk (H:=[(147,NK),(66,zn)]) (by kernel_rfl) (.cons qgO (.cons JK .nil)) .nil (by
 intro ps R ae hh;obtain⟨g,k,x,rfl,rfl,hp⟩:=hh
 (rw[<-X5];delta Zt Zv po kc ke oD q9 kg il kh iz NL rQ Z3 JC gU im Z2w ZO NB gV gW qe mP AY NM JD gJ gK Zx gT ve jf)
 refine⟨x,rfl,rfl,λb hb=>az (λh1=>⟨GB x,g.s,rfl,rfl,λc hc=>bk (λh2=>hp _ ?_) λh2=>az (λh3=>hp _ ?_) λh3=>hp _ ?_⟩) λh1=>hp _ ?_⟩
 ·rw[db,<-hb,h1,hc.lt.1 h2];rfl
 ·have e:GB x=g.s:=by rw[DM (GB x) g.s] at h3;simpa using h3
  have e2:l7 (GB x) g.s=false:=by rw[<-zaX,<-hc.lt];exact h2
  rw[db,<-hb,h1,e2,e];simp
 ·have e:(GB x==g.s)=false:=by rw[<-DM (GB x) g.s];exact h3
  have e2:l7 (GB x) g.s=false:=by rw[<-zaX,<-hc.lt];exact h2
  rw[db,<-hb,h1,e2,e];rfl
 rw[db,<-hb,h1];rfl)
theorem RZ:FD X 111 DJ:=FD.mk (H:=[(113,sC)]) (by kernel_rfl) (.cons DN .nil) .nil (by
 intro ps R ae hh;obtain⟨g,k,x,rfl,rfl,hp⟩:=hh
 (rw[<-RS];delta fI Aa Zt Zv po kc ke oD q9 kg il kh iz NL rQ B7 gU gT im gJ gK ve jf bT ZO Z2y)
 refine az (λh1=>hp _ ?_) λh1=>⟨g,k,x,rfl,rfl,λb hb=>hp _ ?_⟩
 ·rw[l8,<-EH x aB,h1];rfl
 rw[l8,<-EH x aB,h1,hb];rfl)
theorem R4:FD X 145 DK:=FD.mk (H:=[]) (by kernel_rfl) .nil .nil (by
 intro ps R ae hh;obtain⟨o,rfl,rfl,hp⟩:=hh
 (rw[<-RU];delta RT Z2N wS wT wU Ab AZ Ac A0 A1 lM Z3 z7 Z7 V6 Pb Z2P Ad Ae Af Ag Ah vf vg vi wV)
 refine ie (λh1=> ?_) λh1=>ie (λh2=> ?_) λh2=>ie (λh3=> ?_) λh3=>ie (λh4=> ?_) λh4=>ie (λh5=> ?_) λh5=> ?_
 ·exact hp _ (by rw[plainO,zao h1])
 ·exact hp _ (by rw[plainO,zal h1,zao h2])
 ·exact hp _ (by rw[plainO,zal h1,zal h2,zao h3])
 ·exact hp _ (by rw[plainO,zal h1,zal h2,zal h3,zao h4])
 ·exact hp _ (by rw[plainO,zal h1,zal h2,zal h3,zal h4,zao h5])
 exact hp _ (by rw[plainO,zal h1,zal h2,zal h3,zal h4,zal h5]))
theorem X8:FD X 109 JE:=FD.mk (H:=[(145,DK)]) (by kernel_rfl) (.cons R4 .nil) .nil (by
 intro ps R ae hh;obtain⟨o,rfl,rfl,hp⟩:=hh
 (rw[<-qdn];delta Z3 Z4 Z32 nM wS wT wU Ab Ac Ad Af Zx RT AZ A0 A1 lM Ae Ag Ah vf vg vi wV A2)
 refine⟨o,rfl,rfl,λp X9=> ?_⟩;have key:=RV o;rw[<-X9] at key;rw[EH,EH,EH];simp only[zaa,lnE];refine az (λh1=>az (λh2=>az (λh3=>az (λh4=>az (λh5=>az (λh6=>az (λh7=>hp _ ?_) λh7=>hp _ ?_) λh6=>hp _ ?_) λh5=>hp _ ?_) λh4=>hp _ ?_) λh3=>hp _ ?_) λh2=>hp _ ?_) λh1=>hp _ ?_
 all_goals (clear X9;rw[key];simp only[*,zaS,Bool.false_and]))
def R5:S->K (PX×S):=λst ae=> ∃g k l,st=dtH g k l 0/\l.length<=9223372036854775807/\(lL l.length (l9 g.s l)=false->ae (.ret,⟨45,[(0,.ref 0 0 0),(1,gh l),(4,lV false)],wx g k⟩))/\(lL l.length (l9 g.s l)=true->ae (.exit 0,⟨45,[(0,.ref 0 0 0),(1,gh l)],wx g k⟩))
theorem eb{α:Type}{l:List α}{i:Nat}(h:i<l.length)(d:α):l.getD i d=l[i]:=by simp[zac,h]
theorem R6:LD X 114 2 (ah (aL 114 2) R5):=LD.find (H:=[(82,wR),(66,zn)]) (hk:=[]) (by kernel_rfl) (by kernel_rfl) (.cons RX (.cons JK .nil)) .nil
 (A:=ak×Int×List aw) (λa k=>dtH a.1 a.2.1 a.2.2 k) (λa=>a.2.2) (λa j _=> !l9 a.1.s a.2.2 j) (λa=>a.2.2.length<=9223372036854775807)
 (λa _=>(.ret,⟨45,[(0,.ref 0 0 0),(1,gh a.2.2),(4,lV false)],wx a.1 a.2.1⟩)) (λa=>(.exit 0,⟨45,[(0,.ref 0 0 0),(1,gh a.2.2)],wx a.1 a.2.1⟩)) (λ_ _ h=>by cases h) (λ_ h=>by cases h)
 (by
  rintro⟨g,k,l⟩ i ae hi hC h0 bR ht hn;dsimp only at*
  (rw[<-Lx];delta Zt Zv po kc ke oD q9 kg il kh iz NL rQ dX lN JF bT e9 Zn ZH A3 Za Z9 Zj Z3i Z2 Zc X6 X7 Zb Zr gV gW qe mP AY NM JD Z3 Zi Z3f ju Zx Zg GH EG A4 uD Lw Pc)
  have e1:D.nth (l.map bh) i.toNat=bh l[i.toNat]:=ay _ _ _ hi;have d1:=eb hi ((0,0):aw);rw[e1];simp only[dtH,zaa] at hn⊢;refine zo bR (bu ⟨h0,bR⟩ (aq (jI _) ⟨l[i.toNat],rfl,rfl,λb hb=>az (λh1=> ?_) λh1=>⟨l[i.toNat],g.s,rfl,rfl,λc hc=>bk (λh2=> ?_) λh2=>bk (λh3=> ?_) λh3=> ?_⟩⟩))
  ·refine ht ?_;rw[l9,d1,<-hb,show b=false by simpa using h1];rfl
  ·refine ht ?_;rw[l9,d1,hc.gt.1 h2];simp
  ·have e2:D.nth (l.map bh) (i-1).toNat=bh (l[(i-1).toNat]'(by omega)):=ay _ _ _ (by omega);have d2:=eb (show(i-1).toNat<l.length by omega) ((0,0):aw);rw[e2];have e3:l7 g.s l[i.toNat]=false:=by rw[<-zaX,<-hc.gt];exact h2
   refine bu (by omega) (bu ⟨by omega,by omega⟩ (aq (jI _) ⟨l[(i-1).toNat],l[i.toNat],rfl,rfl,λc' rJ=>bk (λh4=>ht ?_) λh4=>bu (by omega) (hn ?_)⟩))
   ·have e4:l7 l[(i-1).toNat] l[i.toNat]=false:=by rw[<-zaX,<-rJ.lt];omega
    rw[l9,d1,show i.toNat-1=(i-1).toNat by omega,d2,e4,show(i.toNat==0)=false by simp;omega];simp
   have e4:l7 l[(i-1).toNat] l[i.toNat]=true:=by rw[<-rJ.lt];omega
   rw[l9,d1,show i.toNat-1=(i-1).toNat by omega,d2,e3,e4,<-hb,show b=true by simpa using h1];simp
  have e3:l7 g.s l[i.toNat]=false:=by rw[<-zaX,<-hc.gt];exact h2
  refine bu (by omega) (hn ?_);rw[l9,d1,e3,<-hb,show b=true by simpa using h1,show(i.toNat==0)=true by simp;omega];simp)
 (by
  rintro⟨g,k,l⟩ i ae hC hi hp;dsimp only at*
  (rw[<-Lx];delta Zt Zv po kc ke oD q9 kg il kh iz NL rQ dX lN JF bT e9 Zn ZH A3 Za Z9 Zj Z3i Z2 Zc X6 X7 Zb Zr gV gW qe mP AY NM JD Z3 Zi Z3f ju Zx Zg GH EG A4 uD Lw Pc)
  simp only[zaa];exact bk (λh=>by omega) λh=>hp)
 (by rintro s ae ⟨g,k,l,rfl,hl,h1,h2⟩;refine⟨(g,k,l),rfl,hl,λi hi h0 ht _=>h1 (DH (i:=i.toNat) hi (by simpa using ht)),λh=>h2 (vb λi hi=>by simpa using h i hi)⟩)
def JL:S->K (PX×S):=λst ae=> ∃g k l,st=elH g k l 0/\l.length<=9223372036854775807/\(lL l.length (B5 g.s k l)=false->ae (.ret,⟨41,[(0,.ref 0 0 0),(1,cX l),(4,lV false)],wx g k⟩))/\(lL l.length (B5 g.s k l)=true->ae (.exit 0,⟨41,[(0,.ref 0 0 0),(1,cX l)],wx g k⟩))
theorem NR:LD X 116 2 (ah (aL 116 2) JL):=LD.find (H:=[(113,sC),(150,qM)]) (hk:=[]) (by kernel_rfl) (by kernel_rfl) (.cons DN (.cons RW .nil)) .nil
 (A:=ak×Int×List av) (λa k=>elH a.1 a.2.1 a.2.2 k) (λa=>a.2.2) (λa j _=> !B5 a.1.s a.2.1 a.2.2 j) (λa=>a.2.2.length<=9223372036854775807)
 (λa _=>(.ret,⟨41,[(0,.ref 0 0 0),(1,cX a.2.2),(4,lV false)],wx a.1 a.2.1⟩)) (λa=>(.exit 0,⟨41,[(0,.ref 0 0 0),(1,cX a.2.2)],wx a.1 a.2.1⟩)) (λ_ _ h=>by cases h) (λ_ h=>by cases h)
 (by
  rintro⟨g,k,l⟩ i ae hi hC h0 bR ht hn;dsimp only at*
  (rw[<-GI];delta Zt Zv po kc ke oD q9 kg il kh iz NL rQ Zn ZH gD qf wz ma nN bT e9 Za Z9 Zj Z3x Z2 Zx gU gT im gJ gK ve jf Zg JG JH JI NN Zc V7 Z3w Pd Zb Zr Z3 Zi ju Aa B7 xv NP)
  have e1:D.nth (l.map bH) i.toNat=bH l[i.toNat]:=ay _ _ _ hi;have d1:=eb hi aB;rw[e1];simp only[elH,zaa] at hn⊢;refine zo bR (bu ⟨h0,bR⟩ (aq (l6 _) ⟨g,k,l[i.toNat],rfl,rfl,λb hb=>az (λh1=> ?_) λh1=>bk (λh3=> ?_) λh3=> ?_⟩))
  ·refine ht ?_;rw[B5,d1,<-hb,show b=false by simpa using h1];rfl
  ·have e2:D.nth (l.map bH) (i-1).toNat=bH (l[(i-1).toNat]'(by omega)):=ay _ _ _ (by omega);have d2:=eb (show(i-1).toNat<l.length by omega) aB;rw[e2];refine bu (by omega) (bu ⟨by omega,by omega⟩ (aq (l6 _) ⟨l[(i-1).toNat],l[i.toNat],rfl,rfl,λc' rJ=>bk (λh4=>ht ?_) λh4=>bu (by omega) (hn ?_)⟩))
   ·have e4:mO l[(i-1).toNat] l[i.toNat]=false:=by rw[<-zaX,<-rJ.lt];omega
    rw[B5,d1,show i.toNat-1=(i-1).toNat by omega,d2,e4,show(i.toNat==0)=false by simp;omega];simp
   have e4:mO l[(i-1).toNat] l[i.toNat]=true:=by rw[<-rJ.lt];omega
   rw[B5,d1,show i.toNat-1=(i-1).toNat by omega,d2,e4,<-hb,show b=true by simpa using h1];simp
  refine bu (by omega) (hn ?_);rw[B5,d1,<-hb,show b=true by simpa using h1,show(i.toNat==0)=true by simp;omega];simp)
 (by
  rintro⟨g,k,l⟩ i ae hC hi hp;dsimp only at*
  (rw[<-GI];delta Zt Zv po kc ke oD q9 kg il kh iz NL rQ Zn ZH gD qf wz ma nN bT e9 Za Z9 Zj Z3x Z2 Zx gU gT im gJ gK ve jf Zg JG JH JI NN Zc V7 Z3w Pd Zb Zr Z3 Zi ju Aa B7 xv NP)
  simp only[zaa];exact bk (λh=>by omega) λh=>hp)
 (by rintro s ae ⟨g,k,l,rfl,hl,h1,h2⟩;refine⟨(g,k,l),rfl,hl,λi hi h0 ht _=>h1 (DH (i:=i.toNat) hi (by simpa using ht)),λh=>h2 (vb λi hi=>by simpa using h i hi)⟩)
end
def dR(au:List aw):Nat:=List.length au
def Z3y:List (Nat×P):=[(9,P.d Z7)]
def Z3z(l:List aw)(g:ak)(k:Int):S:=S.mk 45 (e9::JF l::(7,lN l)::(8,P.d (D.int .i64 (A3 l)))::Z3y) (rQ g k)
theorem qdp(g:ak)(k:Int)(l:List aw)(ae:P×List (Nat×En)->Prop):(∃(aT:ak) (bW:Int) (au:List aw),Z3z l g k=Z3z au aT bW/\dR au<=Zy/\(lL (dR au) (l9 (ak.s aT) au)=false->JC ae aT bW)/\(lL (dR au) (l9 (ak.s aT) au)=true->ae (P.d (D.bool (decide (A3 au<=(200:Int)))),rQ aT bW)))=(aJ [] [(2,ah (aL 114 2) R5)] 114 [.ref 0 0 0,gh l] (wx g k)) ae:=by kernel_rfl
def iq(au:List av):Nat:=List.length au
def Z3B(l:List av)(g:ak)(k:Int):S:=S.mk 41 (e9::nN l::(7,ma l)::(8,P.d (D.int .i64 (wz l)))::Z3y) (rQ g k)
theorem Ya(g:ak)(k:Int)(l:List av)(ae:P×List (Nat×En)->Prop):(∃(aT:ak) (bW:Int) (au:List av),Z3B l g k=Z3B au aT bW/\iq au<=Zy/\(lL (iq au) (B5 (ak.s aT) bW au)=false->JC ae aT bW)/\(lL (iq au) (B5 (ak.s aT) bW au)=true->bif decide (wz au>=(1:Int)) then ae (P.d (D.bool (decide (wz au<=(2000:Int)))),rQ aT bW) else JC ae aT bW))=(aJ [] [(2,ah (aL 116 2) JL)] 116 [.ref 0 0 0,cX l] (wx g k)) ae:=by kernel_rfl
def JM:bm:=λps R ae=> ∃g k l,ps=[.ref 0 0 0,gh l]/\R=wx g k/\l.length<=9223372036854775807/\ ∀b,b=nA g.s l->ae (lV b,wx g k)
def DO:bm:=λps R ae=> ∃g k l,ps=[.ref 0 0 0,cX l]/\R=wx g k/\l.length<=9223372036854775807/\ ∀b,b=tY g.s k l->ae (lV b,wx g k)
def vn:bm:=λps R ae=> ∃s,ps=[sD s]/\R=[]/\ ∀b,b=dQ s->ae (lV b,[])
def R7(o:aX):List P:=[P.d (D.sl 3 (List.map bH (aX.elems o)))]
def Z3N(g:ak)(k:Int)(n:Int):List (Nat×En):=[(0,En.mk 0 (some 0) (Obj.box (149:TypeId) [P.d (iz g),P.d (il g),q9 g,oD g,P.d (ke g),P.d (kc g),po g,P.d (D.int .i64 (k+n))]))]
def Z3M(k:Int)(n:Int):Bool:=decide (Z9<=k+n/\k+n<=Za)
def Z3O(k:Int)(n:Int)(ae:P×List (Nat×En)->Prop)(g:ak):Prop:=bif Z3M k n then ae (P.d Z3,Z3N g k n) else False
def Z3L(k:Int)(ae:P×List (Nat×En)->Prop)(g:ak):Prop:=bif decide (Z9<=k+(0:Int)/\k+(0:Int)<=Za) then ae (P.d Z3,[(0,En.mk 0 (some 0) (Obj.box (149:TypeId) [P.d (iz g),P.d (il g),q9 g,oD g,P.d (ke g),P.d (kc g),po g,P.d (D.int .i64 (k+(0:Int)))]))]) else False
def Z3K(o:aX)(g:ak)(k:Int):Bool:=wU o==kh g&&(wT o==kg g&&true)&&(wS o==k&&true)
def Z3J(o:aX):P:=P.d (D.agg [A1 o,A0 o,AZ o])
def Z3H(o:aX):P:=P.d (D.agg [vi o,vg o,vf o])
def Z3I(o:aX)(x:av):Prop:=[bT,Z3H o]=bT::jf x
def Z3G(aT:ak)(bW:Int):List (Nat×En):=[(0,En.mk 0 (some 0) (Obj.box (149:TypeId) [P.d (iz aT),P.d (il aT),q9 aT,oD aT,P.d (ke aT),P.d (kc aT),po aT,P.d (Zn bW)]))]
def Z3F(o:aX)(s:List UInt8):Prop:=[P.d (D.str (aX.name o))]=wu s
def Z3E(o:aX):P:=P.d (D.agg [Ah o,Ag o,Ae o])
def Z3D(o:aX)(g:ak)(k:Int):Bool:=Prod.fst (aX.node o)==kh g&&(Prod.fst (Prod.snd (aX.node o))==kg g&&true)&&(Prod.snd (Prod.snd (aX.node o))==k&&true)
theorem qgP(g:ak)(k:Int)(o:aX)(ae:P×List (Nat×En)->Prop):(∃(aP:aX),[P.d (A2 o)]=[P.d (A2 aP)]/\Zx/\ ∀(b:Bool),b=fD aP->bif ju b then JC ae g k else bif aX.kind o==(0:Int) then bif Z3D o g k then∃(aT:ak) (bW:Int) (x:av),[bT,Z3E o]=bT::jf x/\B7 g k aT bW/\ ∀(b:Bool),b=l8 (ak.s aT) bW x->bif b then∃(s:List UInt8),Z3F o s/\Zx/\ ∀(b:Bool),b=dQ s->bif Zj bW then ae (fI b,Z3G aT bW) else False else bif Zj bW then ae (P.d Z3,Z3G aT bW) else False else bif Zj k then ae (P.d Z3,Z3G g k) else False else bif aX.kind o==(1:Int) then∃(aT:ak) (bW:Int) (x:av),Z3I o x/\B7 g k aT bW/\ ∀(b:Bool),Aa b aT bW x->bif b then∃(g:ak) (k:Int) (x:av),[bT,Z3E o]=bT::jf x/\B7 aT bW g k/\ ∀(b:Bool),b=l8 (ak.s g) k x->bif b then∃(s:List UInt8),Z3F o s/\Zx/\ ∀(b:Bool),b=dQ s->ae (fI b,rQ g k) else JC ae g k else JC ae aT bW else bif aX.kind o==(2:Int) then∃(aT:ak) (bW:Int) (x:av),Z3I o x/\B7 g k aT bW/\ ∀(b:Bool),Aa b aT bW x->bif b then∃(g:ak) (k:Int) (l:List aw),[bT,P.d (lM o)]=[bT,lN l]/\B7 aT bW g k/\dR l<=Zy/\ ∀(b:Bool),b=nA (ak.s g) l->ae (fI b,rQ g k) else JC ae aT bW else bif aX.kind o==(3:Int) then∃(s:List UInt8),[P.d (D.str (aX.text o))]=wu s/\Zx/\HR s/\(RJ s-> ∃(aT:ak) (bW:Int) (x:av),Z3I o x/\B7 g k aT bW/\ ∀(b:Bool),Aa b aT bW x->bif b then∃(g:ak) (k:Int) (x:av),[bT,Z3J o]=bT::jf x/\B7 aT bW g k/\ ∀(b:Bool),b=l8 (ak.s g) k x->bif b then bif Z3K o g k then Z3L k ae g else Z3L k ae g else Z3L k ae g else Z3L bW ae aT)/\(RI s-> ∀(n:Int),n=AX s-> ∃(aT:ak) (bW:Int) (x:av),Z3I o x/\B7 g k aT bW/\ ∀(b:Bool),Aa b aT bW x->bif b then∃(g:ak) (k:Int) (x:av),[bT,Z3J o]=bT::jf x/\B7 aT bW g k/\ ∀(b:Bool),b=l8 (ak.s g) k x->bif b then bif Z3K o g k then bif Z0 n then bif Z3M k n then ae (P.d (D.bool (decide (n<=(2000:Int)))),Z3N g k n) else False else Z3O k n ae g else Z3O k n ae g else Z3O k n ae g else Z3O bW n ae aT) else bif aX.kind o==(4:Int) then∃(aT:ak) (bW:Int) (x:av),Z3I o x/\B7 g k aT bW/\ ∀(b:Bool),Aa b aT bW x->bif b then∃(g:ak) (k:Int) (l:List av),bT::R7 o=[bT,ma l]/\B7 aT bW g k/\iq l<=Zy/\ ∀(b:Bool),b=tY (ak.s g) k l->ae (fI b,rQ g k) else JC ae aT bW else JC ae g k)=(aJ [(109,JE),(113,sC),(111,DJ),(112,vn),(114,JM),(116,DO),(115,B6)] [] 83 [.ref 0 0 0,.d (eN o)] (wx g k)) ae:=by kernel_rfl
def SmO(o:aX):Prop:=o.text.length<=2000000/\o.cg.length<=9223372036854775807/\o.elems.length<=9223372036854775807
def kOk(k:Int):Prop:=0<=k/\k<=1000000000000
def qdq:bm:=λps R ae=> ∃g k o,ps=[.ref 0 0 0,.d (eN o)]/\R=wx g k/\(SmO o/\kOk k)/\(kJ g.s k o=none-> ∀k',ae (lV false,wx g k'))/\(∀n k',kJ g.s k o=some n->k'=k+n->ae (lV true,wx g k'))
def Pe(g:ak):Prop:=(∀o∈g.ops,SmO o)/\g.ops.length<=9223372036854775807/\g.deps.length<=1000000
def B8:bm:=λps R ae=> ∃v,ps=[vD v]/\R=[]/\v.length<=1000000/\ ∀b,b=dp v->ae (lV b,[])
def vo:bm:=λps R ae=> ∃v r,ps=[vD v,iD r]/\R=[]/\v.length<=1000000/\ ∀n,n=eB v r->ae (iD n,[])
def Z3S(g:ak):Bool:=decide (Z9<=ak.n g-(1:Int)/\ak.n g-(1:Int)<=Za)
def Z3R(g:ak)(v:List Int)(r:Int):Prop:=[oD g,P.d (il g)]=Zk v::Zv r
def wW(v:List Int):Prop:=List.length v<=1000000
theorem Yb(g:ak)(ae:P×List (Nat×En)->Prop):(∃(s:aw),JD g=mP s/\Zx/\ ∀(b:Bool),b=JA s->bif b then bif decide (ak.n g>=(1:Int)) then bif decide (ak.n g<=Z1) then∃(v:List Int),[oD g]=ZW v/\Zx/\wW v/\ ∀(b:Bool),b=dp v->bif b then∃(v:List Int) (r:Int),Z3R g v r/\Zx/\wW v/\ ∀(n:Int),n=eB v r->bif Z3S g then ae (P.d (D.bool (n==ak.n g-(1:Int))),[]) else False else Z4 ae else Z4 ae else Z4 ae else Z4 ae)=(aJ [(82,wR),(108,B8),(31,vo)] [] 81 [.d (aQ g)] []) ae:=by kernel_rfl
def JN:bm:=λps R ae=> ∃g,ps=[.d (aQ g)]/\R=[]/\Pe g/\ ∀b,b=V5 g->ae (lV b,[])
abbrev qjf(g:ak)(k:Int):List (Nat×En):=[(0,⟨0,none,ckB g k⟩)]
abbrev wcH(g:ak)(k i:Int):S:=⟨59,[(3,.ref 0 0 0),(48,qdl g.ops),(49,iD ((g.ops.map eN).length:Int)),(50,iD i)],qjf g k⟩
def wX(g:ak):Int:=(↑(List.length (List.map eN (ak.ops g))):Int)
def cN:Nat×P:=(3,bT)
def Z45:List (Nat×P):=[(2,P.d (D.int .i64 (80:Int)))]
def jO(g:ak)(i:Int):D:=D.nth (List.map eN (ak.ops g)) (Zg i)
def Yc(g:ak)(i:Int):D:=D.int .i64 (D.aj (D.ar (jO g i) 6))
def Yd(g:ak)(i:Int):D:=D.int .i64 (D.aj (D.ar (jO g i) 5))
def Ye(g:ak)(i:Int):D:=D.int .i64 (D.aj (D.ar (jO g i) 4))
def R8(g:ak)(i:Int):D:=D.int .i64 (D.aj (D.ar (jO g i) 3))
def R9(g:ak)(i:Int):D:=D.int .i64 (D.aj (D.ar (jO g i) 2))
def Sb(g:ak)(i:Int):D:=D.int .i64 (D.aj (D.ar (jO g i) 1))
def Z44(g:ak)(i:Int):P:=P.d (D.agg [D.int .i64 (D.aj (D.ar (jO g i) 0)),Sb g i,R9 g i,R8 g i,Ye g i,Yd g i,Yc g i,D.str (D.eO (D.ar (jO g i) 7)),D.bool (D.ff (D.ar (jO g i) 8)),D.sl 2 (D.dy (D.ar (jO g i) 9)),D.int .i64 (D.aj (D.ar (jO g i) 10)),D.int .i64 (D.aj (D.ar (jO g i) 11)),D.int .i64 (D.aj (D.ar (jO g i) 12)),D.int .i64 (D.aj (D.ar (jO g i) 13)),D.int .i64 (D.aj (D.ar (jO g i) 14)),D.int .i64 (D.aj (D.ar (jO g i) 15)),D.str (D.eO (D.ar (jO g i) 16)),D.sl 3 (D.dy (D.ar (jO g i) 17))])
noncomputable def Pf(g:ak)(i:Int):Bool:=cx PR (54:TypeId) (jO g i)
def Pg(i:Int)(g:ak):Bool:=decide ((0:Int)<=i/\i<wX g)
def Sc(i:Int)(g:ak):Bool:=decide (i<wX g)
theorem Sd(g:ak)(k i:Int)(ae:PX×S->Prop):(bif Sc i g then bif Pg i g then bif Pf g i then∃(aT:ak) (bW:Int) (o:aX),[bT,Z44 g i]=[bT,P.d (A2 o)]/\B7 g k aT bW/\(SmO o/\kOk bW)/\(kJ (ak.s aT) bW o=none-> ∀(_:Int),ae (PX.ret,S.mk 59 Z45 []))/\ ∀(n k':Int),kJ (ak.s aT) bW o=some n->k'=bW+n->bif Zj i then ae (PX.normal,S.mk 59 [cN,(48,po g),(49,P.d (D.int .i64 (wX g))),(50,P.d (Zn i))] [(0,En.mk 0 none (NL aT k'))]) else False else False else False else ae (PX.exit 1,S.mk 59 [] []))=(aD [(83,qdq)] [] 51 11 (wcH g k i)) ae:=by kernel_rfl
def qdr:S->K (PX×S):=λst ae=> ∃g,st=wcH g 0 0/\(Pe g/\g.ops.length<=200)/\(je g.s 0 g.ops=false->ae (.ret,⟨59,[(2,iD 80)],[]⟩))/\(je g.s 0 g.ops=true->ae (.exit 1,⟨59,[],[]⟩))
def DP(ae:P×List (Nat×En)->Prop):Prop:=ae (P.d (D.int .i64 (80:Int)),[])
def Z4f(wA:ak):Prop:=List.length (ak.ops wA)<=200
def Z4g(wA:ak)(ae:P×List (Nat×En)->Prop):Prop:=(Pe wA/\Z4f wA)/\(je (ak.s wA) (0:Int) (ak.ops wA)=false->DP ae)/\(je (ak.s wA) (0:Int) (ak.ops wA)=true->Z8 ae)
def Z4e(g:ak):S:=S.mk 59 [cN,(48,po g),(49,P.d (D.int .i64 (wX g))),(50,P.d Z7)] [(0,En.mk 0 none (Obj.box (149:TypeId) (P.d (iz g)::P.d (il g)::q9 g::oD g::P.d (ke g)::P.d (kc g)::po g::mr)))]
def Z4d(g:ak):Bool:=decide (wX g>(0:Int))
def Z4c(g:ak)(a:aw)(b:aw):Prop:=P.d (D.agg [ke g,kc g])::JD g=AY a b
def Z4b(g:ak)(s:aw):Prop:=[P.d (D.agg [ke g,kc g])]=mP s
def Z4a(g:ak):Bool:= !(Prod.fst (ak.bN g)==(0:Int)&&(Prod.snd (ak.bN g)==(0:Int)&&true))
def oE(g:ak):P:=P.d (D.agg [iz g,il g,D.int .i64 (ak.n g),D.sl 1 (a8 (ak.deps g)),ke g,kc g,D.sl 18 (List.map eN (ak.ops g))])
def EI(g:ak):List P:=[oE g]
theorem qgQ(g:ak)(ae:P×List (Nat×En)->Prop):(∃(aT:ak),EI g=EI aT/\Zx/\Pe aT/\ ∀(b:Bool),b=V5 aT->bif ju b then DP ae else bif Z4a g then∃(s:aw),Z4b g s/\Zx/\ ∀(b:Bool),b=JA s->bif ju b then DP ae else∃(a:aw) (b:aw),Z4c g a b/\Zx/\ ∀(c:Int),NJ a b c->bif Z2 c then DP ae else bif Z4d g then DP ae else Z8 ae else bif decide (wX g<(1:Int)) then DP ae else bif decide (wX g>(200:Int)) then DP ae else∃(wA:ak),Z4e g=Z4e wA/\Z4g wA ae)=(aJ [(81,JN),(82,wR),(66,zn)] [(11,ah (aL 51 11) qdr)] 51 [.d (aQ g)] []) ae:=by kernel_rfl
def GK:bm:=λps R ae=> ∃g,ps=[.d (aQ g)]/\R=[]/\Pe g/\ ∀e,e=(if cE g=true then 0 else 80)->ae (iD e,[])
section
variable{X:XF}
theorem Yf:FD X 114 JM:=FD.mk (H:=[]) (hk:=[(2,ah (aL 114 2) R5)]) (by kernel_rfl) .nil (.cons R6 .nil) (by
 intro ps R ae hh;obtain⟨g,k,l,rfl,rfl,hl,hp⟩:=hh
 (rw[<-qdp];delta Zt Zv po kc ke oD q9 kg il kh iz NL rQ dX A3 Z3 JC Zy dR Z7 Z3y lN JF bT e9 Z3z)
 refine⟨g,k,l,rfl,hl,λh=>hp _ ?_,λh=>hp _ ?_⟩
 ·rw[nA,h];rfl
 rw[nA,h,zaa,zaS,zbI];omega)
theorem Se:FD X 116 DO:=FD.mk (H:=[]) (hk:=[(2,ah (aL 116 2) JL)]) (by kernel_rfl) .nil (.cons NR .nil) (by
 intro ps R ae hh;obtain⟨g,k,l,rfl,rfl,hl,hp⟩:=hh
 (rw[<-Ya];delta Zt Zv po kc ke oD q9 kg il kh iz NL rQ gD qf wz Z3 JC Zy iq Z7 Z3y ma nN bT e9 Z3B)
 simp only[zaa];refine⟨g,k,l,by simp only[],hl,λh=>hp _ ?_,λh=>bk (λh2=>hp _ ?_) λh2=>hp _ ?_⟩
 ·rw[tY,h];rfl
 ·rw[tY,h,zaS,zbI];omega
 rw[tY,h,zaS];exact(zaN (by omega)).symm)
theorem Yg:FD X 112 vn:=qdb.weaken λps R ae h=>by obtain⟨s,rfl,rfl,hp⟩:=h;exact⟨s,rfl,rfl,hp _ rfl⟩
theorem Sf:FD X 138 vn:=DC.weaken λps R ae h=>by obtain⟨s,rfl,rfl,hp⟩:=h;exact⟨s,rfl,rfl,hp _ rfl⟩
theorem qds:FD X 108 B8:=qgw.weaken λps R ae h=>by obtain⟨s,rfl,rfl,hs,hp⟩:=h;exact⟨s,rfl,rfl,hs,hp _ rfl⟩
theorem qdt:FD X 105 B8:=qgx.weaken λps R ae h=>by obtain⟨s,rfl,rfl,hs,hp⟩:=h;exact⟨s,rfl,rfl,hs,hp _ rfl⟩
theorem qbx:FD X 31 vo:=qja.weaken λps R ae h=>by obtain⟨s,r,rfl,rfl,hs,hp⟩:=h;exact⟨s,r,rfl,rfl,by omega,hp _ rfl⟩
theorem JO:FD X 13 vo:=Gp.weaken λps R ae h=>by obtain⟨s,r,rfl,rfl,hs,hp⟩:=h;exact⟨s,r,rfl,rfl,by omega,hp _ rfl⟩
theorem Yh:FD X 81 JN:=FD.mk (H:=[(82,wR),(108,B8),(31,vo)]) (by kernel_rfl) (.cons RX (.cons qds (.cons qbx .nil))) .nil (by
 intro ps R ae hh;obtain⟨g,rfl,rfl,hs,hp⟩:=hh
 (rw[<-Yb];delta Z3 Z4 Za Z9 Z3S Zt Zv Zk kg il oD Z3R wW ZW Z1 Zx gV gW qe mP kh iz NM JD)
 have key: ∀b,b=(JA g.s&&(decide (g.n>=1)&&(decide (g.n<=1099511627776)&&(dp g.deps&&(eB g.deps g.s.2==g.n-1)))))->b=V5 g:=λb hb=>by
  rw[hb,V5];rw[zaH];simp only[zab,zai];constructor
  ·rintro⟨a,b,c,d,e⟩;exact⟨⟨⟨a,b,c⟩,d⟩,e⟩
  rintro⟨⟨⟨a,b,c⟩,d⟩,e⟩;exact⟨a,b,c,d,e⟩
 refine⟨g.s,rfl,rfl,λb hb=>az (λh1=>bk (λh2=>bk (λh3=>⟨g.deps,rfl,rfl,hs.2.2,λc hc=>az (λh4=>⟨g.deps,g.s.2,rfl,rfl,hs.2.2,λn hn=>bu (by omega) (hp _ (key _ ?_))⟩) λh4=>hp _ (key _ ?_)⟩) λh3=>hp _ (key _ ?_)) λh2=>hp _ (key _ ?_)) λh1=>hp _ (key _ ?_)⟩
 ·rw[<-hb,h1,zaP h2,zaP h3,<-hc,h4,<-hn];rfl
 ·rw[<-hb,h1,zaP h2,zaP h3,<-hc,h4];rfl
 ·rw[<-hb,h1,zaP h2,zaN h3];rfl
 ·rw[<-hb,h1,zaN h2];rfl
 rw[<-hb,h1];rfl)
theorem Sg{s:aw}{k n:Int}{o:aX}(h:kJ s k o=some n)(ho:o.text.length<=2000000):0<=n/\n<=2000000:=by
 have h1:=zl o.text;have h2:=DI o.text;unfold kJ at h
 (repeat' split at h)<;>simp at h<;>omega
theorem qgR:FD X 83 qdq:=FD.mk (H:=[(109,JE),(113,sC),(111,DJ),(112,vn),(114,JM),(116,DO),(115,B6)]) (by kernel_rfl)
  (.cons X8 (.cons DN (.cons RZ (.cons Yg (.cons Yf (.cons Se (.cons qdk .nil))))))) .nil (by
 intro ps R ae hh;obtain⟨g,k,o,rfl,rfl,⟨hs,hk⟩,h1,h2⟩:=hh;have fh:0<=k/\k<=1000000000000:=hk
 (rw[<-qgP];delta iq gD ma R7 po kc ke oD q9 kg il kh iz Z3N Z3 Za Z9 Z3M Z3O Z0 RI Z3L wS wT wU Z3K Ab AZ Ac A0 A1 Z3J RJ sx HR wu Zy dR dX lN lM Zt Zv NL rQ Aa gU gT im gJ gK ve jf vf vg vi Z3H bT Z3I Zn Z3G fI Zj Z3F B7 Ad Ae Af Ag Ah Z3E Z3D JC ju Zx RT wV A2)
 refine⟨o,rfl,rfl,λb hb=>az (λh0=>h1 ?_ k) λh0=> ?_⟩
 ·have:fD o=false:=by rw[<-hb];simpa using h0
  rw[kJ,zao this]
 have vp:fD o=true:=by rw[<-hb];simpa using h0
 have u:kJ g.s k o=_:=kJ.eq_1 g.s k o;rw[zal (by rw[vp];simp)] at u;refine ie (λe=> ?_) λe0=>ie (λe=> ?_) λe1=>ie (λe=> ?_) λe2=>ie (λe=> ?_) λe3=>ie (λe=> ?_) λe4=>h1 ?_ k
 ·rw[zao e] at u;rw[EH o.node (g.s.1,g.s.2,k)];refine az (λc1=>⟨g,k,o.parent,rfl,rfl,λb2 cm=>az (λc2=>⟨o.name,rfl,rfl,λb3 jt=>bu (by omega) ?_⟩) λc2=>bu (by omega) (h1 ?_ _)⟩) λc1=>bu (by omega) (h1 ?_ _)
  ·cases b3 with
   |true=>exact h2 1 _ (by rw[u,zao ⟨by simpa using c1,by rw[<-cm,c2],jt.symm⟩]) rfl
   |false=>exact h1 (by rw[u,zal (λh=>by rw[h.2.2] at jt;cases jt)]) _
  ·rw[u,zal (λh=>by rw[h.2.1] at cm;rw[cm] at c2;cases c2)]
  rw[u,zal (λh=>by rw[h.1] at c1;simp at c1)]
 ·rw[zal e0,zao e] at u;refine⟨g,k,o.node,rfl,rfl,λb2 cm=>az (λc2=>⟨g,k,o.parent,rfl,rfl,λb3 jt=>az (λc3=>⟨o.name,rfl,rfl,λb4 hb4=> ?_⟩) λc3=>h1 ?_ _⟩) λc2=>h1 ?_ _⟩
  ·cases b4 with
   |true=>exact h2 0 k (by rw[u,zao ⟨by rw[<-cm,c2],by rw[<-jt,c3],hb4.symm⟩]) (by omega)
   |false=>exact h1 (by rw[u,zal (λh=>by rw[h.2.2] at hb4;cases hb4)]) _
  ·rw[u,zal (λh=>by rw[h.2.1] at jt;rw[jt] at c3;cases c3)]
  rw[u,zal (λh=>by rw[h.1] at cm;rw[cm] at c2;cases c2)]
 ·rw[zal e0,zal e1,zao e] at u;refine⟨g,k,o.node,rfl,rfl,λb2 cm=>az (λc2=>⟨g,k,o.cg,rfl,rfl,hs.2.1,λb3 jt=> ?_⟩) λc2=>h1 ?_ _⟩
  ·cases b3 with
   |true=>exact h2 0 k (by rw[u,zao ⟨by rw[<-cm,c2],jt.symm⟩]) (by omega)
   |false=>exact h1 (by rw[u,zal (λh=>by rw[h.2] at jt;cases jt)]) _
  rw[u,zal (λh=>by rw[h.1] at cm;rw[cm] at c2;cases c2)]
 ·rw[zal e0,zal e1,zal e2,zao e] at u;have cc: ∀n,n=AX o.text->0<=n/\n<=2000000:=λn hn=>by have g1:=zl o.text;have g2:=DI o.text;have:=hs.1;omega
  refine⟨o.text,rfl,rfl,hs.1,λhv=> ?_,λhv n hn=> ?_⟩
  ·have hr:nB o.text=false:=by rw[nB,hv];rfl
   have bX:kJ g.s k o=none:=by rw[u,zal (λh=>by rw[h.2.2.2] at hr;cases hr)]
   refine⟨g,k,o.node,rfl,rfl,λb2 cm=>az (λc2=>⟨g,k,o.after,rfl,rfl,λb3 jt=>az (λc3=>az (λc4=>bu (by omega) (h1 bX _)) λc4=>bu (by omega) (h1 bX _)) λc3=>bu (by omega) (h1 bX _)⟩) λc2=>bu (by omega) (h1 bX _)⟩
  have:=cc n hn;have hr:nB o.text=decide (1<=n/\n<=2000):=by rw[nB,hv,zaS,hn]
  refine⟨g,k,o.node,rfl,rfl,λb2 cm=>az (λc2=>⟨g,k,o.after,rfl,rfl,λb3 jt=>az (λc3=> ?_) λc3=>bu (by omega) (h1 ?_ _)⟩) λc2=>bu (by omega) (h1 ?_ _)⟩
  ·rw[EH o.elem (g.s.1,g.s.2,k)];refine az (λc4=>bk (λc5=>bu (by omega) ?_) λc5=>bu (by omega) (h1 ?_ _)) λc4=>bu (by omega) (h1 ?_ _)
   ·by_cases c6:n<=2000
    ·rw[show decide (n<=2000)=true from zaP c6];exact h2 n _ (by rw[u,zao ⟨by rw[<-cm,c2],by rw[<-jt,c3],by simpa using c4,by rw[hr];exact zaP ⟨c5,c6⟩⟩,hn]) rfl
    rw[show decide (n<=2000)=false from zaN c6];exact h1 (by rw[u,zal (λh=>by rw[hr] at h;exact c6 (zbE h.2.2.2).2)]) _
   ·rw[u,zal (λh=>by rw[hr] at h;exact c5 (zbE h.2.2.2).1)]
   rw[u,zal (λh=>by rw[h.2.2.1] at c4;simp at c4)]
  ·rw[u,zal (λh=>by rw[h.2.1] at jt;rw[jt] at c3;cases c3)]
  rw[u,zal (λh=>by rw[h.1] at cm;rw[cm] at c2;cases c2)]
 ·rw[zal e0,zal e1,zal e2,zal e3,zao e] at u;refine⟨g,k,o.node,rfl,rfl,λb2 cm=>az (λc2=>⟨g,k,o.elems,rfl,rfl,hs.2.2,λb3 jt=> ?_⟩) λc2=>h1 ?_ _⟩
  ·cases b3 with
   |true=>exact h2 0 k (by rw[u,zao ⟨by rw[<-cm,c2],jt.symm⟩]) (by omega)
   |false=>exact h1 (by rw[u,zal (λh=>by rw[h.2] at jt;cases jt)]) _
  rw[u,zal (λh=>by rw[h.1] at cm;rw[cm] at c2;cases c2)]
 rw[u,zal e0,zal e1,zal e2,zal e3,zal e4])
theorem Yi:LD X 51 11 (ah (aL 51 11) qdr):=LD.idx (H:=[(83,qdq)]) (hk:=[]) (by kernel_rfl) (by kernel_rfl) (.cons qgR .nil) .nil
 (A:=ak) (B:=Int) (λg k i=>wcH g k i) (λg=>g.ops.length) (λg i k=>(Pe g/\g.ops.length<=200)/\(0<=k/\k<=2000000*i)/\je g.s 0 g.ops=je g.s k (g.ops.drop i))
 (λg x=>(je g.s 0 g.ops=false/\x=(.ret,⟨59,[(2,iD 80)],[]⟩))\/(je g.s 0 g.ops=true/\x=(.exit 1,⟨59,[],[]⟩)))
 (by
  rintro g k i ae h0 bR aY ⟨hs,hk,he⟩ hn ho
  (rw[<-Sd];delta Zt Zv po kc ke oD q9 kg il kh iz NL Zn wX bT cN Za Z9 Zj Z45 rQ B7 RT wS wT wU Ab AZ Ac A0 A1 lM Ad Ae Af Ag Ah vf vg vi wV A2 Zg jO Yc Yd Ye R8 R9 Sb Z44 Pf Pg Sc)
  have e1:D.nth (g.ops.map eN) i.toNat=eN g.ops[i.toNat]:=ay _ _ _ aY;rw[e1];simp only[wcH,zaa] at hn⊢;have hd:g.ops.drop i.toNat=g.ops[i.toNat]::g.ops.drop (i.toNat+1):=zaY aY;have Ph:=hs.1.1 _ (zas aY);have HP:=hs.2;rw[hd] at he;generalize g.ops[i.toNat]=o at he Ph;refine zo bR (bu ⟨h0,bR⟩ (aq (JJ _) ⟨g,k,o,rfl,rfl,⟨Ph,by unfold kOk;omega⟩,λh k'=>ho _ (λh=>by cases h) (.inl ⟨?_,rfl⟩),λn k' h mV=>bu (by omega) (hn k' ⟨hs,?_,?_⟩)⟩))
  ·rw[he,je,h]
  ·have:=Sg h Ph.1;omega
  rw[he,je,h,mV])
 (by
  rintro g k i ae hi ⟨hs,hk,he⟩ ho
  (rw[<-Sd];delta Zt Zv po kc ke oD q9 kg il kh iz NL Zn wX bT cN Za Z9 Zj Z45 rQ B7 RT wS wT wU Ab AZ Ac A0 A1 lM Ad Ae Af Ag Ah vf vg vi wV A2 Zg jO Yc Yd Ye R8 R9 Sb Z44 Pf Pg Sc)
  simp only[zaa];refine bk (λh=>by omega) λh=>ho _ (λh=>by cases h) (.inr ⟨?_,rfl⟩);rw[he,zcB];rfl)
 (by
  rintro s ae ⟨g,rfl,hs,h1,h2⟩;refine⟨g,0,rfl,⟨hs,by omega,rfl⟩,?_⟩;rintro x (⟨h,rfl⟩| ⟨h,rfl⟩)
  ·exact h1 h
  exact h2 h)
theorem qby:FD X 51 GK:=FD.mk (H:=[(81,JN),(82,wR),(66,zn)]) (hk:=[(11,ah (aL 51 11) qdr)]) (by kernel_rfl) (.cons Yh (.cons RX (.cons JK .nil))) (.cons Yi .nil) (by
 intro ps R ae hh;obtain⟨g,rfl,rfl,hs,hp⟩:=hh
 (rw[<-qgQ];delta Z7 Z8 DP Z4f Z4g mr kc ke oD q9 kg il kh iz wX po bT cN Z4e Z4d Z2 gV gW qe mP AY NM JD Z4c Z4b Z4a ju Zx oE EI)
 have bX:cE g=false->ae (.d (.int .i64 80),[]):=λh=>hp _ (by rw[h];rfl);have nK:cE g=true->ae (.d (.int .i64 0),[]):=λh=>hp _ (by rw[h];rfl);have u:=cE.eq_1 g;refine⟨g,rfl,rfl,hs,λb hb=>az (λc1=>bX ?_) λc1=> ?_⟩
 ·rw[u,<-hb,show b=false by simpa using c1];rfl
 rw[<-hb,show b=true by simpa using c1,zaS] at u;rw[DM g.bN (0,0)];simp only[zaa];refine az (λc2=>⟨g.bN,rfl,rfl,λb2 cm=>az (λc3=>bX ?_) λc3=>⟨g.bN,g.s,rfl,rfl,λc hc=>bk (λc4=>bX ?_) λc4=>bk (λc5=>bX ?_) λc5=>nK ?_⟩⟩) λc2=>bk (λc3=>bX ?_) λc3=>bk (λc4=>bX ?_) λc4=>⟨g,by simp only[],⟨hs,by omega⟩,λh=>bX ?_,λh=>nK ?_⟩
 ·rw[zao (by simpa using c2),<-cm,show b2=false by simpa using c3] at u;rw[u];rfl
 ·have e4:l7 g.bN g.s=false:=by rw[<-zaX,<-hc.lt];omega
  rw[zao (by simpa using c2),e4] at u;rw[u];simp
 ·rw[zao (by simpa using c2)] at u;rw[u,show(g.ops.length==0)=false by rw[zcN];omega];simp
 ·have e4:l7 g.bN g.s=true:=by rw[<-hc.lt];omega
  rw[zao (by simpa using c2),<-cm,show b2=true by simpa using c3,e4,show(g.ops.length==0)=true by rw[zaT];omega] at u;rw[u];rfl
 ·rw[zal (by simpa using c2),zaN (by omega)] at u;rw[u];rfl
 ·rw[zal (by simpa using c2),zaN (by omega)] at u;rw[u];rfl
 ·rw[zal (by simpa using c2),h] at u;rw[u];simp
 rw[zal (by simpa using c2),h,zaP (by omega)] at u;rw[u];rfl)
end
abbrev gbB(g:ak):Obj:= .box 34 [iD g.s.1,iD g.s.2,iD g.n,.d (.sl 1 (a8 g.deps)),iD g.bN.1,iD g.bN.2,qdl g.ops]
abbrev gbR(g:ak):List (Nat×En):=[(0,⟨0,none,gbB g⟩)]
def oF:bm:=λps R ae=> ∃g k x,ps=[.d (aQ g),.d (bH x),iD k]/\R=[]/\ ∀b,b=db g.s k x->ae (lV b,[])
def Sh:bm:=λps R ae=> ∃g k x,ps=[.d (aQ g),.d (bH x),iD k]/\R=[]/\ ∀b,b=l8 g.s k x->ae (lV b,[])
def JP:bm:=λps R ae=> ∃o a b c d e,ps=[.d (eN o),lV a,lV b,lV c,lV d,lV e]/\R=[]/\ ∀r,r=ky o a b c d e->ae (lV r,[])
theorem Si(g:ak)(k:Int)(x:av)(ae:P×List (Nat×En)->Prop):(∃(aK:av),jf x=jf aK/\Zx/\ ∀(b:Bool),b=rgX aK->bif ju b then Z4 ae else∃(a:aw) (b:aw),P.d (D.agg [gK x,gJ x])::JD g=AY a b/\Zx/\ ∀(r:Bool),r=l7 a b->bif r then ZP ae else bif Z2w x g then ae (P.d (D.bool (decide (gU x<k))),[]) else Z4 ae)=(aJ [(151,NK),(14,nC)] [] 140 [.d (aQ g),.d (bH x),iD k] []) ae:=by kernel_rfl
def Pj(g:ak)(x:av)(k:Int):List P:=oE g::ve x::Zv k
theorem qdu(g:ak)(k:Int)(x:av)(ae:P×List (Nat×En)->Prop):(bif Z2y x then ZP ae else∃(aT:ak) (bW:Int) (aK:av),Pj g x k=Pj aT aK bW/\Zx/\ ∀(b:Bool),Aa b aT bW aK->ae (fI b,[]))=(aJ [(140,oF)] [] 137 [.d (aQ g),.d (bH x),iD k] []) ae:=by kernel_rfl
def Z4i(d:Bool)(e:Bool)(ae:P×List (Nat×En)->Prop)(o:aX):Prop:=bif d then bif e then ZP ae else ae (P.d (D.bool (Z32 o==(0:Int))),[]) else bif Prod.fst (aX.after o)==(0:Int)&&(Ac o==(0:Int)&&true)&&(Ab o==(0:Int)&&true) then bif wU o==(0:Int)&&(wT o==(0:Int)&&true)&&(wS o==(0:Int)&&true) then bif aX.text o==[] then bif e then ZP ae else ae (P.d (D.bool (Z32 o==(0:Int))),[]) else Z4 ae else Z4 ae else Z4 ae
def Z4j(c:Bool)(o:aX)(ae:P×List (Nat×En)->Prop)(d:Bool)(e:Bool):Prop:=bif ju c then bif decide (nM o>(0:Int)) then Z4 ae else Z4i d e ae o else Z4i d e ae o
theorem Yj(o:aX)(a b c d e:Bool)(ae:P×List (Nat×En)->Prop):(bif ju a then bif !(Prod.fst (aX.parent o)==(0:Int)&&(Af o==(0:Int)&&true)&&(Ad o==(0:Int)&&true)) then Z4 ae else bif !aX.name o==[] then Z4 ae else bif ju b then bif aX.dir o then Z4 ae else Z4j c o ae d e else Z4j c o ae d e else bif ju b then bif aX.dir o then Z4 ae else Z4j c o ae d e else Z4j c o ae d e)=(aJ [] [] 139 [.d (eN o),lV a,lV b,lV c,lV d,lV e] []) ae:=by kernel_rfl
abbrev qdv(g:ak)(l:List aw)(i:Int):S:=⟨47,[(1,gh l),(2,.ref 0 0 0),(5,iD i)],gbR g⟩
def lO(g:ak):En:=En.mk 0 none (Obj.box (34:TypeId) [P.d (iz g),P.d (il g),q9 g,oD g,P.d (ke g),P.d (kc g),po g])
def GL(g:ak):List (Nat×En):=[(0,lO g)]
def JQ:Nat×P:=(2,bT)
def Z4o(i:Int)(ae:PX×S->Prop)(l:List aw)(g:ak):Prop:=bif Zj i then ae (PX.normal,S.mk 47 (JF l::JQ::Zo i) (GL g)) else False
def Z4k(ae:PX×S->Prop)(l:List aw):Prop:=ae (PX.ret,S.mk 47 (JF l::Zi) [])
theorem GM(g:ak)(l:List aw)(i:Int)(ae:PX×S->Prop):(bif Pc i l then bif Lw i l then bif uD l i then∃(s:aw),[P.d (D.agg (A4 l i))]=mP s/\Zx/\ ∀(b:Bool),b=JA s->bif ju b then Z4k ae l else bif Lw i l then bif uD l i then∃(a:aw) (b:aw),[NM g,P.d (D.agg (A4 l i))]=AY a b/\Zx/\ ∀(r:Bool),r=l7 a b->bif r then Z4k ae l else bif Zr i then bif Zb i then bif decide ((0:Int)<=i-(1:Int)/\i-(1:Int)<A3 l) then bif X7 l i then bif Lw i l then bif uD l i then∃(a:aw) (b:aw),[P.d (D.agg (X6 l i)),P.d (D.agg (A4 l i))]=AY a b/\Zx/\ ∀(r:Bool),r=l7 a b->bif ju r then Z4k ae l else Z4o i ae l g else False else False else False else False else False else Z4o i ae l g else False else False else False else False else ae (PX.exit 0,S.mk 47 [JF l] []))=(aD [(104,wR),(14,nC)] [] 141 2 (qdv g l i)) ae:=by kernel_rfl
abbrev qdw(g:ak)(k:Int)(l:List av)(i:Int):S:=⟨47,[(1,cX l),(2,iD k),(3,.ref 0 0 0),(7,iD i)],gbR g⟩
def Z4q(i:Int)(ae:PX×S->Prop)(l:List av)(k:Int)(g:ak):Prop:=bif Zj i then ae (PX.normal,S.mk 47 (nN l::ZG k::cN::ZL i) (GL g)) else False
def Z4p:List (Nat×P):=[(6,P.d Z3)]
theorem B9(g:ak)(k:Int)(l:List av)(i:Int)(ae:PX×S->Prop):(bif decide (i<wz l) then bif NP i l then bif xv l i then∃(aT:ak) (bW:Int) (x:av),oE g::P.d (D.agg (NN l i))::Zv k=Pj aT x bW/\Zx/\ ∀(b:Bool),Aa b aT bW x->bif ju b then ae (PX.ret,S.mk 47 (nN l::Z4p) []) else bif Zr i then bif Zb i then bif decide ((0:Int)<=i-(1:Int)/\i-(1:Int)<wz l) then bif Pd l i then bif NP i l then bif xv l i then∃(x:av) (y:av),Z3w l i x y/\Zx/\ ∀(c:Int),Lv x y c->bif Z2 c then ae (PX.ret,S.mk 47 (nN l::Z4p) []) else Z4q i ae l k g else False else False else False else False else False else Z4q i ae l k g else False else False else ae (PX.exit 0,S.mk 47 [nN l] []))=(aD [(140,oF),(88,qM)] [] 143 2 (qdw g k l i)) ae:=by kernel_rfl
section
variable{X:XF}
theorem zp:FD X 140 oF:=FD.mk (H:=[(151,NK),(14,nC)]) (by kernel_rfl) (.cons qdo (.cons vj .nil)) .nil (by
 intro ps R ae hh;obtain⟨g,k,x,rfl,rfl,hp⟩:=hh
 (rw[<-Si];delta gU kg im kh Z2w ZO ZP gV gW qe mP AY il iz NM JD gJ gK Z3 Z4 ju Zx gT ve jf)
 refine⟨x,rfl,rfl,λb hb=>az (λh1=>hp _ ?_) λh1=>⟨GB x,g.s,rfl,rfl,λc hc=>az (λh2=>hp _ ?_) λh2=>az (λh3=>hp _ ?_) λh3=>hp _ ?_⟩⟩
 ·rw[db,<-hb,show b=false by simpa using h1];rfl
 ·rw[db,<-hb,show b=true by simpa using h1,<-hc,h2];rfl
 ·have e:(GB x==g.s)=true:=by rw[<-DM (GB x) g.s];exact h3
  rw[db,<-hb,show b=true by simpa using h1,<-hc,h2,e];simp
 have e:(GB x==g.s)=false:=by rw[<-DM (GB x) g.s];exact h3
 rw[db,<-hb,show b=true by simpa using h1,<-hc,h2,e];rfl)
theorem qdx:FD X 137 Sh:=FD.mk (H:=[(140,oF)]) (by kernel_rfl) (.cons zp .nil) .nil (by
 intro ps R ae hh;obtain⟨g,k,x,rfl,rfl,hp⟩:=hh
 (rw[<-qdu];delta fI Aa Zx Zt Zv gU gT im gJ gK ve kc ke kg il kh iz oE Pj ZO ZP Z2y)
 refine az (λh1=>hp _ ?_) λh1=>⟨g,k,x,rfl,rfl,λb hb=>hp _ ?_⟩
 ·rw[l8,<-EH x aB,h1];rfl
 rw[l8,<-EH x aB,h1,hb];rfl)
theorem Yk:FD X 139 JP:=FD.mk (H:=[]) (by kernel_rfl) .nil .nil (by
 intro ps R ae hh;obtain⟨o,a,b,c,d,e,rfl,rfl,hp⟩:=hh
 (rw[<-Yj];delta Z3 Z4 wS wT wU Ab Ac Z32 ZO ZP Z4i nM ju Z4j Ad Af)
 rw[show(o.parent.1==0&&(o.parent.2.1==0&&true)&&(o.parent.2.2==0&&true))=(o.parent==aB) from EH o.parent aB,show(o.after.1==0&&(o.after.2.1==0&&true)&&(o.after.2.2==0&&true))=(o.after==aB) from EH o.after aB,
  show(o.elem.1==0&&(o.elem.2.1==0&&true)&&(o.elem.2.2==0&&true))=(o.elem==aB) from EH o.elem aB]
 have e1:decide (((o.cg.map bh).length:Int)>0)= !(o.cg.length==0):=by
  rw[zaa];cases o.cg with
  |nil=>rfl
  |cons x t=>rw[zaP (by simp)];rfl
 have e2:(((o.elems.map bH).length:Int)==0)=(o.elems.length==0):=by rw[zaa];exact lnE _ 0
 rw[e1,e2];unfold ky at hp;generalize (o.parent==aB)=P1 at*
 generalize (o.after==aB)=P2 at*
 generalize (o.elem==aB)=P3 at*
 generalize (o.cg.length==0)=P4 at*
 generalize (o.elems.length==0)=P5 at*
 generalize (o.name==[])=P6 at*
 generalize (o.text==[])=P7 at*
 generalize o.dir=P8 at*
 cases a<;>cases b<;>cases c<;>cases d<;>cases e
 all_goals (simp only[zdb,Bool.not_false,zbT,zbn,zce,zbo,zaS,zbu] at hp⊢)
 all_goals (repeat' (first | (refine az (λh=> ?_) (λh=> ?_))))
 all_goals (refine hp _ ?_;simp_all))
def JR:S->K (PX×S):=λst ae=> ∃g l,st=qdv g l 0/\l.length<=9223372036854775807/\(lL l.length (l9 g.s l)=false->ae (.ret,⟨47,[(1,gh l),(4,lV false)],[]⟩))/\(lL l.length (l9 g.s l)=true->ae (.exit 0,⟨47,[(1,gh l)],[]⟩))
theorem NS:LD X 141 2 (ah (aL 141 2) JR):=LD.find (H:=[(104,wR),(14,nC)]) (hk:=[]) (by kernel_rfl) (by kernel_rfl) (.cons RY (.cons vj .nil)) .nil
 (A:=ak×List aw) (λa k=>qdv a.1 a.2 k) (λa=>a.2) (λa j _=> !l9 a.1.s a.2 j) (λa=>a.2.length<=9223372036854775807)
 (λa _=>(.ret,⟨47,[(1,gh a.2),(4,lV false)],[]⟩)) (λa=>(.exit 0,⟨47,[(1,gh a.2)],[]⟩)) (λ_ _ h=>by cases h) (λ_ h=>by cases h)
 (by
  rintro⟨g,l⟩ i ae hi hC h0 bR ht hn;dsimp only at*
  (rw[<-GM];delta dX lN JF po kc ke oD q9 kg il kh iz lO GL Zn Zo bT JQ Za Z9 Zj Z4o Zc X6 X7 A3 Zb Zr gV gW qe mP AY NM Z3 Zi Z4k ju Zx Zg GH EG A4 uD Lw Pc)
  have e1:D.nth (l.map bh) i.toNat=bh l[i.toNat]:=ay _ _ _ hi;have d1:=eb hi ((0,0):aw);rw[e1];simp only[zaa];refine zo bR (bu ⟨h0,bR⟩ (aq (jI _) ⟨l[i.toNat],rfl,rfl,λb hb=>az (λh1=> ?_) λh1=>bu ⟨h0,bR⟩ (aq (jI _) ⟨g.s,l[i.toNat],rfl,rfl,λc hc=>az (λh2=> ?_) λh2=>bk (λh3=> ?_) λh3=> ?_⟩)⟩))
  ·refine ht ?_;rw[l9,d1,<-hb,show b=false by simpa using h1];rfl
  ·refine ht ?_;rw[l9,d1,<-hc,h2];simp
  ·have e2:D.nth (l.map bh) (i-1).toNat=bh (l[(i-1).toNat]'(by omega)):=ay _ _ _ (by omega);have d2:=eb (show(i-1).toNat<l.length by omega) ((0,0):aw);rw[e2];refine bu (by omega) (bu ⟨by omega,by omega⟩ (aq (jI _) (bu ⟨h0,bR⟩ (aq (jI _) ⟨l[(i-1).toNat],l[i.toNat],rfl,rfl,λc' rJ=>az (λh4=>ht ?_) λh4=>bu (by omega) (hn ?_)⟩))))
   ·rw[l9,d1,show i.toNat-1=(i-1).toNat by omega,d2,<-rJ,show c'=false by simpa using h4,show(i.toNat==0)=false by simp;omega];simp
   rw[l9,d1,show i.toNat-1=(i-1).toNat by omega,d2,<-hc,h2,<-rJ,show c'=true by simpa using h4,<-hb,show b=true by simpa using h1];simp
  refine bu (by omega) (hn ?_);rw[l9,d1,<-hc,h2,<-hb,show b=true by simpa using h1,show(i.toNat==0)=true by simp;omega];simp)
 (by
  rintro⟨g,l⟩ i ae hC hi hp;dsimp only at*
  (rw[<-GM];delta dX lN JF po kc ke oD q9 kg il kh iz lO GL Zn Zo bT JQ Za Z9 Zj Z4o Zc X6 X7 A3 Zb Zr gV gW qe mP AY NM Z3 Zi Z4k ju Zx Zg GH EG A4 uD Lw Pc)
  simp only[zaa];exact bk (λh=>by omega) λh=>hp)
 (by rintro s ae ⟨g,l,rfl,hl,h1,h2⟩;refine⟨(g,l),rfl,hl,λi hi h0 ht _=>h1 (DH (i:=i.toNat) hi (by simpa using ht)),λh=>h2 (vb λi hi=>by simpa using h i hi)⟩)
def DQ:S->K (PX×S):=λst ae=> ∃g k l,st=qdw g k l 0/\l.length<=9223372036854775807/\(lL l.length (B5 g.s k l)=false->ae (.ret,⟨47,[(1,cX l),(6,lV false)],[]⟩))/\(lL l.length (B5 g.s k l)=true->ae (.exit 0,⟨47,[(1,cX l)],[]⟩))
theorem JS:LD X 143 2 (ah (aL 143 2) DQ):=LD.find (H:=[(140,oF),(88,qM)]) (hk:=[]) (by kernel_rfl) (by kernel_rfl) (.cons zp (.cons NQ .nil)) .nil
 (A:=ak×Int×List av) (λa k=>qdw a.1 a.2.1 a.2.2 k) (λa=>a.2.2) (λa j _=> !B5 a.1.s a.2.1 a.2.2 j) (λa=>a.2.2.length<=9223372036854775807)
 (λa _=>(.ret,⟨47,[(1,cX a.2.2),(6,lV false)],[]⟩)) (λa=>(.exit 0,⟨47,[(1,cX a.2.2)],[]⟩)) (λ_ _ h=>by cases h) (λ_ h=>by cases h)
 (by
  rintro⟨g,k,l⟩ i ae hi hC h0 bR ht hn;dsimp only at*
  (rw[<-B9];delta po kc ke oD q9 kg il kh iz lO GL Zn ZL bT cN Zt ZG gD ma nN Za Z9 Zj Z4q Z2 gU gT im gJ gK ve jf Zg JG JH JI NN Zc V7 Z3w Pd Zb Zr Z3 Z4p ju Aa Zx Zv oE Pj xv qf wz NP)
  have e1:D.nth (l.map bH) i.toNat=bH l[i.toNat]:=ay _ _ _ hi;have d1:=eb hi aB;rw[e1];simp only[zaa];refine zo bR (bu ⟨h0,bR⟩ (aq (l6 _) ⟨g,k,l[i.toNat],rfl,rfl,λb hb=>az (λh1=> ?_) λh1=>bk (λh3=> ?_) λh3=> ?_⟩))
  ·refine ht ?_;rw[B5,d1,<-hb,show b=false by simpa using h1];rfl
  ·have e2:D.nth (l.map bH) (i-1).toNat=bH (l[(i-1).toNat]'(by omega)):=ay _ _ _ (by omega);have d2:=eb (show(i-1).toNat<l.length by omega) aB;rw[e2];refine bu (by omega) (bu ⟨by omega,by omega⟩ (aq (l6 _) (bu ⟨h0,bR⟩ (aq (l6 _) ⟨l[(i-1).toNat],l[i.toNat],rfl,rfl,λc' rJ=>bk (λh4=>ht ?_) λh4=>bu (by omega) (hn ?_)⟩))))
   ·have e4:mO l[(i-1).toNat] l[i.toNat]=false:=by rw[<-zaX,<-rJ.lt];omega
    rw[B5,d1,show i.toNat-1=(i-1).toNat by omega,d2,e4,show(i.toNat==0)=false by simp;omega];simp
   have e4:mO l[(i-1).toNat] l[i.toNat]=true:=by rw[<-rJ.lt];omega
   rw[B5,d1,show i.toNat-1=(i-1).toNat by omega,d2,e4,<-hb,show b=true by simpa using h1];simp
  refine bu (by omega) (hn ?_);rw[B5,d1,<-hb,show b=true by simpa using h1,show(i.toNat==0)=true by simp;omega];simp)
 (by
  rintro⟨g,k,l⟩ i ae hC hi hp;dsimp only at*
  (rw[<-B9];delta po kc ke oD q9 kg il kh iz lO GL Zn ZL bT cN Zt ZG gD ma nN Za Z9 Zj Z4q Z2 gU gT im gJ gK ve jf Zg JG JH JI NN Zc V7 Z3w Pd Zb Zr Z3 Z4p ju Aa Zx Zv oE Pj xv qf wz NP)
  simp only[zaa];exact bk (λh=>by omega) λh=>hp)
 (by rintro s ae ⟨g,k,l,rfl,hl,h1,h2⟩;refine⟨(g,k,l),rfl,hl,λi hi h0 ht _=>h1 (DH (i:=i.toNat) hi (by simpa using ht)),λh=>h2 (vb λi hi=>by simpa using h i hi)⟩)
end
theorem Yl(g:ak)(l:List aw)(ae:P×List (Nat×En)->Prop):(∃(aT:ak) (au:List aw),S.mk 47 (JF l::JQ::ZN) (GL g)=S.mk 47 (JF au::JQ::ZN) (GL aT)/\dR au<=Zy/\(lL (dR au) (l9 (ak.s aT) au)=false->Z4 ae)/\(lL (dR au) (l9 (ak.s aT) au)=true->ae (P.d (D.bool (decide (A3 au<=(200:Int)))),[])))=(aJ [] [(2,ah (aL 141 2) JR)] 141 [.d (aQ g),gh l] []) ae:=by kernel_rfl
theorem Sj(g:ak)(k:Int)(l:List av)(ae:P×List (Nat×En)->Prop):(∃(aT:ak) (bW:Int) (au:List av),S.mk 47 (nN l::ZG k::cN::sw) (GL g)=S.mk 47 (nN au::ZG bW::cN::sw) (GL aT)/\iq au<=Zy/\(lL (iq au) (B5 (ak.s aT) bW au)=false->Z4 ae)/\(lL (iq au) (B5 (ak.s aT) bW au)=true->bif decide (wz au>=(1:Int)) then ae (P.d (D.bool (decide (wz au<=(2000:Int)))),[]) else Z4 ae))=(aJ [] [(2,ah (aL 143 2) DQ)] 143 [.d (aQ g),cX l,iD k] []) ae:=by kernel_rfl
def JT:bm:=λps R ae=> ∃g l,ps=[.d (aQ g),gh l]/\R=[]/\l.length<=9223372036854775807/\ ∀b,b=nA g.s l->ae (lV b,[])
def DR:bm:=λps R ae=> ∃g k l,ps=[.d (aQ g),cX l,iD k]/\R=[]/\l.length<=9223372036854775807/\ ∀b,b=tY g.s k l->ae (lV b,[])
def Z4s(g:ak)(o:aX)(k:Int)(aT:ak)(x:av)(bW:Int):Prop:=oE g::Z3H o::Zv k=Pj aT x bW
def Z4r(aP:aX)(a:Bool)(b:Bool)(c:Bool)(d:Bool)(e:Bool):List P:=[P.d (A2 aP),fI a,fI b,fI c,fI d,fI e]
theorem qgS(g:ak)(k:Int)(o:aX)(ae:P×List (Nat×En)->Prop):(bif aX.kind o==(0:Int) then bif Z3D o g k then∃(aT:ak) (bW:Int) (x:av),oE g::Z3E o::Zv k=Pj aT x bW/\Zx/\ ∀(b:Bool),b=l8 (ak.s aT) bW x->bif b then∃(s:List UInt8),Z3F o s/\Zx/\ ∀(b:Bool),b=dQ s->bif b then∃(aP:aX) (a:Bool) (b:Bool) (c:Bool) (d:Bool) (e:Bool),P.d (A2 o)::ZO::ZO::P.d Z3::P.d Z3::V3=Z4r aP a b c d e/\Zx/\ ∀(r:Bool),r=ky aP a b c d e->bif r then Z22 ae else pk ae else pk ae else pk ae else pk ae else bif aX.kind o==(1:Int) then∃(aT:ak) (bW:Int) (x:av),Z4s g o k aT x bW/\Zx/\ ∀(b:Bool),Aa b aT bW x->bif b then∃(wA:ak) (Sk:Int) (x:av),oE g::Z3E o::Zv k=Pj wA x Sk/\Zx/\ ∀(b:Bool),b=l8 (ak.s wA) Sk x->bif b then∃(s:List UInt8),Z3F o s/\Zx/\ ∀(b:Bool),b=dQ s->bif b then∃(aP:aX) (a:Bool) (b:Bool) (c:Bool) (d:Bool) (e:Bool),P.d (A2 o)::ZO::P.d Z3::P.d Z3::P.d Z3::V3=Z4r aP a b c d e/\Zx/\ ∀(r:Bool),r=ky aP a b c d e->bif r then Z8 ae else pk ae else pk ae else pk ae else pk ae else bif aX.kind o==(2:Int) then∃(aT:ak) (bW:Int) (x:av),Z4s g o k aT x bW/\Zx/\ ∀(b:Bool),Aa b aT bW x->bif b then∃(wA:ak) (l:List aw),[oE g,P.d (lM o)]=[oE wA,lN l]/\Zx/\dR l<=Zy/\ ∀(b:Bool),b=nA (ak.s wA) l->bif b then∃(aP:aX) (a:Bool) (b:Bool) (c:Bool) (d:Bool) (e:Bool),P.d (A2 o)::P.d Z3::P.d Z3::ZO::P.d Z3::V3=Z4r aP a b c d e/\Zx/\ ∀(r:Bool),r=ky aP a b c d e->bif r then Z8 ae else pk ae else pk ae else pk ae else bif aX.kind o==(3:Int) then∃(s:List UInt8),[P.d (D.str (aX.text o))]=wu s/\Zx/\HR s/\(RJ s-> ∃(aT:ak) (bW:Int) (x:av),Z4s g o k aT x bW/\Zx/\ ∀(b:Bool),Aa b aT bW x->bif b then∃(wA:ak) (Sk:Int) (x:av),oE g::Z3J o::Zv k=Pj wA x Sk/\Zx/\ ∀(b:Bool),b=l8 (ak.s wA) Sk x->bif b then bif Z3K o g k then pk ae else pk ae else pk ae else pk ae)/\(RI s-> ∀(n:Int),n=AX s-> ∃(aT:ak) (bW:Int) (x:av),Z4s g o k aT x bW/\Zx/\ ∀(b:Bool),Aa b aT bW x->bif b then∃(wA:ak) (Sk:Int) (x:av),oE g::Z3J o::Zv k=Pj wA x Sk/\Zx/\ ∀(b:Bool),b=l8 (ak.s wA) Sk x->bif b then bif Z3K o g k then bif Z0 n then bif decide (n<=(2000:Int)) then∃(aP:aX) (a:Bool) (b:Bool) (c:Bool) (d:Bool) (e:Bool),P.d (A2 o)::P.d Z3::P.d Z3::P.d Z3::ZO::V3=Z4r aP a b c d e/\Zx/\ ∀(r:Bool),r=ky aP a b c d e->bif r then ae (P.d (Zt n),[]) else pk ae else pk ae else pk ae else pk ae else pk ae else pk ae) else bif aX.kind o==(4:Int) then∃(aT:ak) (bW:Int) (x:av),Z4s g o k aT x bW/\Zx/\ ∀(b:Bool),Aa b aT bW x->bif b then∃(wA:ak) (Sk:Int) (l:List av),oE g::P.d (D.sl 3 (List.map bH (aX.elems o)))::Zv k=oE wA::ma l::Zv Sk/\Zx/\iq l<=Zy/\ ∀(b:Bool),b=tY (ak.s wA) Sk l->bif b then∃(aP:aX) (a:Bool) (b:Bool) (c:Bool) (d:Bool) (e:Bool),P.d (A2 o)::P.d Z3::P.d Z3::P.d Z3::P.d Z3::Pa=Z4r aP a b c d e/\Zx/\ ∀(r:Bool),r=ky aP a b c d e->bif r then Z8 ae else pk ae else pk ae else pk ae else pk ae)=(aJ [(139,JP),(140,oF),(137,Sh),(138,vn),(141,JT),(143,DR),(142,B6)] [] 106 [.d (aQ g),.d (eN o),iD k] []) ae:=by kernel_rfl
def qdy:bm:=λps R ae=> ∃g k o,ps=[.d (aQ g),.d (eN o),iD k]/\R=[]/\SmO o/\(kJ g.s k o=none->ae (iD (-1),[]))/\(∀n,kJ g.s k o=some n->ae (iD n,[]))
abbrev qdz(g:ak)(k i:Int):S:=⟨90,[(1,.ref 0 0 0),(3,iD k),(4,iD i)],gbR g⟩
def ua(i:Int):List (Nat×P):=[(4,P.d (Zn i))]
theorem Sl(g:ak)(k i:Int)(ae:PX×S->Prop):(bif Sc i g then bif Pg i g then bif Pf g i then∃(aT:ak) (bW:Int) (o:aX),oE g::Z44 g i::Zv k=oE aT::P.d (A2 o)::Zv bW/\Zx/\SmO o/\(kJ (ak.s aT) bW o=none->ae (PX.ret,S.mk 90 Z45 []))/\ ∀(n:Int),kJ (ak.s aT) bW o=some n->bif NB n then ae (PX.ret,S.mk 90 Z45 []) else bif Z3M k n then bif Zj i then ae (PX.normal,S.mk 90 ((1,bT)::(3,P.d (D.int .i64 (k+n)))::ua i) (GL g)) else False else False else False else False else ae (PX.exit 0,S.mk 90 [] []))=(aD [(106,qdy)] [] 72 11 (qdz g k i)) ae:=by kernel_rfl
def qdA:S->K (PX×S):=λst ae=> ∃g,st=qdz g 0 0/\(Pe g/\g.ops.length<=200)/\(je g.s 0 g.ops=false->ae (.ret,⟨90,[(2,iD 80)],[]⟩))/\(je g.s 0 g.ops=true->ae (.exit 0,⟨90,[],[]⟩))
def JU:List (Nat×P):=[(4,P.d Z7)]
def Z4v(g:ak):S:=S.mk 90 ((1,bT)::(3,P.d Z7)::JU) (GL g)
theorem qgT(g:ak)(ae:P×List (Nat×En)->Prop):(∃(s:aw),JD g=mP s/\Zx/\ ∀(b:Bool),b=JA s->bif ju b then DP ae else bif decide (ak.n g<(1:Int)) then DP ae else bif decide (ak.n g>Z1) then DP ae else∃(v:List Int),[oD g]=ZW v/\Zx/\wW v/\ ∀(b:Bool),b=dp v->bif ju b then DP ae else∃(v:List Int) (r:Int),Z3R g v r/\Zx/\wW v/\ ∀(n:Int),n=eB v r->bif Z3S g then bif n !=ak.n g-(1:Int) then DP ae else bif Z4a g then∃(s:aw),Z4b g s/\Zx/\ ∀(b:Bool),b=JA s->bif ju b then DP ae else∃(a:aw) (b:aw),Z4c g a b/\Zx/\ ∀(r:Bool),r=l7 a b->bif ju r then DP ae else bif Z4d g then DP ae else Z8 ae else bif decide (wX g<(1:Int)) then DP ae else bif decide (wX g>(200:Int)) then DP ae else∃(aT:ak),Z4v g=Z4v aT/\Z4g aT ae else False)=(aJ [(104,wR),(105,B8),(13,vo),(14,nC)] [(11,ah (aL 72 11) qdA)] 72 [.d (aQ g)] []) ae:=by kernel_rfl
section
variable{X:XF}
theorem Ym:FD X 141 JT:=FD.mk (H:=[]) (hk:=[(2,ah (aL 141 2) JR)]) (by kernel_rfl) .nil (.cons NS .nil) (by
 intro ps R ae hh;obtain⟨g,l,rfl,rfl,hl,hp⟩:=hh
 (rw[<-Yl];delta dX A3 Z3 Z4 Zy dR po kc ke oD q9 kg il kh iz lO GL Z7 ZN bT JQ lN JF)
 refine⟨g,l,rfl,hl,λh=>hp _ ?_,λh=>hp _ ?_⟩
 ·rw[nA,h];rfl
 rw[nA,h,zaa,zaS,zbI];omega)
theorem Sm:FD X 143 DR:=FD.mk (H:=[]) (hk:=[(2,ah (aL 143 2) DQ)]) (by kernel_rfl) .nil (.cons JS .nil) (by
 intro ps R ae hh;obtain⟨g,k,l,rfl,rfl,hl,hp⟩:=hh
 (rw[<-Sj];delta gD qf wz Z3 Z4 Zy iq po kc ke oD q9 kg il kh iz lO GL Z7 sw bT cN Zt ZG ma nN)
 simp only[zaa];refine⟨g,k,l,rfl,hl,λh=>hp _ ?_,λh=>bk (λh2=>hp _ ?_) λh2=>hp _ ?_⟩
 ·rw[tY,h];rfl
 ·rw[tY,h,zaS,zbI];omega
 rw[tY,h,zaS];exact(zaN (by omega)).symm)
theorem Sn{s:aw}{k n:Int}{o:aX}(h:kJ s k o=some n):fD o=true:=by
 unfold kJ at h;split at h
 ·cases h
 rename_i hb;simpa using hb
theorem qgU:FD X 106 qdy:=FD.mk (H:=[(139,JP),(140,oF),(137,Sh),(138,vn),(141,JT),(143,DR),(142,B6)]) (by kernel_rfl)
  (.cons Yk (.cons zp (.cons qdx (.cons Sf (.cons Ym (.cons Sm (.cons X4 .nil))))))) .nil (by
 intro ps R ae hh;obtain⟨g,k,o,rfl,rfl,hs,h1,h2⟩:=hh
 (rw[<-qgS];delta ZO Pa iq gD ma Zt Z0 RI wS kg wT kh wU Z3K Ab AZ Ac A0 A1 Z3J RJ sx HR wu Zy dR dX lN lM Z7 Z8 Aa Zv gU gT im gJ gK ve kc ke il iz oE Pj vf vg vi Z3H Z4s Lq pk ZR Z22 fI RT Ad Ae Af Ag Ah wV A2 Z4r Z3 V3 Z3F Zx Z3E Z3D)
 have ub:fD o=false->kJ g.s k o=none:=λh=>by
  cases hh:kJ g.s k o with
  |none=>rfl
  |some n=>rw[Sn hh] at h;cases h
 have u:fD o=true->kJ g.s k o=_:=λh=>(kJ.eq_1 g.s k o).trans (zal (by rw[h];simp));have kb:fD o=ky o (o.kind==0 ||o.kind==1) (o.kind==0) (o.kind==2) (o.kind==3) (o.kind==4):=rfl;refine ie (λe=> ?_) λe0=>ie (λe=> ?_) λe1=>ie (λe=> ?_) λe2=>ie (λe=> ?_) λe3=>ie (λe=> ?_) λe4=>h1 ?_
 ·rw[e] at kb;simp only[zao e] at u;have no: ¬(o.node=(g.s.1,g.s.2,k)/\l8 g.s k o.parent=true/\dQ o.name=true)->kJ g.s k o=none:=λh=>by
   cases hb:fD o with
   |false=>exact ub hb
   |true=>rw[u hb,zal h]
  rw[EH o.node (g.s.1,g.s.2,k)];refine az (λc1=>⟨g,k,o.parent,rfl,rfl,λb2 cm=>az (λc2=>⟨o.name,rfl,rfl,λb3 jt=>az (λc3=>⟨o,_,_,_,_,_,rfl,rfl,λr hr=>az (λc4=>h2 _ ?_) λc4=>h1 (ub ?_)⟩) λc3=>h1 (no ?_)⟩) λc2=>h1 (no ?_)⟩) λc1=>h1 (no ?_)
  ·rw[u (by rw[kb,<-c4,hr];rfl),zao ⟨by simpa using c1,by rw[<-cm,c2],by rw[<-jt,c3]⟩]
  ·rw[kb,<-c4,hr];rfl
  ·exact λh=>by rw[h.2.2] at jt;rw[jt] at c3;cases c3
  ·exact λh=>by rw[h.2.1] at cm;rw[cm] at c2;cases c2
  exact λh=>by rw[h.1] at c1;simp at c1
 ·rw[e] at kb;simp only[zal e0,zao e] at u;have no: ¬(db g.s k o.node=true/\l8 g.s k o.parent=true/\dQ o.name=true)->kJ g.s k o=none:=λh=>by
   cases hb:fD o with
   |false=>exact ub hb
   |true=>rw[u hb,zal h]
  refine⟨g,k,o.node,rfl,rfl,λb1 jX=>az (λc1=>⟨g,k,o.parent,rfl,rfl,λb2 cm=>az (λc2=>⟨o.name,rfl,rfl,λb3 jt=>az (λc3=>⟨o,_,_,_,_,_,rfl,rfl,λr hr=>az (λc4=>h2 _ ?_) λc4=>h1 (ub ?_)⟩) λc3=>h1 (no ?_)⟩) λc2=>h1 (no ?_)⟩) λc1=>h1 (no ?_)⟩
  ·rw[u (by rw[kb,<-c4,hr];rfl),zao ⟨by rw[<-jX,c1],by rw[<-cm,c2],by rw[<-jt,c3]⟩]
  ·rw[kb,<-c4,hr];rfl
  ·exact λh=>by rw[h.2.2] at jt;rw[jt] at c3;cases c3
  ·exact λh=>by rw[h.2.1] at cm;rw[cm] at c2;cases c2
  exact λh=>by rw[h.1] at jX;rw[jX] at c1;cases c1
 ·rw[e] at kb;simp only[zal e0,zal e1,zao e] at u;have no: ¬(db g.s k o.node=true/\nA g.s o.cg=true)->kJ g.s k o=none:=λh=>by
   cases hb:fD o with
   |false=>exact ub hb
   |true=>rw[u hb,zal h]
  refine⟨g,k,o.node,rfl,rfl,λb1 jX=>az (λc1=>⟨g,o.cg,rfl,rfl,hs.2.1,λb2 cm=>az (λc2=>⟨o,_,_,_,_,_,rfl,rfl,λr hr=>az (λc4=>h2 _ ?_) λc4=>h1 (ub ?_)⟩) λc2=>h1 (no ?_)⟩) λc1=>h1 (no ?_)⟩
  ·rw[u (by rw[kb,<-c4,hr];rfl),zao ⟨by rw[<-jX,c1],by rw[<-cm,c2]⟩]
  ·rw[kb,<-c4,hr];rfl
  ·exact λh=>by rw[h.2] at cm;rw[cm] at c2;cases c2
  exact λh=>by rw[h.1] at jX;rw[jX] at c1;cases c1
 ·rw[e] at kb;simp only[zal e0,zal e1,zal e2,zao e] at u;have no: ¬(db g.s k o.node=true/\l8 g.s k o.after=true/\o.elem=(g.s.1,g.s.2,k)/\nB o.text=true)->kJ g.s k o=none:=λh=>by
   cases hb:fD o with
   |false=>exact ub hb
   |true=>rw[u hb,zal h]
  refine⟨o.text,rfl,rfl,hs.1,λhv=> ?_,λhv n hn=> ?_⟩
  ·have hr:nB o.text=false:=by rw[nB,hv];rfl
   have bX:kJ g.s k o=none:=no (λh=>by rw[h.2.2.2] at hr;cases hr);exact⟨g,k,o.node,rfl,rfl,λb2 cm=>az (λc2=>⟨g,k,o.after,rfl,rfl,λb3 jt=>az (λc3=>az (λc4=>h1 bX) λc4=>h1 bX) λc3=>h1 bX⟩) λc2=>h1 bX⟩
  have hr:nB o.text=decide (1<=n/\n<=2000):=by rw[nB,hv,zaS,hn]
  rw[EH o.elem (g.s.1,g.s.2,k)];refine⟨g,k,o.node,rfl,rfl,λb1 jX=>az (λc1=>⟨g,k,o.after,rfl,rfl,λb2 cm=>az (λc2=>az (λc3=>bk (λc5=>bk (λc6=>⟨o,_,_,_,_,_,rfl,rfl,λr hr=>az (λc4=>h2 _ ?_) λc4=>h1 (ub ?_)⟩) λc6=>h1 (no ?_)) λc5=>h1 (no ?_)) λc3=>h1 (no ?_)) λc2=>h1 (no ?_)⟩) λc1=>h1 (no ?_)⟩
  next uA=>rw[u (by rw[kb,<-c4,hr];rfl),zao ⟨by rw[<-jX,c1],by rw[<-cm,c2],by simpa using c3,by rw[uA];exact zaP ⟨c5,c6⟩⟩,hn]
  ·rw[kb,<-c4,hr];rfl
  ·exact λh=>by rw[hr] at h;exact c6 (zbE h.2.2.2).2
  ·exact λh=>by rw[hr] at h;exact c5 (zbE h.2.2.2).1
  ·exact λh=>by rw[h.2.2.1] at c3;simp at c3
  ·exact λh=>by rw[h.2.1] at cm;rw[cm] at c2;cases c2
  exact λh=>by rw[h.1] at jX;rw[jX] at c1;cases c1
 ·rw[e] at kb;simp only[zal e0,zal e1,zal e2,zal e3,zao e] at u;have no: ¬(db g.s k o.node=true/\tY g.s k o.elems=true)->kJ g.s k o=none:=λh=>by
   cases hb:fD o with
   |false=>exact ub hb
   |true=>rw[u hb,zal h]
  refine⟨g,k,o.node,rfl,rfl,λb1 jX=>az (λc1=>⟨g,k,o.elems,rfl,rfl,hs.2.2,λb2 cm=>az (λc2=>⟨o,_,_,_,_,_,rfl,rfl,λr hr=>az (λc4=>h2 _ ?_) λc4=>h1 (ub ?_)⟩) λc2=>h1 (no ?_)⟩) λc1=>h1 (no ?_)⟩
  ·rw[u (by rw[kb,<-c4,hr];rfl),zao ⟨by rw[<-jX,c1],by rw[<-cm,c2]⟩]
  ·rw[kb,<-c4,hr];rfl
  ·exact λh=>by rw[h.2] at cm;rw[cm] at c2;cases c2
  exact λh=>by rw[h.1] at jX;rw[jX] at c1;cases c1
 cases hb:fD o with
 |false=>exact ub hb
 |true=>rw[u hb,zal e0,zal e1,zal e2,zal e3,zal e4])
theorem Yn:LD X 72 11 (ah (aL 72 11) qdA):=LD.idx (H:=[(106,qdy)]) (hk:=[]) (by kernel_rfl) (by kernel_rfl) (.cons qgU .nil) .nil
 (A:=ak) (B:=Int) (λg k i=>qdz g k i) (λg=>g.ops.length) (λg i k=>(Pe g/\g.ops.length<=200)/\(0<=k/\k<=2000000*i)/\je g.s 0 g.ops=je g.s k (g.ops.drop i))
 (λg x=>(je g.s 0 g.ops=false/\x=(.ret,⟨90,[(2,iD 80)],[]⟩))\/(je g.s 0 g.ops=true/\x=(.exit 0,⟨90,[],[]⟩)))
 (by
  rintro g k i ae h0 bR aY ⟨hs,hk,he⟩ hn ho
  (rw[<-Sl];delta po kc ke oD q9 kg il kh iz lO GL Zn ua bT Za Z9 Zj Z3M NB Z45 Zx RT wS wT wU Ab AZ Ac A0 A1 lM Ad Ae Af Ag Ah vf vg vi wV A2 Zt Zv Zg jO Yc Yd Ye R8 R9 Sb Z44 oE Pf wX Pg Sc)
  have e1:D.nth (g.ops.map eN) i.toNat=eN g.ops[i.toNat]:=ay _ _ _ aY;rw[e1];simp only[zaa];have hd:g.ops.drop i.toNat=g.ops[i.toNat]::g.ops.drop (i.toNat+1):=zaY aY;have Ph:=hs.1.1 _ (zas aY);have HP:=hs.2;rw[hd] at he;generalize g.ops[i.toNat]=o at he Ph;refine zo bR (bu ⟨h0,bR⟩ (aq (JJ _) ⟨g,k,o,rfl,rfl,Ph,λh=> ?_,λn h=> ?_⟩))
  ·refine ho _ (λh=>by cases h) (.inl ⟨?_,rfl⟩);rw[he,je,h]
  have:=Sg h Ph.1;refine bk (λh=>by omega) λ_=>bu (by omega) (bu (by omega) (hn (k+n) ⟨hs,by omega,?_⟩));rw[he,je,h])
 (by
  rintro g k i ae hi ⟨hs,hk,he⟩ ho
  (rw[<-Sl];delta po kc ke oD q9 kg il kh iz lO GL Zn ua bT Za Z9 Zj Z3M NB Z45 Zx RT wS wT wU Ab AZ Ac A0 A1 lM Ad Ae Af Ag Ah vf vg vi wV A2 Zt Zv Zg jO Yc Yd Ye R8 R9 Sb Z44 oE Pf wX Pg Sc)
  simp only[zaa];refine bk (λh=>by omega) λh=>ho _ (λh=>by cases h) (.inr ⟨?_,rfl⟩);rw[he,zcB];rfl)
 (by
  rintro s ae ⟨g,rfl,hs,h1,h2⟩;refine⟨g,0,rfl,⟨hs,by omega,rfl⟩,?_⟩;rintro x (⟨h,rfl⟩| ⟨h,rfl⟩)
  ·exact h1 h
  exact h2 h)
theorem qdB:FD X 72 GK:=FD.mk (H:=[(104,wR),(105,B8),(13,vo),(14,nC)]) (hk:=[(11,ah (aL 72 11) qdA)]) (by kernel_rfl) (.cons RY (.cons qdt (.cons JO (.cons vj .nil)))) (.cons Yn .nil) (by
 intro ps R ae hh;obtain⟨g,rfl,rfl,hs,hp⟩:=hh
 (rw[<-qgT];delta Z7 Z8 DP Z4f Z4g po kc ke oD q9 kg il kh iz lO GL JU bT Z4v wX Z4d gV gW qe mP AY NM JD Z4c Z4b Z4a Za Z9 Z3S Zt Zv Zk Z3R wW ZW Z1 ju Zx)
 have bX:cE g=false->ae (.d (.int .i64 80),[]):=λh=>hp _ (by rw[h];rfl);have nK:cE g=true->ae (.d (.int .i64 0),[]):=λh=>hp _ (by rw[h];rfl);have u:=cE.eq_1 g;have no1:V5 g=false->cE g=false:=λh=>by rw[u,h];rfl
 have v:=V5.eq_1 g;rw[DM g.bN (0,0)];simp only[zaa];refine⟨g.s,rfl,rfl,λb hb=>az (λc1=>bX (no1 ?_)) λc1=>bk (λc2=>bX (no1 ?_)) λc2=>bk (λc3=>bX (no1 ?_)) λc3=>⟨g.deps,rfl,rfl,hs.2.2,λb2 cm=>az (λc4=>bX (no1 ?_)) λc4=>⟨g.deps,g.s.2,rfl,rfl,hs.2.2,λn hn=>bu (by omega) (y7 (λc5=>bX (no1 ?_)) λc5=> ?_)⟩⟩⟩
 ·rw[v,<-hb,show b=false by simpa using c1];rfl
 ·rw[v,zaN (by omega)];simp
 ·rw[v,zaN (by omega)];simp
 ·rw[v,<-cm,show b2=false by simpa using c4];simp
 ·rw[v,<-hn,show(n==g.n-1)=false by simpa using c5];simp
 rw[v,<-hb,show b=true by simpa using c1,<-cm,show b2=true by simpa using c4,<-hn,show(n==g.n-1)=true by simpa using c5,zaP (by omega),zaS,zaS,zaS,zaS] at u;refine az (λc2=>⟨g.bN,rfl,rfl,λb2 cm=>az (λc3=>bX ?_) λc3=>⟨g.bN,g.s,rfl,rfl,λc hc=>az (λc4=>bX ?_) λc4=>bk (λc5=>bX ?_) λc5=>nK ?_⟩⟩) λc2=>bk (λc3=>bX ?_) λc3=>bk (λc4=>bX ?_) λc4=>⟨g,rfl,⟨hs,by omega⟩,λh=>bX ?_,λh=>nK ?_⟩
 ·rw[zao (by simpa using c2),<-cm,show b2=false by simpa using c3] at u;rw[u];rfl
 ·rw[zao (by simpa using c2),<-hc,show c=false by simpa using c4] at u;rw[u];simp
 ·rw[zao (by simpa using c2)] at u;rw[u,show(g.ops.length==0)=false by rw[zcN];omega];simp
 ·rw[zao (by simpa using c2),<-cm,show b2=true by simpa using c3,<-hc,show c=true by simpa using c4,show(g.ops.length==0)=true by rw[zaT];omega] at u;rw[u];rfl
 ·rw[zal (by simpa using c2),zaN (by omega)] at u;rw[u];rfl
 ·rw[zal (by simpa using c2),zaN (by omega)] at u;rw[u];rfl
 ·rw[zal (by simpa using c2),h] at u;rw[u];simp
 rw[zal (by simpa using c2),h,zaP (by omega)] at u;rw[u];rfl)
end
abbrev Hd:=aw×aw
theorem mx:HS (λa b:aw=>l7 a b) where
 K8 x:=by simp[sA]
 tr x y z:=by simp only[sA,zai];omega
 r4 x y:=by
  simp only[sA,zaE];intro h1 h2;obtain⟨a,b⟩:=x;obtain⟨c,d⟩:=y;simp only at h1 h2;have:a=c:=by omega
  have:b=d:=by omega
  subst_vars
  rfl
def HU(o:List Hd)(h:Hd):List Hd:=if(o.any λx=>x.1==h.1)=true then o else o++[h]
def sE(l:List Hd):List Hd:=l.foldl HU []
theorem NT{o:List Hd}(h:Hd)(ho:(o.map (·.1)).Nodup):((HU o h).map (·.1)).Nodup:=by
 unfold HU;split
 ·exact ho
 rename_i hn;rw[zaB,za2];refine⟨ho,by simp,λa ha b hb e=> ?_⟩;simp at hb;subst hb;subst e;obtain⟨x,hx,he⟩:=zaA.1 ha;exact hn (zby.2 ⟨x,hx,by simpa using he⟩)
theorem Ca: ∀(l o:List Hd),(o.map (·.1)).Nodup->((l.foldl HU o).map (·.1)).Nodup
 | [],_,h=>h
 |x::r,_,h=>Ca r _ (NT x h)
theorem NU(l:List Hd):((sE l).map (·.1)).Nodup:=Ca l [] (by simp)
theorem Yo(o:List Hd)(h:Hd):(HU o h).length<=o.length+1:=by
 unfold HU;split
 ·omega
 simp
theorem Ly: ∀(l o:List Hd),(l.foldl HU o).length<=o.length+l.length
 | [],_=>by simp
 |x::r,o=>by have:=Ly r (HU o x);have:=Yo o x;simp only[za8,zap];omega
theorem qN(l:List Hd):(sE l).length<=l.length:=by simpa [sE] using Ly l []
theorem Lz: ∀(l o:List Hd),((o++l).map (·.1)).Nodup->l.foldl HU o=o++l
 | [],o,_=>by simp
 |x::r,o,h=>by
  have e:HU o x=o++[x]:=by unfold HU;rw[zal];intro hx;obtain⟨y,hy,he⟩:=zby.1 hx;rw[zaB,za2] at h;exact h.2.2 y.1 (za6 hy) x.1 (by simp) (by simpa using he)
  rw[za8,e,Lz r (o++[x]) (by simpa using h)];simp
theorem Yp{l:List Hd}(h:(l.map (·.1)).Nodup):sE l=l:=by unfold sE;rw[Lz l [] (by simpa using h)];rfl
def ltH(a b:Hd):Bool:=l7 a.1 b.1
def wY(l:List Hd):List Hd:=cp ltH (sE l)
theorem qg{α β:Type}{f:α->β}: ∀{l:List α},(l.map f).Nodup-> ∀x∈l,∀y∈l,f x=f y->x=y
 | [],_,x,hx,_,_,_=>by cases hx
 |a::r,h,x,hx,y,hy,e=>by
  rw[zbm,za7] at h;rcases zaw.1 hx with CV |CV
  ·rcases zaw.1 hy with Az |Az
   ·rw[CV,Az]
   exact absurd (zaA.2 ⟨y,Az,by rw[<-e,CV]⟩) h.1
  rcases zaw.1 hy with Az |Az
  ·exact absurd (zaA.2 ⟨x,CV,by rw[e,Az]⟩) h.1
  exact qg h.2 x CV y Az e
theorem LA{l a:List Hd}(hp:a.Perm (sE l))(ha:a.Pairwise λx y=>ltH y x=false):a=wY l:=
 zj mx (λa:Hd=>a.1) (λx hx y hy e=>qg (NU l) x (hp.mem_iff.1 hx) y (hp.mem_iff.1 hy) e) (hp.trans (bZ _).symm) ha (qL mx (λa:Hd=>a.1) _)
theorem GN(l:List Hd):(wY l).length<=l.length:=by unfold wY;rw[(bZ _).length_eq];exact qN l
def Sp(on:List Hd)(h:Hd):List Hd:=if(on.any λx=>x.2==h.1)=true then on else on++[h]
def LB(l on:List Hd):List Hd:=l.foldl Sp on
def Yq(l:List Hd):List aw:=((LB (wY l).reverse []).map (·.1)).reverse
theorem Yr(o:List Hd)(h:Hd):(Sp o h).length<=o.length+1:=by
 unfold Sp;split
 ·omega
 simp
theorem uc: ∀(l o:List Hd),(LB l o).length<=o.length+l.length
 | [],_=>by simp[LB]
 |x::r,o=>by
  have:=uc r (Sp o x);have:=Yr o x;simp only[LB,za8,zap] at*
  omega
theorem Ys(l:List Hd):(Yq l).length<=l.length:=by unfold Yq;have h1:=uc (wY l).reverse [];have h2:=GN l;simp at h1⊢;omega
def kK(o:List ak)(g:ak):List ak:=if cE g=true/\(o.any λx=>x.s==g.s)=false then o++[g] else o
def aC(l:List ak):List ak:=l.foldl kK []
def fa(g:ak):Hd:=(g.s,g.bN)
def oG(l:List ak):List Hd:=(aC l).map fa
theorem Sq(o:List ak)(g:ak):(kK o g).length<=o.length+1:=by
 unfold kK;split
 ·simp
 omega
theorem GO: ∀(l o:List ak),(l.foldl kK o).length<=o.length+l.length
 | [],_=>by simp
 |x::r,o=>by have:=GO r (kK o x);have:=Sq o x;simp only[za8,zap];omega
theorem cF(l:List ak):(aC l).length<=l.length:=by simpa [aC] using GO l []
theorem GP(l:List ak)(g:ak):aC (l++[g])=kK (aC l) g:=by simp[aC]
theorem Sr{P:ak->Prop}(hP: ∀g,cE g=true->P g): ∀(l o:List ak),(∀g∈o,P g)-> ∀g∈l.foldl kK o,P g
 | [],_,h=>h
 |x::r,o,h=>by
  refine Sr hP r _ ?_;intro g hg;unfold kK at hg;split at hg
  next hx=>
   rcases zaI.1 hg with hg |hg
   ·exact h g hg
   simp at hg;subst hg;exact hP _ hx.1
  exact h g hg
theorem sF{l:List ak}: ∀g∈aC l,cE g=true:=Sr (P:=λg=>cE g=true) (λ_ h=>h) l [] (λ_ h=>by cases h)
theorem zq: ∀(l o:List ak),(o.map (·.s)).Nodup->((l.foldl kK o).map (·.s)).Nodup
 | [],_,h=>h
 |x::r,o,h=>by
  refine zq r _ ?_;unfold kK;split
  next hx=>rw[zaB,za2];refine⟨h,by simp,λa ha b hb e=> ?_⟩;simp at hb;subst hb;subst e;obtain⟨y,hy,he⟩:=zaA.1 ha;have:=hx.2;rw[zcw] at this;exact this y hy (by simpa using he)
  exact h
theorem iu(l:List ak):((aC l).map (·.s)).Nodup:=zq l [] (by simp)
theorem DS(l:List ak):((oG l).map (·.1)).Nodup:=by
 have e:(oG l).map (·.1)=(aC l).map (·.s):=by simp[oG,fa,zb6]
 rw[e];exact iu l
theorem GQ: ∀(l o:List ak),(∀g∈l,cE g=true)->((o++l).map (·.s)).Nodup->l.foldl kK o=o++l
 | [],o,_,_=>by simp
 |x::r,o,hc,h=>by
  have e:kK o x=o++[x]:=by unfold kK;rw[zao];refine⟨hc x (.head _),?_⟩;rw[zcw];intro y hy he;rw[zaB,za2] at h;exact h.2.2 y.s (za6 hy) x.s (by simp) (by simpa using he)
  rw[za8,e,GQ r (o++[x]) (λg hg=>hc g (.tail _ hg)) (by simpa using h)];simp
theorem JV{l:List ak}(hc: ∀g∈l,cE g=true)(h:(l.map (·.s)).Nodup):aC l=l:=by unfold aC;rw[GQ l [] hc (by simpa using h)];rfl
def V8(r:Int)(m:Int)(g:ak):Int:=if g.s.2=r then max m g.n else m
def DT(l:List ak)(r:Int):Int:=l.foldl (V8 r) 0
def sG(l:List ak):List Int:=pb 16 λi=>DT l ((i:Int)+1)
def iv(l:List ak):List Int:=bb (sG l)
theorem GR(l:List ak)(g:ak)(r:Int):DT (l++[g]) r=if g.s.2=r then max (DT l r) g.n else DT l r:=by simp[DT,V8]
theorem jJ(l:List ak):(sG l).length=16:=by simp[sG]
theorem qh(l:List ak)(i:Nat):(sG l).getD i 0=if i<16 then DT l ((i:Int)+1) else 0:=by unfold sG;rw[p8]
theorem Ss{l:List ak}{g:ak}(h1:1<=g.s.2)(h2:g.s.2<=16):(sG l).set (g.s.2-1).toNat (max ((sG l).getD (g.s.2-1).toNat 0) g.n)=sG (l++[g]):=by
 refine ext_get (by simp[jJ]) λi=> ?_;rw[qh,qh,zao (by omega)];have e0:(((g.s.2-1).toNat:Nat):Int)+1=g.s.2:=by omega
 rw[e0];by_cases hi:i<16
 ·rw[zao hi,GR];by_cases he:(g.s.2-1).toNat=i
  ·subst he;rw[e0,zao rfl,zac,zbP (by rw[jJ];exact hi),zcf]
  rw[zal (by omega)];simp only[zac,zaR he];have:=qh l i;rw[zao hi] at this;simpa [zac] using this
 rw[zal hi,mq (by simp[jJ];omega)]
theorem Sv:sG []=List.replicate 16 0:=by rfl
theorem qO(l:List ak)(r:Int)(h1:1<=r)(h2:r<=16):eB (iv l) r=DT l r:=by rw[mn _ h1,iv,oA,qh,zao (by omega)];congr 1;omega
theorem qi(l:List ak):(iv l).length<=16:=by have:=ov (sG l) (sG l).length;rw[iv,oz];rw[jJ] at this⊢;exact this
theorem NV{l:List ak}{g:ak}(h1:1<=g.s.2)(h2:g.s.2<=16):bb (e8 (iv l) g.s.2 (max g.n (eB (iv l) g.s.2)))=iv (l++[g]):=by
 rw[qO l _ h1 h2];show bb _=bb _;refine Nv λi=> ?_;unfold e8;rw[p8,qh,GR];have hl:=qi l;by_cases hi:i<max (iv l).length g.s.2.toNat
 ·rw[zao hi];have qgV:i<16:=by omega
  rw[zao qgV];by_cases he:(i:Int)+1=g.s.2
  ·rw[zao he,zao he.symm,he,Int.max_comm]
  rw[zal he,zal (λe=>he e.symm),qO l _ (by omega) (by omega)]
 rw[zal hi];split
 next qgV=>rw[zal (by omega)];have h3:=qO l ((i:Int)+1) (by omega) (by omega);rw[xr,mq (by omega)] at h3;exact h3
 rfl
theorem DU{r B:Int}: ∀(l:List ak) (m:Int),m<=B->(∀g∈l,g.n<=B)->l.foldl (V8 r) m<=B
 | [],_,h,_=>h
 |g::t,m,h,hl=>by
  refine DU t _ ?_ λx hx=>hl x (.tail _ hx);have:=hl g (.head _);unfold V8;split
  ·omega
  exact h
theorem Sw{r:Int}: ∀(l:List ak) (m:Int),m<=l.foldl (V8 r) m/\ ∀g∈l,g.s.2=r->g.n<=l.foldl (V8 r) m
 | [],m=>⟨zbz _,λ_ h=>by cases h⟩
 |g::t,m=>by
  obtain⟨h1,h2⟩:=Sw (r:=r) t (V8 r m g);have h3:m<=V8 r m g/\(g.s.2=r->g.n<=V8 r m g):=by
   unfold V8;split
   ·exact⟨by omega,λ_=>by omega⟩
   rename_i h;exact⟨zbz _,λe=>absurd e h⟩
  refine⟨Int.le_trans h3.1 h1,λx hx hr=> ?_⟩;rcases zaw.1 hx with rfl |hx
  ·exact Int.le_trans (h3.2 hr) h1
  exact h2 x hx hr
theorem oH(l:List ak)(r:Int):0<=DT l r:=(Sw (r:=r) l 0).1
def mY(l:List ak):Int:=l.foldl (λt g=>max t g.s.1) 0
theorem Sx(l:List ak)(g:ak):mY (l++[g])=max (mY l) g.s.1:=by simp[mY]
theorem DV{B:Int}(hB:0<=B): ∀(l:List ak),(∀g∈l,g.s.1<=B)->mY l<=B:=by
 intro l h;have key: ∀(l:List ak) (m:Int),m<=B->(∀g∈l,g.s.1<=B)->l.foldl (λt g=>max t g.s.1) m<=B:=by
  intro l
  induction l with
  |nil=>intro m h _;exact h
  |cons g t ih=>intro m h hl;refine ih _ ?_ λx hx=>hl x (.tail _ hx);have:=hl g (.head _);show max m g.s.1<=B;omega
 exact key l 0 hB h
theorem qj(l:List ak):0<=mY l/\ ∀g∈l,g.s.1<=mY l:=by
 have key: ∀(l:List ak) (m:Int),m<=l.foldl (λt g=>max t g.s.1) m/\ ∀g∈l,g.s.1<=l.foldl (λt g=>max t g.s.1) m:=by
  intro l
  induction l with
  |nil=>intro m;exact⟨zbz _,λ_ h=>by cases h⟩
  |cons g t ih=>
   intro m;obtain⟨h1,h2⟩:=ih (max m g.s.1);refine⟨by simp only[za8];omega,λx hx=> ?_⟩;simp only[za8];rcases zaw.1 hx with rfl |hx
   ·omega
   exact h2 x hx
 exact key l 0
def noG:ak:=⟨(0,0),0,[],(0,0),[]⟩
def GS(l:List ak)(r:Int):ak:=⟨(mY l+1,r),DT l r+1,iv l,(0,0),[]⟩
def rR(l:List ak)(r:Int):Int:=if ¬(1<=r/\r<=16) then 1 else if max (mY l+1) (DT l r+1)>1099511627776 then 2 else 0
def nD(l:List ak)(r:Int):ak:=if rR l r=0 then GS l r else noG
def gtG(a b:ak):Bool:=l7 b.s a.s
def zr(l:List ak)(r:Int):List ak:=cp gtG (l.filter λg=>g.s.2==r)
theorem vq(l:List ak)(r:Int):(zr l r).Perm (l.filter λg=>g.s.2==r):=bZ _
theorem JW:HS (λa b:aw=>l7 b a) where
 K8 x:=mx.K8 x
 tr x y z h1 h2:=mx.tr z y x h2 h1
 r4 x y h1 h2:=(mx.r4 y x h1 h2).symm
theorem LC{l a:List ak}{r:Int}(hn:(l.map (·.s)).Nodup)(hp:a.Perm (l.filter λg=>g.s.2==r))(ha:a.Pairwise λx y=>gtG y x=false):a=zr l r:=
 zj JW (λg:ak=>g.s) (λx hx y hy e=>qg hn x ((zb4.1 (hp.mem_iff.1 hx)).1) y ((zb4.1 (hp.mem_iff.1 hy)).1) e) (hp.trans (vq l r).symm) ha (qL JW (λg:ak=>g.s) _)
def cq(on:List aw):List ak->Option aw
 | []=>none
 |g::t=>if g.bN=(0,0)/\g.s∈on then some g.s else cq on t
def oX(l:List Hd):Nat->aw->Bool->Int×aw×Bool
 |0,_,_=>(11,(0,0),false)
 |n+1,x,even=>match(l.find? λh=>h.1==x).map (·.2) with
  |none=>(111,(0,0),false)
  |some u=>if u=(0,0) then(0,x,even) else oX l n u (!even)
def gw(l:List Hd)(x:aw):Int×aw×Bool:=oX l (l.length+1) x true
def vr(l:List Hd)(x:aw):Bool:=(gw l x).1==0&& !(gw l x).2.2
def bs(l:List Hd)(on:List aw):List ak->Option aw
 | []=>none
 |g::t=>if g.bN=(0,0) then none else if vr l g.s=true/\g.s∈on then some g.s else bs l on t
def qgW(o:Option aw):aw×Int:=match o with |some s=>(s,0)|none=>((0,0),200)
def JX(l:List ak):List aw:=Yq ((aC l).map fa)
def rS(l:List ak)(r:Int):aw×Int:=qgW (cq (JX l) (zr (aC l) r))
def qk(l:List ak)(r:Int):aw×Int:=qgW (bs (oG l) (JX l) (zr (aC l) r))
theorem NW{l m:List Hd}(hn:(l.map (·.1)).Nodup)(hp:m.Perm l)(x:aw):m.find? (λh=>h.1==x)=l.find? (λh=>h.1==x):=by
 have hm:(m.map (·.1)).Nodup:=(hp.map (·.1)).nodup_iff.2 hn;cases h:l.find? (λh=>h.1==x) with
 |none=>rw[zb5] at h⊢;exact λy hy=>h y (hp.mem_iff.1 hy)
 |some a=>
  have ha:=zcq h;have hax:=zc6 h;cases h2:m.find? (λh=>h.1==x) with
  |none=>rw[zb5] at h2;exact absurd hax (h2 a (hp.mem_iff.2 ha))
  |some b=>have hb:=zcq h2;have hbx:=zc6 h2;have:b=a:=qg hn b (hp.mem_iff.1 hb) a ha (by simp at hax hbx;rw[hax,hbx]);rw[this]
noncomputable def fb(H HN:List (FuncId×bm))(hk:List (Nat×(S->K (PX×S))))(f id:Nat)(s:S):K (PX×S):=
 xO (dD PR (runK PR yX qK H 60 60) HN (aL f) hk (qK f) (bB PR f id)) (aL f id) s
noncomputable def sH(H HN:List (FuncId×bm))(hk:List (Nat×(S->K (PX×S))))(f:Nat)(ps:List P)(R:List (Nat×En)):K (P×List (Nat×En)):=
 BW PR (runK PR yX qK H 60 60) HN yX hk qK f ps R
def ND(w0:World)(f:Nat)(h:bm):Prop:=Rk PR w0 f h
def LN(w0:World)(f id:Nat)(g:S->K (PX×S)):Prop:= ∀(val:Nat->Value) (lo:Nat) (mk:Bool) s ae,g s ae->TW PR ⟨val,w0,lo,mk⟩ (.loop (bB PR f id)) s ae
def LNT(w0:World)(f id:Nat)(g:S->K (PX×S)):Prop:= ∀(val:Nat->Value) (lo:Nat) s ae,g s ae->TW PR ⟨val,w0,lo,true⟩ (.loop (bB PR f id)) s ae
def FN(w0:World)(f id:Nat)(g:S->K (PX×S)):Prop:= ∀(val:Nat->Value) (lo:Nat) s ae,g s ae->TW PR ⟨val,w0,lo,true⟩ (nw PR f id).code s ae
theorem LN.T{w0:World}{f id:Nat}{g:S->K (PX×S)}(h:LN w0 f id g):LNT w0 f id g:=λval lo s ae hp=>h val lo true s ae hp
inductive LF(w0:World):List (FuncId×bm)->Prop
 |nil:LF w0 []
 |cons {f:Nat} {h:bm} {r:List (FuncId×bm)} (hf:ND w0 f h) (hr:LF w0 r):LF w0 ((f,h)::r)
theorem LF.get{w0:World}{HN:List (FuncId×bm)}(h:LF w0 HN): ∀f g,lk HN f=some g->Rk PR w0 f g:=by
 induction h with
 |nil=>intro f g h;cases h
 | @cons f' h' r hf hr ih=>
  intro f g h;unfold lk at h;split at h
  next he=>cases h;rw[<-zaf he];exact hf
  exact ih f g h
inductive Yt(w0:World)(f:Nat):List (Nat×(S->K (PX×S)))->Prop
 |nil:Yt w0 f []
 |cons {id:Nat} {g:S->K (PX×S)} {r:List (Nat×(S->K (PX×S)))} (h:LN w0 f id g) (hr:Yt w0 f r):Yt w0 f ((id,g)::r)
theorem Yt.get{w0:World}{f:Nat}{hk:List (Nat×(S->K (PX×S)))}(h:Yt w0 f hk): ∀id g,lk hk id=some g->LN w0 f id g:=by
 induction h with
 |nil=>intro f g h;cases h
 | @cons f' h' r hf hr ih=>
  intro f g h;unfold lk at h;split at h
  next he=>cases h;rw[<-zaf he];exact hf
  exact ih f g h
inductive V9(w0:World)(f:Nat):List (Nat×(S->K (PX×S)))->Prop
 |nil:V9 w0 f []
 |loop {id:Nat} {g:S->K (PX×S)} {r:List (Nat×(S->K (PX×S)))} (hid:id<500000) (h:LNT w0 f id g) (hr:V9 w0 f r):V9 w0 f ((id,g)::r)
 |range {id:Nat} {g:S->K (PX×S)} {r:List (Nat×(S->K (PX×S)))} (h:FN w0 f id g) (hr:V9 w0 f r):V9 w0 f ((500000+id,g)::r)
theorem V9.loops{w0:World}{f:Nat}{hk:List (Nat×(S->K (PX×S)))}(h:V9 w0 f hk): ∀id g,id<500000->lk hk id=some g->LNT w0 f id g:=by
 induction h with
 |nil=>intro id g _ h;cases h
 | @loop pG g' r qjg h hr ih=>
  intro id g hid hg;unfold lk at hg;split at hg
  next he=>cases hg;rw[<-zaf he];exact h
  exact ih id g hid hg
 | @range pG g' r h hr ih=>
  intro id g hid hg;unfold lk at hg;split at hg
  next he=>have:=zaf he;omega
  exact ih id g hid hg
theorem V9.ranges{w0:World}{f:Nat}{hk:List (Nat×(S->K (PX×S)))}(h:V9 w0 f hk): ∀id g,lk hk (500000+id)=some g->FN w0 f id g:=by
 induction h with
 |nil=>intro id g h;cases h
 | @loop pG g' r qjg h hr ih=>
  intro id g hg;unfold lk at hg;split at hg
  next he=>have:=zaf he;omega
  exact ih id g hg
 | @range pG g' r h hr ih=>
  intro id g hg;unfold lk at hg;split at hg
  next he=>
   cases hg;have:=zaf he;have e:pG=id:=by omega
   rw[<-e];exact h
  exact ih id g hg
theorem zs{X:XF}{H:List (FuncId×bm)}(hH:HD X H):AO (runK PR yX qK H 60 60) (fo PR (Ji X)):=by have:=xo (lf:=60) (kU Nu) hH 60;rw[Dt PR aL xsT X.cf (λ_ _ _=>none) qK H 60 60] at this;exact this
theorem ND.mk{X:XF}{w0:World}(hX:dC PR w0 X.cf){H HN:List (FuncId×bm)}{hk:List (Nat×(S->K (PX×S)))}{f:Nat}{h:bm}(hdr:PR.follows .mixedOrders=true)(hu:uniq PR f=true)(huR:BU PR f=true)(hH:HD X H)(oV:LF w0 HN)(hl:V9 w0 f hk)
  (hb: ∀ps R ae,h ps R ae->sH H HN hk f ps R ae):ND w0 f h:=
 Rk.mk (kp:=Ji X) oV.get (zs hH) hX hdr Nu hu huR hl.loops hl.ranges (λps R ae hp=>hb ps R ae hp)
theorem LN.par{X:XF}{w0:World}(hX:dC PR w0 X.cf){H HN:List (FuncId×bm)}{hk:List (Nat×(S->K (PX×S)))}{f id:Nat}{g:S->K (PX×S)}(hdr:PR.follows .mixedOrders=true)(hu:uniq PR f=true)(hc:cd (qK f) (bB PR f id)=true)(hnr:(bV (bB PR f id)).isEmpty=true)(hH:HD X H)(oV:LF w0 HN)(hl:Yt w0 f hk)
  {A B:Type} (hd:A->B->S) (Inv:A->B->Prop) (mu:A->B->Nat) (Out:A->PX×S->Prop)
  (hr: ∀a b,Inv a b->fb H HN hk f id (hd a b) (roundPost (mu a b) (λm s=> ∃b',s=hd a b'/\Inv a b'/\m=mu a b') (Out a)))
  (hg: ∀s ae,g s ae-> ∃a b,s=hd a b/\Inv a b/\ ∀x,Out a x->ae x):LN w0 f id (ah (aL f id) g):=by
 intro val lo mk s ae hp;unfold ah at hp;cases hh:cA (aL f id) s with
 |none=>simp only[hh] at hp
 |some s0=>
  simp only[hh] at hp;obtain⟨a,b,rfl,h1,h2⟩:=hg s0 ae hp;refine TW.mono (TW.loop (keep:=aL f id) (I:=λm s=> ∃b',s=hd a b'/\Inv a b'/\m=mu a b') (O:=Out a) (λn s hs=> ?_) hh ⟨b,rfl,h1,rfl⟩) h2;obtain⟨b',rfl,h3,rfl⟩:=hs;have:=hr a b' h3;unfold fb at this;refine TW.mono (ew (kp:=Ji X) (T:=⟨val,w0,lo,mk⟩) oV.get (zs hH) hX hdr (kp1:=aL f) (bB PR f id) hc (λd hd h hh s ae hp=>by have:=hl.get _ _ hh val lo mk s ae hp;rwa [uW hu hd] at this) (λx hx=>by rw[zbO.1 hnr] at hx;cases hx) _ _ this) ?_;rintro⟨e,s1⟩ hx;cases e with
  |normal=>obtain⟨s2,h4,m,h5,h6⟩:=KW.dW (p:=λs2=>cA (aL f id) s1=some s2) (λ_ h=>h) _ hx;exact⟨s2,h4,m,h5,h6⟩
  |exit i=>obtain⟨s2,h4,h5⟩:=KW.dW (p:=λs2=>dJ (aL f id) s1=some s2) (λ_ h=>h) _ hx;exact⟨s2,h4,h5⟩
  |ret=>obtain⟨s2,h4,h5⟩:=KW.dW (p:=λs2=>dJ (aL f id) s1=some s2) (λ_ h=>h) _ hx;exact⟨s2,h4,h5⟩
def Sy(g:FuncId)(cf:D->D->Int)(ty:TypeId):bm:=λps R ae=> ∃es,ps=[.sl 0 0 es.length,.fn g []]/\R=[(0,⟨0,some 0,.arr ty false es⟩)]/\tU PR yX g es cf/\
 ∀fH:List D,fH.Perm es->fH.Pairwise (λa b=> ¬cf b a<0)->ae (.cT [],[(0,⟨0,some 0,.arr ty false fH⟩)])
theorem DW{g:FuncId}{cf:D->D->Int}{ty:TypeId}{ps:List P}{R:List (Nat×En)}{ae:P×List (Nat×En)->Prop}(h:Sy g cf ty ps R ae):qbp PR yX ty ps R ae:=by obtain⟨es,rfl,rfl,hc,hp⟩:=h;exact⟨0,g,⟨0,some 0,.arr ty false es⟩,es,cf,rfl,rfl,rfl,hc,λfH h1 h2=>hp fH h1 h2⟩
def Sz{α β:Type}(g:FuncId)(ty:TypeId)(enc:α->D)(key:α->β)(lt:β->β->Bool):bm:=λps R ae=> ∃l:List α,ps=[.sl 0 0 l.length,.fn g []]/\R=[(0,⟨0,some 0,.arr ty false (l.map enc)⟩)]/\l.length<=1000000/\
 ∀l':List α,l'.Perm l->l'.Pairwise (λa b=>lt (key b) (key a)=false)->ae (.cT [],[(0,⟨0,some 0,.arr ty false (l'.map enc)⟩)])
theorem SA{α β:Type}(f:α->β)(g:β->α)(hg: ∀x,g (f x)=x){l:List α}{l':List β}(h:l'.Perm (l.map f)): ∃l2:List α,l'=l2.map f/\l2.Perm l:=by
 refine⟨l'.map g,?_,?_⟩
 ·rw[List.map_map];refine(List.map_id l').symm.trans (zbF λb hb=> ?_);obtain⟨a,_,rfl⟩:=zaA.1 (h.mem_iff.1 hb);simp[hg]
 have:=h.map g;rw[List.map_map] at this;rwa [show(g∘f)=id from funext hg,List.map_id] at this
theorem Yu{X:XF}{f g:FuncId}{ty:TypeId}{α β:Type}{enc:α->D}{dec:D->α}{key:α->β}{lt:β->β->Bool}{c:α->α->Int}(ho: ∀cf,FD X f (Sy g cf ty))(MR: ∀x,dec (enc x)=x)(hL:HS lt)
  (hc: ∀x y,c x y<0↔lt (key x) (key y)=true) (xe: ∀x,∃cs,enc x= .agg cs) (hfc: ∀x y,yQ PR yX g (enc x) (enc y) (c x y)) (gj: ∃fn,PR.funcs[g]?=some fn/\fn.body.isSome=true/\(fn.name== "runtime.NumGoroutine")=false):
  FD X f (Sz g ty enc key lt):=by
 intro ps R ae hh;obtain⟨l,rfl,rfl,hl,hp⟩:=hh;have bG: ∀x y,c (dec (enc x)) (dec (enc y))<0↔lt (key x) (key y)=true:=λx y=>by rw[MR,MR];exact hc x y
 refine ho (λa b=>c (dec a) (dec b)) _ _ ae ⟨l.map enc,by rw[zaa],rfl,?_,λfH h1 h2=> ?_⟩
 ·exact {
   fn:=gj
   ag:=λd hd=>by obtain⟨x,_,rfl⟩:=zaA.1 hd;exact xe x
   len:=by simp;omega
   run:=λa ha b hb=>by obtain⟨x,_,rfl⟩:=zaA.1 ha;obtain⟨y,_,rfl⟩:=zaA.1 hb;rw[MR,MR];exact hfc x y
   K8:=λa ha=>by obtain⟨x,_,rfl⟩:=zaA.1 ha;rw[bG,hL.K8];simp
   tr:=λa ha b hb d hd=>by obtain⟨x,_,rfl⟩:=zaA.1 ha;obtain⟨y,_,rfl⟩:=zaA.1 hb;obtain⟨z,_,rfl⟩:=zaA.1 hd;rw[bG,bG,bG];exact hL.tr _ _ _
   ntr:=λa ha b hb d hd=>by obtain⟨x,_,rfl⟩:=zaA.1 ha;obtain⟨y,_,rfl⟩:=zaA.1 hb;obtain⟨z,_,rfl⟩:=zaA.1 hd;rw[bG,bG,bG];intro h1 h2;simpa using hL.ntr (by simpa using h1) (by simpa using h2)}
 obtain⟨l2,rfl,h3⟩:=SA enc dec MR h1;rw[zcu] at h2;exact hp l2 h3 (h2.imp λ{a b} h=>by rw[bG] at h;simpa using h)
def LG{α β:Type}(g:FuncId)(ty:TypeId)(enc:α->D)(key:α->β)(lt:β->β->Bool):bm:=λps R ae=> ∃(l:List α) (tl:List D),ps=[.sl 0 0 l.length,.fn g []]/\R=[(0,⟨0,some 0,.arr ty false (l.map enc++tl)⟩)]/\l.length<=1000000/\
 ∀l':List α,l'.Perm l->l'.Pairwise (λa b=>lt (key b) (key a)=false)->ae (.cT [],[(0,⟨0,some 0,.arr ty false (l'.map enc++tl)⟩)])
theorem SB{X:XF}{f g:FuncId}{ty:TypeId}{α β:Type}{enc:α->D}{dec:D->α}{key:α->β}{lt:β->β->Bool}{c:α->α->Int}(ho:FD X f (Rh PR yX ty))(MR: ∀x,dec (enc x)=x)(hL:HS lt)
  (hc: ∀x y,c x y<0↔lt (key x) (key y)=true) (xe: ∀x,∃cs,enc x= .agg cs) (hfc: ∀x y,yQ PR yX g (enc x) (enc y) (c x y)) (gj: ∃fn,PR.funcs[g]?=some fn/\fn.body.isSome=true/\(fn.name== "runtime.NumGoroutine")=false):
  FD X f (LG g ty enc key lt):=by
 intro ps R ae hh;obtain⟨l,tl,rfl,rfl,hl,hp⟩:=hh;have bG: ∀x y,c (dec (enc x)) (dec (enc y))<0↔lt (key x) (key y)=true:=λx y=>by rw[MR,MR];exact hc x y
 refine ho _ _ ae ⟨0,g,⟨0,some 0,.arr ty false (l.map enc++tl)⟩,l.map enc,tl,λa b=>c (dec a) (dec b),by rw[zaa],rfl,rfl,?_,λfH h1 h2=> ?_⟩
 ·exact {
   fn:=gj
   ag:=λd hd=>by obtain⟨x,_,rfl⟩:=zaA.1 hd;exact xe x
   len:=by simp;omega
   run:=λa ha b hb=>by obtain⟨x,_,rfl⟩:=zaA.1 ha;obtain⟨y,_,rfl⟩:=zaA.1 hb;rw[MR,MR];exact hfc x y
   K8:=λa ha=>by obtain⟨x,_,rfl⟩:=zaA.1 ha;rw[bG,hL.K8];simp
   tr:=λa ha b hb d hd=>by obtain⟨x,_,rfl⟩:=zaA.1 ha;obtain⟨y,_,rfl⟩:=zaA.1 hb;obtain⟨z,_,rfl⟩:=zaA.1 hd;rw[bG,bG,bG];exact hL.tr _ _ _
   ntr:=λa ha b hb d hd=>by obtain⟨x,_,rfl⟩:=zaA.1 ha;obtain⟨y,_,rfl⟩:=zaA.1 hb;obtain⟨z,_,rfl⟩:=zaA.1 hd;rw[bG,bG,bG];intro h1 h2;simpa using hL.ntr (by simpa using h1) (by simpa using h2)}
 obtain⟨l2,rfl,h3⟩:=SA enc dec MR h1;rw[zcu] at h2;exact hp l2 h3 (h2.imp λ{a b} h=>by rw[bG] at h;simpa using h)
def cM(U:List aw)(d:D):Option D:=match d with
 | .agg [.int .i64 a,.int .i64 b]=>if U.count (a,b)=0 then none else some (iE (U.count (a,b):Int))
 |_=>none
theorem qbz(U:List aw)(x:aw):cM U (bh x)=if U.count x=0 then none else some (iE (U.count x:Int)):=rfl
theorem DX:cM []=λ_=>none:=by
 funext d;unfold cM;split
 ·simp
 rfl
theorem ql(U:List aw)(x:aw):cL (cM U (bh x)) (iE 0)=iE (U.count x:Int):=by
 rw[qbz];split
 next h=>rw[h];rfl
 rfl
theorem LH(U:List aw)(x:aw):df (bh x) (iE ((U.count x:Int)+1)) (cM U)=cM (x::U):=by
 funext d;unfold df;cases hd:D.oO (bh x) d with
 |true=>have:=(D.hQ _ _).1 hd;subst this;simp only[zbT];rw[qbz,zcg,zal (by omega)];simp
 |false=>
  have dP:bh x≠d:=λe=>by rw[(D.hQ _ _).2 e] at hd;cases hd
  simp only[zbn];unfold cM;split
  next a b=>have:x≠(a,b):=λe=>dP (by rw[e];rfl);rw[List.count_cons_of_ne this]
  rfl
theorem DY(U:List aw)(x:aw)(z:D):(λk'=>bif D.oO (bh x) k' then some (iE ((U.count x:Int)+1)) else df (bh x) z (cM U) k')=cM (x::U):=by rw[<-LH];funext d;unfold df;cases D.oO (bh x) d<;>rfl
theorem NX(k v u:D)(f:D->Option D):df k v (df k u f)=df k v f:=by funext d;unfold df;cases D.oO k d<;>rfl
theorem DZ(U:List aw)(x:aw)(z:D):df (bh x) (.int .i64 ((U.count x:Int)+1)) (df (bh x) z (cM U))=cM (x::U):=by rw[NX];exact LH U x
abbrev kV(z:Bool)(l:List ak):Obj:= .arr 34 z (l.map aQ)
abbrev mpS(f:D->Option D)(c:Int):Obj:= .map 30 f c false
def jP(l:List ak):Prop:=l.length<=1000000/\ ∀g∈l,Pe g
abbrev cnH(l out:List ak)(f:D->Option D)(c i:Int):S:=⟨36,[(3,.sl 0 0 out.length),(4,.mp 1 0),(9,bC l),(10,iD ((l.map aQ).length:Int)),(11,iD i)],[(0,⟨0,none,kV false out⟩),(1,⟨0,none,mpS f c⟩)]⟩
def cr(l:List ak):List D:=List.map aQ l
def kz(out:List ak):En:=En.mk 0 none (Obj.arr (34:TypeId) false (cr out))
def uF(out:List ak):Nat×En:=(0,kz out)
def ud(out:List ak):List (Nat×En):=[uF out]
def fJ(l:List ak)(i:Int):D:=D.nth (cr l) (Zg i)
def my(l:List ak)(i:Int):D:=D.int .i64 (D.aj (D.ar (fJ l i) 1))
def nO(l:List ak)(i:Int):D:=D.int .i64 (D.aj (D.ar (fJ l i) 0))
def sI(l:List ak)(i:Int):D:=D.agg [nO l i,my l i]
def Z4X(l:List ak)(i:Int):D:=D.agg [nO l i,D.int .i64 (D.aj (D.ar (fJ l i) (0+1)))]
def Z4Y(l:List ak)(i:Int)(f:D->Option D)(c:Int):En:=En.mk 0 none (Obj.map 30 (λ(k':D)=>bif D.oO (Z4X l i) k' then some (D.int .i64 (D.aj (cL (f (Z4X l i)) Z7)+(1:Int))) else df (Z4X l i) (cL (f (Z4X l i)) Z7) f k') (bif Option.isSome (f (sI l i)) then c else c+(1:Int)) false)
def xw(l:List ak)(i:Int):Int:=D.aj (D.ar (fJ l i) 2)
def wB(l:List ak)(i:Int):List D:=[nO l i,my l i,D.int .i64 (xw l i),D.sl 1 (D.dy (D.ar (fJ l i) 3)),D.int .i64 (D.aj (D.ar (fJ l i) 4)),D.int .i64 (D.aj (D.ar (fJ l i) 5)),D.sl 18 (D.dy (D.ar (fJ l i) 6))]
def dA(out:List ak):Nat:=List.length out
def Pk(out:List ak)(l:List ak)(i:Int):En:=En.mk 0 none (Obj.arr (34:TypeId) false (List.take (dA out) (cr out)++[D.agg (wB l i)]))
def Cb(out:List ak)(l:List ak)(i:Int):Nat:=dA out+List.length [D.agg (wB l i)]
def eD(l:List ak):Nat:=List.length (cr l)
def Pm(out:List ak)(l:List ak)(i:Int):Bool:=Nat.ble (dA out) (eD out)&&aO (Cb out l i) 88
def Z4T(l:List ak)(i:Int)(f:D->Option D):D:=cL (df (sI l i) (D.int .i64 (D.aj (cL (f (sI l i)) Z7)+(1:Int))) (df (sI l i) (cL (f (sI l i)) Z7) f) (sI l i)) Z7
def Z4S(f:D->Option D)(l:List ak)(i:Int):Bool:=decide (Z9<=D.aj (cL (f (sI l i)) Z7)+(1:Int)/\D.aj (cL (f (sI l i)) Z7)+(1:Int)<=Za)
def A5(f:D->Option D)(c:Int):En:=En.mk 0 none (Obj.map 30 f c false)
def Z4M(i:Int):List (Nat×P):=[(11,P.d (Zn i))]
def D0(l:List ak):P:=P.d (D.int .i64 (↑(eD l):Int))
def cS(l:List ak):P:=P.d (D.sl 7 (cr l))
def Z4N(l:List ak)(i:Int):List (Nat×P):=(4,P.mp 1 0)::(9,cS l)::(10,D0 l)::Z4M i
def kW(out:List ak):P:=P.sl 0 0 (dA out)
def Yv(e:Int)(g:ak):Prop:=e=if cE g=true then(0:Int) else(80:Int)
def Yw(l:List ak)(i:Int)(g:ak):Prop:=[P.d (D.agg (wB l i))]=EI g
noncomputable def cK(l:List ak)(i:Int):Bool:=cx PR (34:TypeId) (fJ l i)
def kL(i:Int)(l:List ak):Bool:=decide ((0:Int)<=i/\i<(↑(eD l):Int))
def qP(i:Int)(l:List ak):Bool:=decide (i<(↑(eD l):Int))
theorem SC(l out:List ak)(f:D->Option D)(c i:Int)(ae:PX×S->Prop):(bif qP i l then bif kL i l then bif cK l i then∃(g:ak),Yw l i g/\Zx/\Pe g/\ ∀(e:Int),Yv e g->bif e !=(0:Int) then bif Zj i then ae (PX.normal,S.mk 36 ((3,kW out)::Z4N l i) [uF out,(1,A5 f c)]) else False else bif cx PR (3:TypeId) (cL (f (sI l i)) Z7) then bif Z4S f l i then bif cx PR (3:TypeId) (Z4T l i f) then bif D.aj (Z4T l i f)==(1:Int) then bif Pm out l i then bif Zj i then ae (PX.normal,S.mk 36 ((3,P.sl 0 0 (Cb out l i))::Z4N l i) [(0,Pk out l i),(1,Z4Y l i f c)]) else False else False else bif Zj i then ae (PX.normal,S.mk 36 ((3,kW out)::Z4N l i) [uF out,(1,Z4Y l i f c)]) else False else False else False else False else False else False else ae (PX.exit 0,S.mk 36 [(3,kW out)] (ud out)))=(aD [(51,GK)] [] 30 3 (cnH l out f c i)) ae:=by kernel_rfl
def qdC:S->K (PX×S):=λst ae=> ∃l,st=cnH l [] (λ_=>none) 0 0/\jP l/\ ∀m,m=aC l->ae (.exit 0,⟨36,[(3,.sl 0 0 m.length)],[(0,⟨0,none,kV false m⟩)]⟩)
def nE:bm:=λps R ae=> ∃l,ps=[bC l]/\R=[]/\jP l/\ ∀m,m=aC l->ae (.sl 0 0 m.length,[(0,⟨0,none,kV false m⟩)])
def NY:En:=En.mk 0 none (Obj.map 30 (λ(_:D)=>none) (0:Int) false)
def LI:En:=En.mk 0 none (Obj.arr (34:TypeId) false [])
def Z50:List (Nat×P):=[(11,P.d Z7)]
def Z53(l:List ak):S:=S.mk 36 ((3,ZQ)::(4,P.mp 1 0)::(9,cS l)::(10,D0 l)::Z50) [(0,LI),(1,NY)]
theorem qgX(l:List ak)(ae:P×List (Nat×En)->Prop):(∃(au:List ak),Z53 l=Z53 au/\jP au/\ ∀(m:List ak),m=aC au->ae (kW m,ud m))=(aJ [] [(3,ah (aL 30 3) qdC)] 30 [bC l] []) ae:=by kernel_rfl
def zt(m:List ak)(s:aw):Int:=jH (λg=>g.s==s) m
def JY:bm:=λps R ae=> ∃m s,ps=[.sl 0 0 m.length,.d (bh s)]/\R=[(0,⟨0,some 0,kV false m⟩)]/\m.length<=1000000/\ ∀i,i=zt m s->ae (iD i,[(0,⟨0,some 0,kV false m⟩)])
abbrev fdH(m:List ak)(s:aw)(i:Int):S:=⟨20,[(0,.sl 0 0 m.length),(3,.ref 1 0 0),(5,iD i)],[(0,⟨0,some 0,kV false m⟩),(1,⟨0,none,.box 30 [iD s.1,iD s.2]⟩)]⟩
def uG(s:aw):En:=En.mk 0 none (Obj.box (30:TypeId) [P.d (gW s),P.d (gV s)])
def D1(m:List ak):Nat×En:=(0,En.mk 0 (some 0) (Obj.arr (34:TypeId) false (cr m)))
def iQ:P:=P.ref 1 0 0
def sY:Nat×P:=(3,iQ)
def SD(m:List ak):List (Nat×En):=[D1 m]
def nP(i:Int):Nat×P:=(4,P.d (Zt i))
def A6(i:Int):List (Nat×P):=[nP i]
def lW(m:List ak):Nat×P:=(0,kW m)
def iA(i:Int)(m:List ak):Bool:=decide (Zg i<eD m)
def gX(m:List ak):Int:=(↑(dA m):Int)
def ki(i:Int)(m:List ak):Bool:=decide ((0:Int)<=i/\i<gX m)
def xx(i:Int)(m:List ak):Bool:=decide (i<gX m)
theorem qbA(m:List ak)(s:aw)(i:Int)(ae:PX×S->Prop):(bif xx i m then bif ki i m then bif iA i m then bif cK m i then bif D.aj (D.ar (fJ m i) 0)==Prod.fst s&&(D.aj (D.ar (fJ m i) 1)==Prod.snd s&&true) then ae (PX.ret,S.mk 20 (lW m::A6 i) (SD m)) else bif Zj i then ae (PX.normal,S.mk 20 (lW m::sY::Zo i) [D1 m,(1,uG s)]) else False else False else False else False else ae (PX.exit 0,S.mk 20 [lW m] (SD m)))=(aD [] [] 73 2 (fdH m s i)) ae:=by kernel_rfl
def gFd:S->K (PX×S):=λst ae=> ∃m s,st=fdH m s 0/\m.length<=1000000/\(∀i,i=zt m s->0<=i->ae (.ret,⟨20,[(0,.sl 0 0 m.length),(4,iD i)],[(0,⟨0,some 0,kV false m⟩)]⟩))/\(zt m s= -1->ae (.exit 0,⟨20,[(0,.sl 0 0 m.length)],[(0,⟨0,some 0,kV false m⟩)]⟩))
def iR(bO:List ak):Prop:=dA bO<=1000000
def Z5g(m:List ak)(s:aw):S:=S.mk 20 (lW m::sY::ZN) [D1 m,(1,uG s)]
theorem qjh(m:List ak)(s:aw)(ae:P×List (Nat×En)->Prop):(∃(bO:List ak) (iP:aw),Z5g m s=Z5g bO iP/\iR bO/\(∀(i:Int),i=zt bO iP->(0:Int)<=i->ae (P.d (Zt i),SD bO))/\(zt bO iP=(-1:Int)->ae (Lq,SD bO)))=(aJ [] [(2,ah (aL 73 2) gFd)] 73 [.sl 0 0 m.length,.d (bh s)] [(0,⟨0,some 0,kV false m⟩)]) ae:=by kernel_rfl
abbrev Yx(l out:List ak)(i:Int):S:=⟨35,[(0,bC l),(3,.sl 0 0 out.length),(4,iD i)],[(0,⟨0,none,kV false out⟩)]⟩
def fE(l:List ak):Nat×P:=(0,cS l)
def D2(l:List ak)(i:Int):List P:=[P.d (sI l i)]
theorem qbB(l out:List ak)(i:Int)(ae:PX×S->Prop):(bif qP i l then bif kL i l then bif cK l i then∃(g:ak),Yw l i g/\Zx/\Pe g/\ ∀(e:Int),Yv e g->bif e==(0:Int) then bif kL i l then bif cK l i then∃(m:List ak) (s:aw),kW out::D2 l i=kW m::mP s/\SD out=SD m/\iR m/\ ∀(aI:Int),aI=zt m s->bif NB aI then bif kL i l then bif cK l i then bif Nat.ble (dA out) (eD m)&&aO (Cb out l i) 88 then bif Zj i then ae (PX.normal,S.mk 35 (fE l::(3,P.sl 0 0 (Cb out l i))::ua i) [(0,En.mk 0 none (Obj.arr (34:TypeId) false (List.take (dA out) (cr m)++[D.agg (wB l i)])))]) else False else False else False else False else bif Zj i then ae (PX.normal,S.mk 35 (fE l::(3,kW out)::ua i) (ud m)) else False else False else False else bif Zj i then ae (PX.normal,S.mk 35 (fE l::(3,kW out)::ua i) (ud out)) else False else False else False else ae (PX.exit 0,S.mk 35 [(3,kW out)] (ud out)))=(aD [(72,GK),(73,JY)] [] 40 3 (Yx l out i)) ae:=by kernel_rfl
def qdD:S->K (PX×S):=λst ae=> ∃l,st=Yx l [] 0/\jP l/\ ∀m,m=aC l->ae (.exit 0,⟨35,[(3,.sl 0 0 m.length)],[(0,⟨0,none,kV false m⟩)]⟩)
def Z5l:List (Nat×En):=[(0,LI)]
def SE:List (Nat×P):=(3,ZQ)::JU
theorem qgY(l:List ak)(ae:P×List (Nat×En)->Prop):(∃(au:List ak),S.mk 35 (fE l::SE) Z5l=S.mk 35 (fE au::SE) Z5l/\jP au/\ ∀(m:List ak),m=aC au->ae (kW m,ud m))=(aJ [] [(3,ah (aL 40 3) qdD)] 40 [bC l] []) ae:=by kernel_rfl
theorem ao{p:Prop}{i:Decidable p}{A:Prop}(h1:p)(h2:A):cond (@decide p i) A False:=by rw[zaP h1];exact h2
theorem b7{p:Prop}{i:Decidable p}{A B:Prop}(h1:p->A)(h2: ¬p->B):cond (@decide p i) A B:=by
 by_cases h:p
 ·rw[zaP h];exact h1 h
 rw[zaN h];exact h2 h
theorem bz{p:Prop}{i:Decidable p}{A B:Prop}(h1:p)(h2:A):cond (@decide p i) A B:=by rw[zaP h1];exact h2
theorem kA{p:Prop}{i:Decidable p}{A B:Prop}(h1: ¬p)(h2:B):cond (@decide p i) A B:=by rw[zaN h1];exact h2
theorem Ai{a b:Int}{A B:Prop}(h1:a=b->A)(h2:a≠b->B):cond (a==b) A B:=by
 by_cases h:a=b
 ·rw[show(a==b)=true by simpa using h];exact h1 h
 rw[show(a==b)=false by simpa using h];exact h2 h
theorem EJ:PR.follows .mixedOrders=true:=by kernel_rfl
theorem D3{o:List ak}{g:ak}(h:cE g=false):kK o g=o:=by unfold kK;rw[zal];rw[h];simp
theorem zu{o:List ak}{g:ak}(h:(o.any λx=>x.s==g.s)=true):kK o g=o:=by unfold kK;rw[zal];rw[h];simp
theorem zw{o:List ak}{g:ak}(h:cE g=true)(h2:(o.any λx=>x.s==g.s)=false):kK o g=o++[g]:=by unfold kK;rw[zao ⟨h,h2⟩]
theorem qm{l:List ak}{i:Nat}(h:i<l.length):aC (l.take (i+1))=kK (aC (l.take i)) l[i]:=by rw[zag h,GP]
theorem ct{m n:Nat}(h:m<=1000000)(hn:n<=1000):aO (m+1) n=true:=da (zaG (Nat.mul_le_mul (by omega:m+1<=1000001) hn) (by omega)) (by omega)
theorem cw{α:Type}(f:α->D)(l:List α)(x:α):List.take l.length (l.map f)++[f x]=(l++[x]).map f:=by rw[zah (by simp),zaB];rfl
def wZ(U:List aw)(o:List ak):Prop:= ∀x,x∈U↔(o.any λy=>y.s==x)=true
theorem wZ.nil:wZ [] []:=λx=>by simp
theorem wZ.had{U:List aw}{o:List ak}{x:aw}(h:wZ U o)(hx:x∈U):wZ (x::U) o:=λy=>by
 rw[zaw,h y];constructor
 ·rintro(rfl |h2)
  ·exact(h _).1 hx
  exact h2
 exact .inr
theorem wZ.new{U:List aw}{o:List ak}{g:ak}(h:wZ U o):wZ (g.s::U) (o++[g]):=λy=>by
 rw[zaw,h y,zck,za9];simp only[zdd,List.any_nil,zbU,zaT];constructor
 ·rintro(rfl |h2)
  ·exact .inr rfl
  exact .inl h2
 rintro(h2 |rfl)
 ·exact .inr h2
 exact .inl rfl
theorem A7(n:Int):cx PR 3 (.int .i64 n)=true:=by kernel_rfl
section
variable{X:XF}
theorem Yy:LD X 30 3 (ah (aL 30 3) qdC):=LD.idx (H:=[(51,GK)]) (hk:=[]) (by kernel_rfl) (by kernel_rfl) (.cons qby .nil) .nil
 (A:=List ak) (B:=List ak×List aw×Int) (λl b i=>cnH l b.1 (cM b.2.1) b.2.2 i) (λl=>l.length) (λl i b=>jP l/\b.1=aC (l.take i)/\wZ b.2.1 b.1/\b.2.1.length<=i)
 (λl x=>x=(.exit 0,⟨36,[(3,.sl 0 0 (aC l).length)],[(0,⟨0,none,kV false (aC l)⟩)]⟩))
 (by
  rintro l ⟨o,U,c⟩ i ae h0 bR aY ⟨hs,rfl,hU,NZ⟩ hn ho
  try dsimp only at*
  (rw[<-SC];delta cr kz uF ud Zg fJ my nO sI Z7 Z4X Z4Y xw wB dA Pk Cb eD Pm Z4T Za Z9 Z4S A5 Zn Z4M D0 cS Z4N kW Zj Yv Zx kc ke kg il kh iz oE EI Yw cK kL qP)
  have e1:D.nth (l.map aQ) i.toNat=aQ l[i.toNat]:=ay _ _ _ aY;rw[e1];simp only[cnH,zaa] at hn⊢;have hsg:=hs.2 _ (zas aY);have rT:=qm aY;have lX:=cF (l.take i.toNat);rw[zay] at lX;generalize l[i.toNat]=g at rT hsg;have q5:=hs.1;have t1:D.agg [D.int .i64 (D.aj (D.ar (aQ g) 0)),D.int .i64 (D.aj (D.ar (aQ g) 1))]=bh g.s:=rfl;have v1: ∀n:Int,D.aj (iE n)=n:=λ_=>rfl;have g0:cL (cM U (bh g.s)) (.int .i64 0)=iE (U.count g.s:Int):=ql U g.s;have HM:=zbW (a:=g.s) (l:=U);have u2:=λz=>DZ U g.s z;have u3:=λz=>DY U g.s z;have g1:cL (cM (g.s::U) (bh g.s)) (.int .i64 0)= .int .i64 ((U.count g.s:Int)+1):=by have:=ql (g.s::U) g.s;rw[zcg] at this;exact this
  have AP:(U.count g.s:Int)=0↔ ¬g.s∈U:=by rw[<-zcU];omega
  have hcb:0<=(U.count g.s:Int)/\(U.count g.s:Int)<=1000000:=by have:=hs.1;omega
  generalize (U.count g.s:Int)=cn at g0 u2 u3 g1 AP hcb;rw[t1,g0];simp only[v1];refine zo bR (bu ⟨h0,bR⟩ (aq (cY _) ⟨g,rfl,rfl,hsg,λe he=>y7 (λh1=>bu (by omega) (hn (aC (l.take i.toNat),U,c) ⟨hs,?_,hU,zcW NZ⟩)) λh1=> ?_⟩))
  ·rw[rT,D3];cases hg:cE g with
   |false=>rfl
   |true=>rw[hg] at he;exact absurd he h1
  have hg:cE g=true:=by
   cases hg:cE g with
   |true=>rfl
   |false=>rw[hg,zal (by simp)] at he;omega
  have t2:D.agg [D.int .i64 (D.aj (D.ar (aQ g) 0)),D.int .i64 (D.aj (D.ar (aQ g) 1)),D.int .i64 (D.aj (D.ar (aQ g) 2)),D.sl 1 (D.dy (D.ar (aQ g) 3)),D.int .i64 (D.aj (D.ar (aQ g) 4)),D.int .i64 (D.aj (D.ar (aQ g) 5)),D.sl 18 (D.dy (D.ar (aQ g) 6))]=aQ g:=rfl;refine aq (A7 _) (ao (by omega) ?_);rw[u2,g1,t2,u3];refine aq (A7 _) ?_;simp only[v1,zap,zat,zaF];refine(Ai (λh2=>aq ?_ (ao (by omega) ?_)) λh2=>ao (by omega) (hn (aC (l.take i.toNat),g.s::U,_) ⟨hs,?_,hU.had ?_,zbZ NZ⟩))
  ·rw[zab];exact⟨by simp,ct (by omega) (by omega)⟩
  ·have hx: ¬g.s∈U:=AP.1 (by omega);have AV:((aC (l.take i.toNat)).any λx=>x.s==g.s)=false:=by rw[<-zaX,<-hU g.s];exact hx
   have:=λc':Int=>hn (aC (l.take i.toNat)++[g],g.s::U,c') ⟨hs,by rw[rT,zw hg AV],hU.new,zbZ NZ⟩;rw[cw];simp only[zan,zap,zat,zaF] at this;exact this _
  ·have hx:g.s∈U:=zaM λh=>by have:=AP.2 h;omega
   rw[rT,zu ((hU g.s).1 hx)]
  exact zaM λh=>by have:=AP.2 h;omega)
 (by
  rintro l ⟨o,U,c⟩ i ae hi ⟨hs,rfl,hU,NZ⟩ ho
  try dsimp only at*
  (rw[<-SC];delta cr kz uF ud Zg fJ my nO sI Z7 Z4X Z4Y xw wB dA Pk Cb eD Pm Z4T Za Z9 Z4S A5 Zn Z4M D0 cS Z4N kW Zj Yv Zx kc ke kg il kh iz oE EI Yw cK kL qP)
  simp only[zaa];refine bk (λh=>by omega) λh=>ho _ (λh=>by cases h) ?_;rw[zaj])
 (by rintro s ae ⟨l,rfl,hs,hp⟩;refine⟨l,([],[],0),by rw[DX],⟨hs,rfl,wZ.nil,by simp⟩,?_⟩;rintro x rfl;exact hp _ rfl)
theorem LJ:FD X 30 nE:=FD.mk (H:=[]) (hk:=[(3,ah (aL 30 3) qdC)]) (by kernel_rfl) .nil (.cons Yy .nil) (by
 intro ps R ae hh;obtain⟨l,rfl,rfl,hs,hp⟩:=hh
 (rw[<-qgX];delta cr kz uF ud dA kW NY LI Z7 Z50 eD D0 cS ZQ Z53)
 exact⟨l,rfl,hs,λm hm=>hp m hm⟩)
theorem qdE:LD X 73 2 (ah (aL 73 2) gFd):=LD.find (H:=[]) (hk:=[]) (by kernel_rfl) (by kernel_rfl) .nil .nil
 (A:=List ak×aw) (λa k=>fdH a.1 a.2 k) (λa=>a.1) (λa _ g=>g.s==a.2) (λa=>a.1.length<=1000000)
 (λa i=>(.ret,⟨20,[(0,.sl 0 0 a.1.length),(4,iD i)],[(0,⟨0,some 0,kV false a.1⟩)]⟩)) (λa=>(.exit 0,⟨20,[(0,.sl 0 0 a.1.length)],[(0,⟨0,some 0,kV false a.1⟩)]⟩)) (λ_ _ h=>by cases h) (λ_ h=>by cases h)
 (by
  rintro⟨m,s⟩ i ae hi hC h0 bR ht hn
  try dsimp only at*
  (rw[<-qbA];delta gV gW uG cr D1 Zn Zo iQ sY Za Z9 Zj SD Zt nP A6 dA kW lW Zg fJ cK eD iA gX ki xx)
  have e1:D.nth (m.map aQ) i.toNat=aQ m[i.toNat]:=ay _ _ _ hi;rw[e1];refine bz bR (ao ⟨h0,bR⟩ (ao (by simpa using hi) (aq (cY _) ?_)));rw[show(D.aj (D.ar (aQ m[i.toNat]) 0)==s.1&&(D.aj (D.ar (aQ m[i.toNat]) 1)==s.2&&true))=(m[i.toNat].s==s) from DM m[i.toNat].s s];exact az (λh=>ht h) λh=>ao (by omega) (hn h))
 (by
  rintro⟨m,s⟩ i ae hC hi hp
  try dsimp only at*
  (rw[<-qbA];delta gV gW uG cr D1 Zn Zo iQ sY Za Z9 Zj SD Zt nP A6 dA kW lW Zg fJ cK eD iA gX ki xx)
  exact b7 (λh=>by omega) λh=>hp)
 (by
  rintro st ae ⟨m,s,rfl,hl,h1,h2⟩;refine⟨(m,s),rfl,hl,λi hi h0 ht hb=>h1 i ?_ h0,λh=>h2 ?_⟩
  ·rw[zt,GG hi ht hb];omega
  exact Lu h)
theorem Yz:FD X 73 JY:=FD.mk (H:=[]) (hk:=[(2,ah (aL 73 2) gFd)]) (by kernel_rfl) .nil (.cons qdE .nil) (by
 intro ps R ae hh;obtain⟨m,s,rfl,rfl,hm,hp⟩:=hh
 (rw[<-qjh];delta Lq cr D1 SD Zt dA iR gV gW uG Z7 ZN iQ sY kW lW Z5g)
 exact⟨m,s,rfl,hm,λi hi _=>hp i hi,λh=>hp _ h.symm⟩)
theorem YA:LD X 40 3 (ah (aL 40 3) qdD):=LD.idx (H:=[(72,GK),(73,JY)]) (hk:=[]) (by kernel_rfl) (by kernel_rfl) (.cons qdB (.cons Yz .nil)) .nil
 (A:=List ak) (B:=List ak) (λl o i=>Yx l o i) (λl=>l.length) (λl i o=>jP l/\o=aC (l.take i))
 (λl x=>x=(.exit 0,⟨35,[(3,.sl 0 0 (aC l).length)],[(0,⟨0,none,kV false (aC l)⟩)]⟩))
 (by
  rintro l o i ae h0 bR aY ⟨hs,rfl⟩ hn ho
  try dsimp only at*
  (rw[<-qbB];delta cr kz uF ud Zg fJ xw my nO wB Zn ua cS fE Za Z9 Zj dA Cb eD NB iR D1 SD gV gW qe mP sI D2 kW Yv Zx kc ke kg il kh iz oE EI Yw cK kL qP)
  have e1:D.nth (l.map aQ) i.toNat=aQ l[i.toNat]:=ay _ _ _ aY;rw[e1];simp only[zaa,zap,zat,zaF];have hsg:=hs.2 _ (zas aY);have rT:=qm aY;have lX:=cF (l.take i.toNat);rw[zay] at lX;generalize l[i.toNat]=g at rT hsg;have q5:=hs.1;have t2:D.agg [D.int .i64 (D.aj (D.ar (aQ g) 0)),D.int .i64 (D.aj (D.ar (aQ g) 1)),D.int .i64 (D.aj (D.ar (aQ g) 2)),D.sl 1 (D.dy (D.ar (aQ g) 3)),D.int .i64 (D.aj (D.ar (aQ g) 4)),D.int .i64 (D.aj (D.ar (aQ g) 5)),D.sl 18 (D.dy (D.ar (aQ g) 6))]=aQ g:=rfl;refine bz bR (ao ⟨h0,bR⟩ (aq (cY _) ⟨g,rfl,rfl,hsg,λe he=>Ai (λh1=>ao ⟨h0,bR⟩ (aq (cY _) ⟨aC (l.take i.toNat),g.s,rfl,rfl,by omega,λk hk=>b7 (λh2=>ao ⟨h0,bR⟩ (aq (cY _) (aq ?_ (ao (by omega) ?_)))) λh2=>ao (by omega) (hn _ ⟨hs,?_⟩)⟩)) λh1=>ao (by omega) (hn _ ⟨hs,?_⟩)⟩))
  ·rw[zab];exact⟨by simp,ct (by omega) (by omega)⟩
  ·have hg:cE g=true:=by
    cases hg:cE g with
    |true=>rfl
    |false=>rw[hg,zal (by simp)] at he;omega
   have AV:((aC (l.take i.toNat)).any λx=>x.s==g.s)=false:=(zm _ _).1 (by rw[hk] at h2;exact h2);have:=hn (aC (l.take i.toNat)++[g]) ⟨hs,by rw[rT,zw hg AV]⟩;rw[t2,cw];simp only[Yx,zan,zap,zat,zaF] at this;exact this
  ·rw[rT,zu];rw[<-zcx];intro h;exact h2 (by rw[hk];exact(zm _ _).2 h)
  rw[rT,D3];cases hg:cE g with
  |false=>rfl
  |true=>rw[hg,zao rfl] at he;exact absurd he h1)
 (by
  rintro l o i ae hi ⟨hs,rfl⟩ ho
  try dsimp only at*
  (rw[<-qbB];delta cr kz uF ud Zg fJ xw my nO wB Zn ua cS fE Za Z9 Zj dA Cb eD NB iR D1 SD gV gW qe mP sI D2 kW Yv Zx kc ke kg il kh iz oE EI Yw cK kL qP)
  simp only[zaa];refine b7 (λh=>by omega) λh=>ho _ (λh=>by cases h) ?_;rw[zaj])
 (by rintro s ae ⟨l,rfl,hs,hp⟩;refine⟨l,[],rfl,⟨hs,rfl⟩,?_⟩;rintro x rfl;exact hp _ rfl)
theorem qn:FD X 40 nE:=FD.mk (H:=[]) (hk:=[(3,ah (aL 40 3) qdD)]) (by kernel_rfl) .nil (.cons YA .nil) (by
 intro ps R ae hh;obtain⟨l,rfl,rfl,hs,hp⟩:=hh
 (rw[<-qgY];delta cr kz uF ud dA kW LI Z5l Z7 JU ZQ SE cS fE)
 exact⟨l,rfl,hs,λm hm=>hp m hm⟩)
end
abbrev zx:=S×(PX×S)->K (PX×S×(PX×S))
noncomputable def LK(H HN:List (FuncId×bm))(f id:Nat):S->(PX×S->Prop)->Prop:=dD PR (runK PR yX qK H 60 60) HN (aL f) [] (qK f) (nw PR f id).asg
noncomputable def D4(H HN:List (FuncId×bm))(f id:Nat):S->(PX×S->Prop)->Prop:=dD PR (runK PR yX qK H 60 60) HN (aL f) [] (qK f) (nw PR f id).body
noncomputable def xy(H HN:List (FuncId×bm))(hk:FuncId->Nat->List (Nat×zx))(f id base:Nat)(keep:Option (List Nat×List Nat))(s:S):K (PX×S):=
 Jd PR (runK PR yX qK H 60 60) (nw PR f id).ps.toList base keep (LK H HN f id) (D4 H HN f id) hk qK (nw PR f id).g s
noncomputable def mz(H HN:List (FuncId×bm))(f id base:Nat)(keep:Option (List Nat×List Nat))(yt fi Aj:Nat)(y:S×(PX×S)):K (PX×S×(PX×S)):=
 Xs (eL PR (runK PR yX qK H 60 60) yt (kG (nw PR f id).ps.toList base keep (LK H HN f id) (D4 H HN f id)) [] (qK fi) (bB PR fi Aj)) (aL fi Aj) y
def LY(w0:World)(f id yt fi Aj:Nat)(h:zx):Prop:= ∀(B:oo PR) (Ti:Tg),Setup B Ti yt w0 (nw PR f id).ps (nw PR f id).asg (nw PR f id).body-> ∀y ae,h y ae->qJ B Ti (.loop (bB PR fi Aj)) y.2 y.1 ae
noncomputable def vu(f id:Nat):Bool:=(aS (nw PR f id).asg).isEmpty&&(aS (nw PR f id).body).isEmpty&&(bV (nw PR f id).asg).isEmpty&&(bV (nw PR f id).body).isEmpty&&cd (qK f) (nw PR f id).asg&&cd (qK f) (nw PR f id).body
theorem GU{X:XF}{w0:World}(hX:dC PR w0 X.cf){H HN:List (FuncId×bm)}(hdr:PR.follows .mixedOrders=true)(hH:HD X H)(oV:LF w0 HN){f id:Nat}(wI:vu f id=true)(val:Nat->Value)(lo:Nat)(s:S)(ae:PX×S->Prop)(hp:LK H HN f id s ae):
  TW PR ⟨val,w0,lo,false⟩ (nw PR f id).asg s ae:=by
 simp only[vu,zab] at wI;exact ew (kp:=Ji X) (T:=⟨val,w0,lo,false⟩) oV.get (zs hH) hX hdr (kp1:=aL f) _ wI.1.2 (λd hd=>by rw[zbO.1 wI.1.1.1.1.1] at hd;cases hd) (λx hx=>by rw[zbO.1 wI.1.1.1.2] at hx;cases hx) _ _ hp
theorem Cc{X:XF}{w0:World}(hX:dC PR w0 X.cf){H HN:List (FuncId×bm)}(hdr:PR.follows .mixedOrders=true)(hH:HD X H)(oV:LF w0 HN){f id:Nat}(wI:vu f id=true)(val:Nat->Value)(lo:Nat)(s:S)(ae:PX×S->Prop)(hp:D4 H HN f id s ae):
  TW PR ⟨val,w0,lo,false⟩ (nw PR f id).body s ae:=by
 simp only[vu,zab] at wI;exact ew (kp:=Ji X) (T:=⟨val,w0,lo,false⟩) oV.get (zs hH) hX hdr (kp1:=aL f) _ wI.2 (λd hd=>by rw[zbO.1 wI.1.1.1.1.2] at hd;cases hd) (λx hx=>by rw[zbO.1 wI.1.1.2] at hx;cases hx) _ _ hp
theorem FN.mk{X:XF}{w0:World}(hX:dC PR w0 X.cf){H HN:List (FuncId×bm)}(hdr:PR.follows .mixedOrders=true)(hH:HD X H)(oV:LF w0 HN){f id base:Nat}{keep:Option (List Nat×List Nat)}(wI:vu f id=true){hk:FuncId->Nat->List (Nat×zx)}
  (hu: ∀fi yt h Aj,lk (hk fi yt) Aj=some h->uniq PR fi=true/\LY w0 f id yt fi Aj h) {g:S->K (PX×S)} (hg: ∀s ae,g s ae->xy H HN hk f id base keep s ae):FN w0 f id g:=by
 intro val lo s ae hp;refine TW.rangeFunc (kp:=Ji X) (T:=⟨val,w0,lo,true⟩) (zs hH) hX hdr rfl Nu (λv l s ae hp=>GU hX hdr hH oV wI v l s ae hp) (λv l s ae hp=>Cc hX hdr hH oV wI v l s ae hp) (hk:=hk) ?_ (hg s ae hp);intro fi fn c gj hc d hd yt h hh B Ti hs y ae hp;obtain⟨h1,h2⟩:=hu fi yt h _ hh;have e:bB PR fi (Code.sV d)=d:=by unfold uniq at h1;rw[gj] at h1;simp only[hc] at h1;unfold bB;rw[gj];simp only[hc,jF _ (dM _ h1) hd,zcf]
 have:=h2 B Ti hs y ae hp;rwa [e] at this
theorem LY.par{X:XF}{w0:World}(hX:dC PR w0 X.cf){H HN:List (FuncId×bm)}(hdr:PR.follows .mixedOrders=true)(hH:HD X H)(oV:LF w0 HN){f id base:Nat}{keep:Option (List Nat×List Nat)}{yt fi Aj:Nat}(wI:vu f id=true)(hc:cd (qK fi) (bB PR fi Aj)=true)(rH:(aS (bB PR fi Aj)).isEmpty=true){g:zx}
  {A B:Type} (hd:A->B->S×(PX×S)) (Inv:A->B->Prop) (mu:A->B->Nat) (Out:A->PX×S×(PX×S)->Prop)
  (hr: ∀a b,Inv a b->mz H HN f id base keep yt fi Aj (hd a b) (Jf (mu a b) (λm y=> ∃b',y=hd a b'/\Inv a b'/\m=mu a b') (Out a)))
  (hg: ∀y ae,g y ae-> ∃a b,y=hd a b/\Inv a b/\ ∀x,Out a x->ae x):LY w0 f id yt fi Aj (ey (aL fi Aj) g):=by
 intro Be Ti hs y ae hp;unfold ey at hp;cases hh:cA (aL fi Aj) y.1 with
 |none=>simp only[hh] at hp
 |some s0=>
  simp only[hh] at hp;obtain⟨a,b,h0,h1,h2⟩:=hg (s0,y.2) ae hp;refine qJ.mono (qJ.loop (keep:=aL fi Aj) (I:=λm s c=> ∃b',(s,c)=hd a b'/\Inv a b'/\m=mu a b') (O:=Out a) (hs.w0i.trans hs.w0b.symm) (λn s c hI=> ?_) hh ⟨b,h0,h1,rfl⟩) h2;obtain⟨b',h3,h4,rfl⟩:=hI;have:=hr a b' h4;rw[<-h3] at this;unfold mz at this;refine qJ.mono (gP (B:=Be) (Ti:=Ti) (kp:=Ji X) (zs hH) (by rw[hs.w0i];exact hX) hdr (hs.w0i.trans hs.w0b.symm) hs.PY hs.yv hs.lp (asg:=LK H HN f id) (body:=D4 H HN f id) (base:=base) (keep:=keep)
   (λv l s ae hp=>by rw[hs.w0b,hs.asg];exact GU hX hdr hH oV wI v l s ae hp) (λv l s ae hp=>by rw[hs.w0b,hs.body];exact Cc hX hdr hH oV wI v l s ae hp)
   (bB PR fi Aj) hc (λd hd=>by rw[zbO.1 rH] at hd;cases hd) (s,c) _ (by rw[hs.ps];exact this)) ?_
  rintro⟨e,s1,c1⟩ hx;cases e with
  |normal=>obtain⟨s2,h4,m,h5,h6⟩:=KW.dW (p:=λs2=>cA (aL fi Aj) s1=some s2) (λ_ h=>h) _ hx;exact⟨s2,h4,m,h5,h6⟩
  |exit i=>obtain⟨s2,h4,h5⟩:=KW.dW (p:=λs2=>dJ (aL fi Aj) s1=some s2) (λ_ h=>h) _ hx;exact⟨s2,h4,h5⟩
  |ret=>obtain⟨s2,h4,h5⟩:=KW.dW (p:=λs2=>dJ (aL fi Aj) s1=some s2) (λ_ h=>h) _ hx;exact⟨s2,h4,h5⟩
variable{X:XF}
theorem LN.idx{w0:World}(hX:dC PR w0 X.cf){H HN:List (FuncId×bm)}{hk:List (Nat×(S->K (PX×S)))}{f id:Nat}{g:S->K (PX×S)}(hdr:PR.follows .mixedOrders=true)(hu:uniq PR f=true)(hc:cd (qK f) (bB PR f id)=true)(hnr:(bV (bB PR f id)).isEmpty=true)(hH:HD X H)(oV:LF w0 HN)(hl:Yt w0 f hk)
  {A B:Type} (hd:A->B->Int->S) (len:A->Nat) (Inv:A->Nat->B->Prop) (Out:A->PX×S->Prop)
  (hr: ∀a b (k:Int) ae,0<=k->k<len a->k.toNat<len a->Inv a k.toNat b->(∀b',Inv a (k.toNat+1) b'->ae (.normal,hd a b' (k+1)))->(∀x,x.1≠ .normal->Out a x->ae x)->fb H HN hk f id (hd a b k) ae)
  (hx: ∀a b (k:Int) ae,k=len a->Inv a (len a) b->(∀x,x.1≠ .normal->Out a x->ae x)->fb H HN hk f id (hd a b k) ae)
  (hg: ∀s ae,g s ae-> ∃a b,s=hd a b 0/\Inv a 0 b/\ ∀x,Out a x->ae x):LN w0 f id (ah (aL f id) g):=
 LN.par hX hdr hu hc hnr hH oV hl (A:=A) (B:=B×Int) (λa b=>hd a b.1 b.2) (λa b=>0<=b.2/\b.2.toNat<=len a/\Inv a b.2.toNat b.1) (λa b=>(len a-b.2).toNat) Out
  (by
   rintro a ⟨b,k⟩ ⟨h1,h2,h3⟩;dsimp only at*
   have bt: ∀x:PX×S,x.1≠ .normal->Out a x->roundPost ((len a-k).toNat) (λm s=> ∃b':B×Int,s=hd a b'.1 b'.2/\(0<=b'.2/\b'.2.toNat<=len a/\Inv a b'.2.toNat b'.1)/\m=(len a-b'.2).toNat) (Out a) x:=by
    rintro⟨e,s⟩ dP hx;cases e with
    |normal=>exact absurd rfl dP
    |exit i=>exact hx
    |ret=>exact hx
   by_cases hk:k<len a
   ·refine hr a b k _ h1 hk (by omega) h3 (λb' hb=> ?_) bt;exact⟨((len a:Int)-(k+1)).toNat,by omega,(b',k+1),rfl,⟨by show 0<=k+1;omega,by show(k+1).toNat<=len a;omega,by show Inv a (k+1).toNat b';rw[show(k+1).toNat=k.toNat+1 by omega];exact hb⟩,rfl⟩
   have e:k=len a:=by omega
   refine hx a b k _ e ?_ bt;have:k.toNat=len a:=by omega
   rwa [this] at h3)
  (by intro s ae hp;obtain⟨a,b,h1,h2,h3⟩:=hg s ae hp;exact⟨a,(b,0),h1,⟨zbz _,by simp,h2⟩,h3⟩)
theorem sJ{α:Type}(lt:α->α->Bool)(l:List α)(a:α):cp lt (l++[a])=cJ lt (cp lt l) a:=by simp[cp]
theorem jK{α:Type}(lt:α->α->Bool)(o:List α)(a:α):(cJ lt o a).length=o.length+1:=by rw[(gQ o a).length_eq];simp
theorem kX{α:Type}(lt:α->α->Bool)(l:List α):(cp lt l).length=l.length:=(bZ l).length_eq
def wC{α:Type}(o:List α)(k:Nat)(x y:α):List α:=(o.set k y).set (k-1) x
theorem N0{α:Type}(o:List α)(k:Nat)(x y:α):(wC o k x y).length=o.length:=by simp[wC]
theorem jg{α:Type}(f:α->D)(o:List α)(k:Nat)(x y:α):(((o.map f).set k (f y)).set (k-1) (f x))=(wC o k x y).map f:=by simp[wC,zb1]
theorem SF{α:Type}(pre oI:List α)(x y:α):wC (pre++[y]++x::oI) (pre.length+1) x y=pre++x::(y::oI):=by unfold wC;have e:pre++[y]++x::oI=(pre++[y])++x::oI:=rfl;rw[show(pre++[y]++x::oI).set (pre.length+1) y=pre++[y]++y::oI by rw[zcH _ _ (by simp)];simp];rw[za0,zcH _ _ (by simp)];simp
variable{X:XF}
theorem LD.ins{H:List (FuncId×bm)}{hk:List (Nat×(S->K (PX×S)))}{f id:Nat}{g:S->K (PX×S)}(hu:uniq PR f=true)(hc:cd (qK f) (bB PR f id)=true)(hH:HD X H)(hl:Rq X f hk)
  {A α:Type} (hd:A->List α->Int->S) (lt:α->α->Bool) (N:A->Nat) (C:A->Prop) (ex:A->List α->PX×S) (dP: ∀a o,(ex a o).1≠ .normal)
  (hr: ∀a o (k:Int) ae,C a->0<=k->o.length=N a->N a<=1000001->(dO:k.toNat<o.length)->(k=0->ae (ex a o))->(0<k->lt o[k.toNat] (o[k.toNat-1]'(by omega))=false->ae (ex a o))->
   (0<k->lt o[k.toNat] (o[k.toNat-1]'(by omega))=true->ae (.normal,hd a (wC o k.toNat o[k.toNat] (o[k.toNat-1]'(by omega))) (k-1)))->aD H hk f id (hd a o k) ae)
  (hg: ∀s ae,g s ae-> ∃(a:A) (o:List α) (x:α) (k:Int),s=hd a (o++[x]) k/\k=o.length/\C a/\(o.length+1=N a/\o.length<=1000000)/\ae (ex a (cJ lt o x))):LD X f id (ah (aL f id) g):=
 LD.par hu hc hH hl (A:=A×List α×α) (B:=List α×List α×Int) (λa b=>hd a.1 (b.1++a.2.2::b.2.1) b.2.2)
  (λa b=>(C a.1/\b.1.length+b.2.1.length+1=N a.1)/\b.2.2=b.1.length/\b.1.length+b.2.1.length<=1000000/\(oC lt a.2.2 b.1.reverse).reverse++b.2.1=cJ lt a.2.1 a.2.2) (λ_ b=>b.1.length) (λa x=>x=ex a.1 (cJ lt a.2.1 a.2.2))
  (by
   rintro⟨a,o,x⟩ ⟨pre,oI,k⟩ ⟨⟨h1,hN⟩,h2,h3,h4⟩;dsimp only at*
   have bt: ∀y,y=ex a (cJ lt o x)->roundPost pre.length (λm s=> ∃b':List α×List α×Int,s=hd a (b'.1++x::b'.2.1) b'.2.2/\((C a/\b'.1.length+b'.2.1.length+1=N a)/\b'.2.2=b'.1.length/\b'.1.length+b'.2.1.length<=1000000/\(oC lt x b'.1.reverse).reverse++b'.2.1=cJ lt o x)/\m=b'.1.length) (λy=>y=ex a (cJ lt o x)) y:=by
    rintro⟨e,s⟩ he;have hn:=dP a (cJ lt o x);rw[<-he] at hn;cases e with
    |normal=>exact absurd rfl hn
    |exit i=>exact he
    |ret=>exact he
   have dO:k.toNat=pre.length:=by omega
   have hlen:(pre++x::oI).length=pre.length+oI.length+1:=by simp;omega
   have hx:(pre++x::oI)[k.toNat]'(by omega)=x:=by simp[dO]
   refine hr a (pre++x::oI) k _ h1 (by omega) (by omega) (by omega) (by omega) (λhz=>bt _ ?_) (λhp bG=>bt _ ?_) λhp bG=> ?_
   ·have:pre=[]:=zau (by omega);subst this;rw[<-h4];simp[oC]
   ·obtain⟨p,y,rfl⟩: ∃p y,pre=p++[y]:=by
     rcases zcI pre with h | ⟨p,y,h⟩
     ·subst h;simp at h2;omega
     exact⟨p,y,by simpa using h⟩
    have hy:(p++[y]++x::oI)[k.toNat-1]'(by omega)=y:=by simp[dO]
    rw[hx,hy] at bG;rw[<-h4];simp[oC,bG]
   obtain⟨p,y,rfl⟩: ∃p y,pre=p++[y]:=by
    rcases zcI pre with h | ⟨p,y,h⟩
    ·subst h;simp at h2;omega
    exact⟨p,y,by simpa using h⟩
   have hy:(p++[y]++x::oI)[k.toNat-1]'(by omega)=y:=by simp[dO]
   have hsw:wC (p++[y]++x::oI) k.toNat x y=p++x::(y::oI):=by rw[dO,zan];exact SF p oI x y
   have Gf:(p++[y]).length=p.length+1:=by simp
   rw[hx,hy] at bG⊢;refine⟨p.length,by omega,(p,y::oI,k-1),by rw[hsw],⟨⟨h1,by show p.length+(y::oI).length+1=N a;simp only[zap];omega⟩,by show k-1=(p.length:Int);omega,by show p.length+(y::oI).length<=1000000;simp only[zap];omega,?_⟩,rfl⟩;show(oC lt x p.reverse).reverse++y::oI=cJ lt o x;rw[<-h4];simp[oC,bG])
  (by intro s ae hp;obtain⟨a,o,x,k,h1,h2,h3,⟨h6,h4⟩,h5⟩:=hg s ae hp;refine⟨(a,o,x),(o,[],k),h1,⟨⟨h3,by simpa using h6⟩,h2,by simpa using h4,by simp[cJ]⟩,?_⟩;rintro y rfl;exact h5)
def bI(h:Hd):D:= .agg [iE h.1.1,iE h.1.2,iE h.2.1,iE h.2.2]
abbrev arH(z:Bool)(l:List Hd):Obj:= .arr 132 z (l.map bI)
abbrev w5(z:Bool)(l:List Hd):Obj:= .arr 139 z (l.map bI)
abbrev qo(l:List Hd):P:= .d (.sl 4 (l.map bI))
abbrev w6(l:List Hd):P:=gh (l.map (·.1))
abbrev w7(l:List Hd):P:=gh (l.map (·.2))
abbrev ehH(l out:List Hd)(f:D->Option D)(c i:Int):S:=⟨50,[(0,w6 l),(1,w7 l),(5,.sl 0 0 out.length),(6,.mp 1 0),(14,iD (min (((l.map (·.1)).map bh).length:Int) (((l.map (·.2)).map bh).length:Int))),(15,iD i)],[(0,⟨0,none,arH false out⟩),(1,⟨0,none,mpS f c⟩)]⟩
def SG(out:List Hd):En:=En.mk 0 none (Obj.arr (132:TypeId) false (List.map bI out))
def fg(out:List Hd):Nat:=List.length out
def ra(out:List Hd):P:=P.sl 0 0 (fg out)
def oJ(l:List Hd):List D:=List.map bh (List.map (λ(x:Hd)=>Prod.fst x) l)
def Z5q(l:List Hd)(i:Int):D:=D.int .i64 (D.aj (D.ar (D.nth (oJ l) (Zg i)) 0))
def SH(l:List Hd)(i:Int):D:=D.agg [Z5q l i,D.int .i64 (D.aj (D.ar (D.nth (oJ l) (Zg i)) 1))]
def Z5A(l:List Hd)(i:Int):D:=D.agg [Z5q l i,D.int .i64 (D.aj (D.ar (D.nth (oJ l) (Zg i)) (0+1)))]
def Z5B(l:List Hd)(i:Int)(f:D->Option D)(c:Int):List (Nat×En):=[(1,En.mk 0 none (Obj.map 30 (λ(k':D)=>bif D.oO (Z5A l i) k' then some (D.int .i64 (D.aj (cL (f (Z5A l i)) Z7)+(1:Int))) else df (Z5A l i) (cL (f (Z5A l i)) Z7) f k') (bif Option.isSome (f (SH l i)) then c else c+(1:Int)) false))]
def D5(out:List Hd):List D:=List.take (fg out) (List.map bI out)
def qQ(l:List Hd):List D:=List.map bh (List.map (λ(x:Hd)=>Prod.snd x) l)
def Wa(l:List Hd):Int:=min (↑(List.length (oJ l)):Int) (↑(List.length (qQ l)):Int)
def Z5y(l:List Hd)(i:Int):List (Nat×P):=[(6,P.mp 1 0),(14,P.d (D.int .i64 (Wa l))),(15,P.d (Zn i))]
def LL(l:List Hd):Nat×P:=(1,P.d (D.sl 2 (qQ l)))
def LM(l:List Hd):Nat×P:=(0,P.d (D.sl 2 (oJ l)))
def Z5v(l:List Hd)(i:Int):List D:=[D.agg [Z5q l i,D.int .i64 (D.aj (D.ar (D.nth (oJ l) (Zg i)) 1)),D.int .i64 (D.aj (D.ar (D.nth (qQ l) (Zg i)) 0)),D.int .i64 (D.aj (D.ar (D.nth (qQ l) (Zg i)) 1))]]
def rU(out:List Hd):Nat:=List.length (List.map bI out)
def Z5s(l:List Hd)(i:Int)(f:D->Option D):D:=cL (df (SH l i) (D.int .i64 (D.aj (cL (f (SH l i)) Z7)+(1:Int))) (df (SH l i) (cL (f (SH l i)) Z7) f) (SH l i)) Z7
def Z5p(i:Int)(l:List Hd):Bool:=decide ((0:Int)<=i/\i<(↑(List.length (oJ l)):Int))
theorem qbC(l out:List Hd)(f:D->Option D)(c i:Int)(ae:PX×S->Prop):(bif decide (i<Wa l) then bif Z5p i l then bif cx PR (30:TypeId) (D.nth (oJ l) (Zg i)) then bif cx PR (3:TypeId) (cL (f (SH l i)) Z7) then bif decide (Z9<=D.aj (cL (f (SH l i)) Z7)+(1:Int)/\D.aj (cL (f (SH l i)) Z7)+(1:Int)<=Za) then bif Z5p i l then bif cx PR (30:TypeId) (D.nth (oJ l) (Zg i)) then bif cx PR (3:TypeId) (Z5s l i f) then bif D.aj (Z5s l i f)==(1:Int) then bif Z5p i l then bif cx PR (30:TypeId) (D.nth (oJ l) (Zg i)) then bif decide ((0:Int)<=i/\i<(↑(List.length (qQ l)):Int)) then bif cx PR (30:TypeId) (D.nth (qQ l) (Zg i)) then bif Nat.ble (fg out) (rU out)&&aO (fg out+List.length (Z5v l i)) 32 then bif Zj i then ae (PX.normal,S.mk 50 (LM l::LL l::(5,P.sl 0 0 (fg out+List.length (Z5v l i)))::Z5y l i) ((0,En.mk 0 none (Obj.arr (132:TypeId) false (D5 out++Z5v l i)))::Z5B l i f c)) else False else False else False else False else False else False else bif Zj i then ae (PX.normal,S.mk 50 (LM l::LL l::(5,ra out)::Z5y l i) ((0,SG out)::Z5B l i f c)) else False else False else False else False else False else False else False else False else ae (PX.exit 0,S.mk 50 [(5,ra out)] [(0,SG out)]))=(aD [] [] 68 3 (ehH l out f c i)) ae:=by kernel_rfl
def gEh:S->K (PX×S):=λst ae=> ∃l,st=ehH l [] (λ_=>none) 0 0/\l.length<=1000000/\ ∀m,m=sE l->ae (.exit 0,⟨50,[(5,.sl 0 0 m.length)],[(0,⟨0,none,arH false m⟩)]⟩)
def qji:bm:=λps R ae=> ∃a b:Hd,ps=[.d (bI a),.d (bI b)]/\R=[]/\ae (iD (qc a.1.1 a.1.2 b.1.1 b.1.2),[])
def Z5E(a:Hd):P:=P.d (D.agg [D.int .i64 (Prod.fst (Prod.fst a)),D.int .i64 (Prod.snd (Prod.fst a))])
theorem qgZ(a b:Hd)(ae:P×List (Nat×En)->Prop):(∃(t:Int) (r:Int) (t':Int) (r':Int),[Z5E a,Z5E b]=Jv t r t' r'/\Zx/\ae (P.d (D.int .i64 (qc t r t' r')),[]))=(aJ [(66,u7)] [] 103 [.d (bI a),.d (bI b)] []) ae:=by kernel_rfl
def JZ:bm:=Sz 103 132 bI (λh:Hd=>h.1) (λa b=>l7 a b)
def Z5H(m:List Hd):List (Nat×En):=[(0,En.mk 0 (some 0) (Obj.arr (132:TypeId) false (List.map bI m)))]
def mQ(au:List Hd):Prop:=fg au<=1000000
def Z5F(l:List Hd):S:=S.mk 50 [LM l,LL l,(5,ZQ),(6,P.mp 1 0),(14,P.d (D.int .i64 (Wa l))),(15,P.d Z7)] [(0,En.mk 0 none (Obj.arr (132:TypeId) false [])),(1,NY)]
theorem qjj(l:List Hd)(ae:P×List (Nat×En)->Prop):(∃(au:List Hd),Z5F l=Z5F au/\mQ au/\ ∀(m:List Hd),m=sE au-> ∃(l:List Hd),[ra m,P.fn (103:FuncId) []]=[ra l,P.fn (103:FuncId) []]/\Z5H m=Z5H l/\mQ l/\ ∀(l':List Hd),List.Perm l' l->List.Pairwise (λ(a b:Hd)=>l7 (Prod.fst b) (Prod.fst a)=false) l'->ae (ra m,[(0,SG l')]))=(aJ [(102,JZ)] [(3,ah (aL 68 3) gEh)] 68 [w6 l,w7 l] []) ae:=by kernel_rfl
def zy:bm:=λps R ae=> ∃l,ps=[w6 l,w7 l]/\R=[]/\l.length<=1000000/\ ∀m,m=wY l->ae (.sl 0 0 m.length,[(0,⟨0,none,arH false m⟩)])
abbrev er1(l m:List Hd)(x:aw)(f:D->Option D)(c i:Int):S:=⟨59,[(0,w6 l),(1,w7 l),(5,.ref 0 0 0),(6,.ref 1 0 0),(10,.mp 2 0),(19,.sl 3 0 m.length),(20,iD (m.length:Int)),(21,iD i)],[(0,⟨0,none,.box 30 [iD x.1,iD x.2]⟩),(1,⟨0,none,.box 30 [iD 0,iD 0]⟩),(2,⟨0,none,mpS f c⟩),(3,⟨0,none,arH false m⟩)]⟩
def rb:En:=En.mk 0 none (Obj.box (30:TypeId) (P.d Z7::mr))
def xA(x:aw):Nat×En:=(0,uG x)
def Z5W(x:aw)(f:D->Option D)(c:Int):List (Nat×En):=[xA x,(1,rb),(2,A5 f c)]
def sK(m:List Hd)(i:Int):D:=D.nth (List.map bI m) (Zg i)
def D6(m:List Hd)(i:Int):Int:=D.aj (D.ar (sK m i) 1)
def A8(m:List Hd)(i:Int):Int:=D.aj (D.ar (sK m i) 0)
def YB(m:List Hd)(i:Int):D:=D.agg [D.int .i64 (A8 m i),D.int .i64 (D6 m i)]
def Z5T:Nat:=0+1+1+1
def sZ(m:List Hd):Int:=(↑(fg m):Int)
def SI:Nat×P:=(10,P.mp 2 0)
def SJ:Nat×P:=(6,iQ)
def zz:Nat×P:=(5,bT)
def D7(i:Int)(m:List Hd):Bool:=decide (Zg i<rU m)
def D8(i:Int)(m:List Hd):Bool:=decide ((0:Int)<=i/\i<sZ m)
def Pn(i:Int)(m:List Hd):Bool:=decide (i<sZ m)
theorem SK(l m:List Hd)(x:aw)(f:D->Option D)(c i:Int)(ae:PX×S->Prop):(bif Pn i m then bif D8 i m then bif D7 i m then bif cx PR (132:TypeId) (sK m i) then bif Zj i then ae (PX.normal,S.mk 59 [LM l,LL l,zz,SJ,SI,(19,P.sl 3 0 (fg m)),(20,P.d (D.int .i64 (sZ m))),(21,P.d (Zn i))] [xA x,(1,rb),(2,En.mk 0 none (Obj.map 30 (λ(k':D)=>bif D.oO (D.agg [D.int .i64 (A8 m i),D.int .i64 (D.aj (D.ar (sK m i) (0+1)))]) k' then some (D.agg [D.int .i64 (A8 m i),D.int .i64 (D.aj (D.ar (sK m i) (0+1))),D.int .i64 (D.aj (D.ar (sK m i) (0+1+1))),D.int .i64 (D.aj (D.ar (sK m i) Z5T))]) else f k') (bif Option.isSome (f (YB m i)) then c else c+(1:Int)) false)),(3,SG m)]) else False else False else False else False else ae (PX.exit 0,S.mk 59 [LM l,LL l,zz,SJ,SI] (Z5W x f c)))=(aD [] [] 37 4 (er1 l m x f c i)) ae:=by kernel_rfl
abbrev qdF(l out:List Hd)(had:Bool)(i k:Int):S:=⟨80,[(0,qo l),(3,.sl 0 0 out.length),(4,iD i),(5,.d (.bool had)),(6,iD k)],[(0,⟨0,none,w5 false out⟩)]⟩
def Po(i:Int)(l:List Hd):Bool:=decide ((0:Int)<=i/\i<(↑(rU l):Int))
noncomputable def wE(out:List Hd)(k:Int):Bool:=cx PR (139:TypeId) (sK out k)
def GV(out:List Hd):En:=En.mk 0 none (Obj.arr (139:TypeId) false (List.map bI out))
def Ak(out:List Hd):Nat×En:=(0,GV out)
def xC(out:List Hd):List (Nat×En):=[Ak out]
def Z5Z:Nat×P:=(5,ZO)
def sL(out:List Hd):Nat×P:=(3,ra out)
def uf(l:List Hd):Nat×P:=(0,P.d (D.sl 4 (List.map bI l)))
theorem SL(l out:List Hd)(had:Bool)(i k:Int)(ae:PX×S->Prop):(bif Pn k out then bif had then bif Zj k then ae (PX.normal,S.mk 80 (uf l::sL out::nP i::Z5Z::ZA k) (xC out)) else False else bif D8 k out then bif D7 k out then bif wE out k then bif Po i l then bif wE l i then bif Zj k then ae (PX.normal,S.mk 80 (uf l::sL out::nP i::(5,P.d (D.bool (A8 out k==A8 l i&&(D6 out k==D6 l i&&true))))::ZA k) (xC out)) else False else False else False else False else False else False else ae (PX.exit 2,S.mk 80 [uf l,sL out,nP i,(5,fI had)] (xC out)))=(aD [] [] 84 7 (qdF l out had i k)) ae:=by kernel_rfl
abbrev qjk(l out:List Hd)(i k:Int):S:=⟨80,[(0,qo l),(3,.sl 0 0 out.length),(4,iD i),(7,iD k)],[(0,⟨0,none,w5 false out⟩)]⟩
def YC(out:List Hd)(k:Int):List D:=[D.int .i64 (A8 out k),D.int .i64 (D6 out k),D.int .i64 (D.aj (D.ar (sK out k) 2)),D.int .i64 (D.aj (D.ar (sK out k) 3))]
def YD(out:List Hd)(k:Int):D:=D.nth (List.map bI out) (Zc k)
def Z68(out:List Hd)(k:Int):List D:=List.set (List.map bI out) (Zg k) (D.aV (D.agg (YC out k)) [D.int .i64 (D.aj (D.ar (YD out k) 0)),D.int .i64 (D.aj (D.ar (YD out k) 1)),D.int .i64 (D.aj (D.ar (YD out k) 2)),D.int .i64 (D.aj (D.ar (YD out k) 3))])
def Z65(k:Int)(out:List Hd):Bool:=decide ((0:Int)<=k-(1:Int)/\k-(1:Int)<sZ out)
theorem qdG(l out:List Hd)(i k:Int)(ae:PX×S->Prop):(bif Zr k then bif Zb k then bif Z65 k out then bif decide (Zc k<rU out) then bif cx PR (139:TypeId) (YD out k) then bif D8 k out then bif D7 k out then bif wE out k then∃(a:aw) (b:aw),[P.d (D.agg [D.int .i64 (D.aj (D.ar (YD out k) 0)),D.int .i64 (D.aj (D.ar (YD out k) 1))]),P.d (YB out k)]=AY a b/\Zx/\ ∀(r:Bool),r=l7 a b->bif r then bif Zb k then bif Zb k then bif Z65 k out then bif decide (Zc k<rU out) then bif cx PR (139:TypeId) (YD out k) then bif D8 k out then bif D7 k out then bif wE out k then bif D8 k out then bif D7 k out then bif wE out k then bif Z65 k out then bif decide (Zc k<List.length (Z68 out k)) then bif cx PR (139:TypeId) (D.nth (Z68 out k) (Zc k)) then bif Zb k then ae (PX.normal,S.mk 80 [uf l,sL out,nP i,(7,Zs k)] [(0,En.mk 0 none (Obj.arr (139:TypeId) false (List.set (Z68 out k) (Zc k) (D.aV (D.agg [D.int .i64 (D.aj (D.ar (D.nth (Z68 out k) (Zc k)) 0)),D.int .i64 (D.aj (D.ar (D.nth (Z68 out k) (Zc k)) 1)),D.int .i64 (D.aj (D.ar (D.nth (Z68 out k) (Zc k)) 2)),D.int .i64 (D.aj (D.ar (D.nth (Z68 out k) (Zc k)) 3))]) (YC out k)))))]) else False else False else False else False else False else False else False else False else False else False else False else False else False else False else False else ae (PX.exit 4,S.mk 80 (uf l::sL out::A6 i) (xC out)) else False else False else False else False else False else False else False else ae (PX.exit 4,S.mk 80 (uf l::sL out::A6 i) (xC out)))=(aD [(14,nC)] [] 84 13 (qjk l out i k)) ae:=by kernel_rfl
abbrev SM(l out:List Hd)(i:Int):S:=⟨80,[(0,qo l),(3,.sl 0 0 out.length),(4,iD i)],[(0,⟨0,none,w5 false out⟩)]⟩
abbrev YE(l:List ak)(out:List Hd)(i:Int):S:=⟨26,[(0,bC l),(3,.sl 0 0 out.length),(4,iD i)],[(0,⟨0,none,w5 false out⟩)]⟩
def Wb(l:List ak)(i:Int):List D:=[D.int .i64 (D.aj (D.ar (fJ l i) 4)),D.int .i64 (D.aj (D.ar (fJ l i) 5))]
def Z6a(out:List Hd)(l:List ak)(i:Int):Nat:=fg out+List.length [D.agg (nO l i::my l i::Wb l i)]
theorem SN(l:List ak)(out:List Hd)(i:Int)(ae:PX×S->Prop):(bif qP i l then bif kL i l then bif cK l i then bif kL i l then bif cK l i then bif Nat.ble (fg out) (rU out)&&aO (Z6a out l i) 32 then bif Zj i then ae (PX.normal,S.mk 26 (fE l::(3,P.sl 0 0 (Z6a out l i))::ua i) [(0,En.mk 0 none (Obj.arr (139:TypeId) false (D5 out++[D.agg (nO l i::my l i::Wb l i)])))]) else False else False else False else False else False else False else ae (PX.exit 0,S.mk 26 [sL out] (xC out)))=(aD [] [] 44 3 (YE l out i)) ae:=by kernel_rfl
theorem YF(h:Hd):cx PR 132 (bI h)=true:=by kernel_rfl
theorem rf(h:Hd):cx PR 139 (bI h)=true:=by kernel_rfl
def A9(U:List aw)(o:List Hd):Prop:= ∀x,x∈U↔(o.any λy=>y.1==x)=true
theorem A9.nil:A9 [] []:=λx=>by simp
theorem A9.had{U:List aw}{o:List Hd}{x:aw}(h:A9 U o)(hx:x∈U):A9 (x::U) o:=λy=>by
 rw[zaw,h y];constructor
 ·rintro(rfl |h2)
  ·exact(h _).1 hx
  exact h2
 exact .inr
theorem A9.new{U:List aw}{o:List Hd}{g:Hd}(h:A9 U o):A9 (g.1::U) (o++[g]):=λy=>by
 rw[zaw,h y,zck,za9];simp only[zdd,List.any_nil,zbU,zaT];constructor
 ·rintro(rfl |h2)
  ·exact .inr rfl
  exact .inl h2
 rintro(h2 |rfl)
 ·exact .inr h2
 exact .inl rfl
theorem GW{l:List Hd}{i:Nat}(h:i<l.length):sE (l.take (i+1))=HU (sE (l.take i)) l[i]:=by rw[zag h];unfold sE;rw[za3];rfl
theorem LO{o:List Hd}{h:Hd}(hx:(o.any λx=>x.1==h.1)=true):HU o h=o:=by unfold HU;rw[zao hx]
theorem LP{o:List Hd}{h:Hd}(hx:(o.any λx=>x.1==h.1)=false):HU o h=o++[h]:=by unfold HU;rw[zal (by rw[hx];simp)]
theorem qg0:FC 103 qji:=FC.mk (H:=[(66,u7)]) (by kernel_rfl) (.cons qbv .nil) (by
 intro ps R ae hh;obtain⟨a,b,rfl,rfl,hp⟩:=hh
 (rw[<-qgZ];delta Zx Zt ZE Jv Z5E)
 exact⟨_,_,_,_,rfl,rfl,hp⟩)
def qjl:D->Hd
 | .agg [.int .i64 a,.int .i64 b,.int .i64 c,.int .i64 d]=>((a,b),(c,d))
 |_=>((0,0),(0,0))
section
variable{X:XF}
theorem YG:FD X 102 JZ:=Yu (dec:=qjl) (c:=λa b=>qc a.1.1 a.1.2 b.1.1 b.1.2)
 (λcf=>FD.tR Tryz.func102 (by kernel_rfl) (by kernel_rfl) λps R ae h=>Jc (DW h)) (λ_=>rfl) mx (λx y=>(DL x.1 y.1).lt) (λ_=>⟨_,rfl⟩)
 (λx y=>FC.qgI qg0 ⟨x,y,rfl,rfl,rfl⟩) ⟨_,Tryz.func103,by kernel_rfl,by kernel_rfl⟩
theorem qdH:LD X 68 3 (ah (aL 68 3) gEh):=LD.idx (H:=[]) (hk:=[]) (by kernel_rfl) (by kernel_rfl) .nil .nil
 (A:=List Hd) (B:=List Hd×List aw×Int) (λl b i=>ehH l b.1 (cM b.2.1) b.2.2 i) (λl=>l.length) (λl i b=>l.length<=1000000/\b.1=sE (l.take i)/\A9 b.2.1 b.1/\b.2.1.length<=i)
 (λl x=>x=(.exit 0,⟨50,[(5,.sl 0 0 (sE l).length)],[(0,⟨0,none,arH false (sE l)⟩)]⟩))
 (by
  rintro l ⟨o,U,c⟩ i ae h0 bR aY ⟨q5,rfl,hU,NZ⟩ hn ho;dsimp only at*
  (rw[<-qbC];delta SG fg ra Zg oJ Z5q SH Z7 Z5A Z5B D5 Zn qQ Wa Z5y LL LM Za Z9 Zj Z5v rU Z5s Z5p)
  have e1:D.nth ((l.map (·.1)).map bh) i.toNat=bh l[i.toNat].1:=by rw[ay _ _ _ (by simpa using aY)];simp
  have e2:D.nth ((l.map (·.2)).map bh) i.toNat=bh l[i.toNat].2:=by rw[ay _ _ _ (by simpa using aY)];simp
  rw[e1,e2];simp only[ehH,zaa] at hn⊢;have rT:=GW aY;have lX:=qN (l.take i.toNat);rw[zay] at lX;generalize l[i.toNat]=g at rT;have v1: ∀n:Int,D.aj (iE n)=n:=λ_=>rfl;have t1:D.agg [D.int .i64 (D.aj (D.ar (bh g.1) 0)),D.int .i64 (D.aj (D.ar (bh g.1) 1))]=bh g.1:=rfl;have t2:D.agg [D.int .i64 (D.aj (D.ar (bh g.1) 0)),D.int .i64 (D.aj (D.ar (bh g.1) 1)),D.int .i64 (D.aj (D.ar (bh g.2) 0)),D.int .i64 (D.aj (D.ar (bh g.2) 1))]=bI g:=rfl;have g0:cL (cM U (bh g.1)) (.int .i64 0)=iE (U.count g.1:Int):=ql U g.1;have HM:=zbW (a:=g.1) (l:=U);have u2:=λz=>DZ U g.1 z;have u3:=λz=>DY U g.1 z;have g1:cL (cM (g.1::U) (bh g.1)) (.int .i64 0)= .int .i64 ((U.count g.1:Int)+1):=by have:=ql (g.1::U) g.1;rw[zcg] at this;exact this
  have AP:(U.count g.1:Int)=0↔ ¬g.1∈U:=by rw[<-zcU];omega
  have hcb:0<=(U.count g.1:Int)/\(U.count g.1:Int)<=1000000:=by omega
  generalize (U.count g.1:Int)=cn at g0 u2 u3 g1 AP hcb;rw[t1,g0];simp only[v1];refine bz (by omega) (ao ⟨h0,bR⟩ (aq (jI _) (aq (A7 _) (ao (by omega) ?_))));rw[u2,g1,u3];refine ao ⟨h0,bR⟩ (aq (jI _) (aq (A7 _) ?_));simp only[v1,zap,zat,zaF];refine Ai (λh2=> ?_) λh2=>ao (by omega) (hn (sE (l.take i.toNat),g.1::U,_) ⟨q5,?_,hU.had ?_,zbZ NZ⟩)
  ·refine ao ⟨h0,bR⟩ (aq (jI _) (ao ⟨h0,bR⟩ (aq (jI _) (aq ?_ (ao (by omega) ?_)))))
   ·rw[zab];exact⟨by simp,ct (by omega) (by omega)⟩
   have AV:((sE (l.take i.toNat)).any λx=>x.1==g.1)=false:=by rw[<-zaX,<-hU g.1];exact AP.1 (by omega)
   have:=λc':Int=>hn (sE (l.take i.toNat)++[g],g.1::U,c') ⟨q5,by rw[rT,LP AV],hU.new,zbZ NZ⟩;rw[t2,cw];simp only[zan,zap,zat,zaF] at this;exact this _
  ·have hx:g.1∈U:=zaM λh=>by have:=AP.2 h;omega
   rw[rT,LO ((hU g.1).1 hx)]
  exact zaM λh=>by have:=AP.2 h;omega)
 (by
  rintro l ⟨o,U,c⟩ i ae hi ⟨q5,rfl,hU,NZ⟩ ho;dsimp only at*
  (rw[<-qbC];delta SG fg ra Zg oJ Z5q SH Z7 Z5A Z5B D5 Zn qQ Wa Z5y LL LM Za Z9 Zj Z5v rU Z5s Z5p)
  simp only[zaa];refine b7 (λh=>by omega) λh=>ho _ (λh=>by cases h) ?_;rw[zaj])
 (by rintro s ae ⟨l,rfl,hs,hp⟩;refine⟨l,([],[],0),by rw[DX],⟨hs,rfl,A9.nil,by simp⟩,?_⟩;rintro x rfl;exact hp _ rfl)
theorem LQ:FD X 68 zy:=FD.mk (H:=[(102,JZ)]) (hk:=[(3,ah (aL 68 3) gEh)]) (by kernel_rfl) (.cons YG .nil) (.cons qdH .nil) (by
 intro ps R ae hh;obtain⟨l,rfl,rfl,hs,hp⟩:=hh
 (rw[<-qjj];delta SG Z5H fg ra mQ NY Z7 qQ oJ Wa ZQ LL LM Z5F)
 have hdl:=qN l;refine⟨l,rfl,hs,λm hm=>⟨m,rfl,rfl,by rw[hm];omega,λl' GX hpw=> ?_⟩⟩;subst hm;have e:=LA GX hpw;rw[<-GX.length_eq,e];exact hp _ rfl)
end
end Pi
