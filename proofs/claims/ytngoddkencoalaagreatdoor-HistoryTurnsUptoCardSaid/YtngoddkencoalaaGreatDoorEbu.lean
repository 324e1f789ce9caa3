/- The texts X3Shelf XBld K3 X3 S3 StPure St1 St1H T1 T1H StV2 StV2H StV3H StV4 StV4H St5 St5H StTextP St7 St7H PathP StL2H P1 P1H P3 P3H T2 T2H T3 TrA TrB WiP EfP HiP VwP TrC SN T6 T6H T7 T7H T8 T8H T9 T9H RfP HgP HlP HtP HuP A2 A2H A3 A3H A4 A4H B1 B2H WiU Wi0 Wi0H LdP Wi1. -/
import Derived.Test.YtngoddkencoalaaGreatDoorPiYr
import Derived.Shelf.SlLaysF0
import Derived.Shelf.LaysM
import Derived.Shelf.LaysC
import Derived.Shelf.Strings.OnBuilder
import Derived.Shelf.Strings.SlTrimAscii
import Derived.Shelf.Small.Wraps
import Derived.Shelf.Strconv.AtoiAll
import Derived.Shelf.Strconv.Itoa3
import Derived.Shelf.Strings.Cut
import Derived.Shelf.Strings.Split
import Derived.Shelf.Strings.LastIndexAll
import Derived.Shelf.Unicode.ValidAny
import Derived.Shelf.Utf8.RuneCount
import Derived.Test.YtngoddkencoalaaGreatDoorProg
import Derived.Ground.SlsfProg
import Derived.KernelRfl
import Derived.Lib.SplitLaws
import Derived.Lib.SlTrimSet
import Derived.Lib.IndexAny
import Derived.Lib.ValidLaws
import Derived.Lib.RuneCountTail
import Derived.Lib.MapLaws
namespace Go.Proofs
open Go.Shelf
def Tryz.HJ:Go.Shelf.Ren:=⟨λ|160=>146 |232=>170 |231=>169 |227=>171 |234=>173 |233=>172 |236=>175 |235=>174 |228=>182 |271=>185 |151=>184 |197=>183 |120=>190 |152=>189 |260=>188 |137=>191 |119=>192 |224=>193 |225=>194 |217=>195 |266=>196 |n=>n,λ|9=>9 |4=>4 |3=>3 |5=>5 |117=>237 |116=>236 |0=>0 |124=>240 |21=>21 |105=>253 |46=>172 |119=>242 |139=>245 |138=>244 |n=>n,λ|3=>0 |4=>1 |n=>n⟩
theorem Tryz.MR:Go.Proofs.Lays.n160 Tryz.prog Tryz.HJ:={
 mixed:=by kernel_rfl
 f119:=Tryz.func192.trans (congrArg some (by kernel_rfl))
 f120:=Tryz.func190.trans (congrArg some (by kernel_rfl))
 f137:=Tryz.func191.trans (congrArg some (by kernel_rfl))
 f151:=Tryz.func184.trans (congrArg some (by kernel_rfl))
 f152:=Tryz.func189.trans (congrArg some (by kernel_rfl))
 f160:=Tryz.func146.trans (congrArg some (by kernel_rfl))
 f197:=Tryz.func183.trans (congrArg some (by kernel_rfl))
 f217:=Tryz.func195.trans (congrArg some (by kernel_rfl))
 f224:=Tryz.func193.trans (congrArg some (by kernel_rfl))
 f225:=Tryz.func194.trans (congrArg some (by kernel_rfl))
 f227:=Tryz.func171.trans (congrArg some (by kernel_rfl))
 f228:=Tryz.func182.trans (congrArg some (by kernel_rfl))
 f231:=Tryz.func169.trans (congrArg some (by kernel_rfl))
 f232:=Tryz.func170.trans (congrArg some (by kernel_rfl))
 f233:=Tryz.func172.trans (congrArg some (by kernel_rfl))
 f234:=Tryz.func173.trans (congrArg some (by kernel_rfl))
 f235:=Tryz.func174.trans (congrArg some (by kernel_rfl))
 f236:=Tryz.func175.trans (congrArg some (by kernel_rfl))
 f260:=Tryz.func188.trans (congrArg some (by kernel_rfl))
 f266:=Tryz.func196.trans (congrArg some (by kernel_rfl))
 f271:=Tryz.func185.trans (congrArg some (by kernel_rfl))
 t0:=Tryz.underlying0
 a0:=Tryz.isAgg0
 z0:=Tryz.sizeOf0
 v0:=Tryz.zeroValue0
 t3:=Tryz.underlying3
 a3:=Tryz.isAgg3
 z3:=Tryz.sizeOf3
 v3:=Tryz.zeroValue3
 t4:=Tryz.underlying4
 a4:=Tryz.isAgg4
 z4:=Tryz.sizeOf4
 v4:=Tryz.zeroValue4
 t5:=Tryz.underlying5
 a5:=Tryz.isAgg5
 z5:=Tryz.sizeOf5
 v5:=Tryz.zeroValue5
 t9:=Tryz.underlying9
 a9:=Tryz.isAgg9
 z9:=Tryz.sizeOf9
 v9:=Tryz.zeroValue9
 t21:=Tryz.underlying21
 a21:=Tryz.isAgg21
 z21:=Tryz.sizeOf21
 v21:=Tryz.zeroValue21
 t46:=Tryz.underlying172
 a46:=Tryz.isAgg172
 z46:=Tryz.sizeOf172
 v46:=Tryz.zeroValue172
 t105:=Tryz.underlying253
 a105:=Tryz.isAgg253
 z105:=Tryz.sizeOf253
 v105:=Tryz.zeroValue253
 t116:=Tryz.underlying236
 a116:=Tryz.isAgg236
 z116:=Tryz.sizeOf236
 t117:=Tryz.underlying237
 a117:=Tryz.isAgg237
 z117:=Tryz.sizeOf237
 v117:=Tryz.zeroValue237
 t119:=Tryz.underlying242
 a119:=Tryz.isAgg242
 z119:=Tryz.sizeOf242
 t124:=Tryz.underlying240
 a124:=Tryz.isAgg240
 z124:=Tryz.sizeOf240
 v124:=Tryz.zeroValue240
 t138:=Tryz.underlying244
 a138:=Tryz.isAgg244
 z138:=Tryz.sizeOf244
 v138:=Tryz.zeroValue244
 t139:=Tryz.underlying245
 a139:=Tryz.isAgg245
 z139:=Tryz.sizeOf245
 v139:=Tryz.zeroValue245
 g3:=by kernel_rfl
 g4:=by kernel_rfl}
open Go.RowKit in
theorem Tryz.strings_Trim_one(s:ByteArray)(c:UInt8)(hc:c.toNat<128)(w:World)(hs:s.size<=9223372036854775807):
 Calls Tryz.prog 146 #[.string s,.string ⟨#[c]⟩] w λe w'=>e= .returned (.string ⟨(Lib.trimB s.data.toList c).toArray⟩)/\(w'=w\/w'=w.drew):=Any.strings_Trim_one Tryz.MR s c hc w hs
def Tryz.HK:Go.Shelf.Ren:=⟨λ|195=>149 |n=>n,λ|9=>9 |3=>3 |0=>0 |4=>4 |n=>n,λ|n=>n⟩
theorem Tryz.qax:Go.Proofs.Lays.n195 Tryz.prog Tryz.HK:={
 mixed:=by kernel_rfl
 f195:=Tryz.func149.trans (congrArg some (by kernel_rfl))
 t0:=Tryz.underlying0
 a0:=Tryz.isAgg0
 z0:=Tryz.sizeOf0
 v0:=Tryz.zeroValue0
 t3:=Tryz.underlying3
 a3:=Tryz.isAgg3
 z3:=Tryz.sizeOf3
 v3:=Tryz.zeroValue3
 t4:=Tryz.underlying4
 a4:=Tryz.isAgg4
 z4:=Tryz.sizeOf4
 v4:=Tryz.zeroValue4
 t9:=Tryz.underlying9
 a9:=Tryz.isAgg9
 z9:=Tryz.sizeOf9
 v9:=Tryz.zeroValue9}
open Go.RowKit in
theorem Tryz.utf8_RuneCountInString(s:ByteArray)(w:World)(hs:s.size<9223372036854775807):
 Calls Tryz.prog 149 #[.string s] w λe w'=>e= .returned (.int .i64 (Lib.runeCount s))/\ ∃pos,w'=w.iter s pos:=Any.utf8_RuneCountInString Tryz.qax s w hs
def Tryz.HL:Go.Shelf.Ren:=⟨λ|196=>148 |259=>176 |n=>n,λ|9=>9 |4=>4 |3=>3 |5=>5 |12=>12 |119=>242 |0=>0 |46=>172 |139=>245 |138=>244 |53=>204 |n=>n,λ|3=>0 |4=>1 |n=>n⟩
theorem Tryz.qay:Go.Proofs.Lays.n196 Tryz.prog Tryz.HL:={
 mixed:=by kernel_rfl
 f196:=Tryz.func148.trans (congrArg some (by kernel_rfl))
 f259:=Tryz.func176.trans (congrArg some (by kernel_rfl))
 t0:=Tryz.underlying0
 a0:=Tryz.isAgg0
 z0:=Tryz.sizeOf0
 v0:=Tryz.zeroValue0
 t3:=Tryz.underlying3
 a3:=Tryz.isAgg3
 z3:=Tryz.sizeOf3
 v3:=Tryz.zeroValue3
 t4:=Tryz.underlying4
 a4:=Tryz.isAgg4
 z4:=Tryz.sizeOf4
 v4:=Tryz.zeroValue4
 t5:=Tryz.underlying5
 a5:=Tryz.isAgg5
 z5:=Tryz.sizeOf5
 v5:=Tryz.zeroValue5
 t9:=Tryz.underlying9
 a9:=Tryz.isAgg9
 z9:=Tryz.sizeOf9
 v9:=Tryz.zeroValue9
 t12:=Tryz.underlying12
 a12:=Tryz.isAgg12
 z12:=Tryz.sizeOf12
 v12:=Tryz.zeroValue12
 t46:=Tryz.underlying172
 a46:=Tryz.isAgg172
 z46:=Tryz.sizeOf172
 v46:=Tryz.zeroValue172
 t53:=Tryz.underlying204
 a53:=Tryz.isAgg204
 z53:=Tryz.sizeOf204
 v53:=Tryz.zeroValue204
 t119:=Tryz.underlying242
 a119:=Tryz.isAgg242
 z119:=Tryz.sizeOf242
 t138:=Tryz.underlying244
 a138:=Tryz.isAgg244
 z138:=Tryz.sizeOf244
 v138:=Tryz.zeroValue244
 t139:=Tryz.underlying245
 a139:=Tryz.isAgg245
 z139:=Tryz.sizeOf245
 v139:=Tryz.zeroValue245
 g3:=by kernel_rfl
 g4:=by kernel_rfl}
open Go.RowKit in
theorem Tryz.utf8_ValidString(s:ByteArray)(w:World)(hs:s.size<=9223372036854775807)(hT:Lib.Utf8Tabs 0 1 w):
 Calls Tryz.prog 148 #[.string s] w λe w'=>e= .returned (.bool (Lib.validD s.data.toList))/\Below w.heap.size w w':=Any.utf8_ValidString Tryz.qay s w hs hT
def Tryz.zM:Go.Shelf.Ren:=⟨λ|6=>64 |15=>98 |14=>97 |28=>133 |29=>134 |20=>125 |21=>126 |22=>127 |23=>128 |24=>129 |25=>130 |26=>131 |27=>132 |46=>154 |47=>155 |48=>156 |49=>157 |50=>158 |57=>178 |n=>n,λ|22=>22 |24=>34 |25=>126 |3=>3 |39=>172 |0=>0 |53=>202 |55=>204 |4=>4 |46=>195 |45=>194 |50=>199 |5=>5 |9=>9 |66=>221 |70=>225 |76=>247 |77=>248 |n=>n,λ|n=>n⟩
theorem Tryz.qeI:Go.Proofs.SlLaysF0.n6 Tryz.prog Tryz.zM:={
 mixed:=by kernel_rfl
 f6:=⟨Tryz.f64.name,by decide,Tryz.func64.trans (congrArg some (by kernel_rfl))⟩
 f14:=⟨Tryz.f97.name,by decide,Tryz.func97.trans (congrArg some (by kernel_rfl))⟩
 f15:=Tryz.func98.trans (congrArg some (by kernel_rfl))
 f20:=⟨Tryz.f125.name,by decide,Tryz.func125.trans (congrArg some (by kernel_rfl))⟩
 f21:=⟨Tryz.f126.name,by decide,Tryz.func126.trans (congrArg some (by kernel_rfl))⟩
 f22:=⟨Tryz.f127.name,by decide,Tryz.func127.trans (congrArg some (by kernel_rfl))⟩
 f23:=⟨Tryz.f128.name,by decide,Tryz.func128.trans (congrArg some (by kernel_rfl))⟩
 f24:=⟨Tryz.f129.name,by decide,Tryz.func129.trans (congrArg some (by kernel_rfl))⟩
 f25:=⟨Tryz.f130.name,by decide,Tryz.func130.trans (congrArg some (by kernel_rfl))⟩
 f26:=⟨Tryz.f131.name,by decide,Tryz.func131.trans (congrArg some (by kernel_rfl))⟩
 f27:=⟨Tryz.f132.name,by decide,Tryz.func132.trans (congrArg some (by kernel_rfl))⟩
 f28:=Tryz.func133.trans (congrArg some (by kernel_rfl))
 f29:=Tryz.func134.trans (congrArg some (by kernel_rfl))
 f46:=⟨Tryz.f154.name,by decide,Tryz.func154.trans (congrArg some (by kernel_rfl))⟩
 f47:=Tryz.func155.trans (congrArg some (by kernel_rfl))
 f48:=Tryz.func156.trans (congrArg some (by kernel_rfl))
 f49:=⟨Tryz.f157.name,by decide,Tryz.func157.trans (congrArg some (by kernel_rfl))⟩
 f50:=⟨Tryz.f158.name,by decide,Tryz.func158.trans (congrArg some (by kernel_rfl))⟩
 f57:=⟨Tryz.f178.name,by decide,Tryz.func178.trans (congrArg some (by kernel_rfl))⟩
 t0:=Tryz.underlying0
 a0:=Tryz.isAgg0
 z0:=Tryz.sizeOf0
 v0:=Tryz.zeroValue0
 t3:=Tryz.underlying3
 a3:=Tryz.isAgg3
 z3:=Tryz.sizeOf3
 v3:=Tryz.zeroValue3
 t4:=Tryz.underlying4
 a4:=Tryz.isAgg4
 z4:=Tryz.sizeOf4
 v4:=Tryz.zeroValue4
 t5:=Tryz.underlying5
 a5:=Tryz.isAgg5
 z5:=Tryz.sizeOf5
 v5:=Tryz.zeroValue5
 t9:=Tryz.underlying9
 a9:=Tryz.isAgg9
 z9:=Tryz.sizeOf9
 v9:=Tryz.zeroValue9
 t22:=Tryz.underlying22
 a22:=Tryz.isAgg22
 z22:=Tryz.sizeOf22
 v22:=Tryz.zeroValue22
 t25:=Tryz.underlying126
 a25:=Tryz.isAgg126
 z25:=Tryz.sizeOf126
 v25:=Tryz.zeroValue126
 t39:=Tryz.underlying172
 a39:=Tryz.isAgg172
 z39:=Tryz.sizeOf172
 v39:=Tryz.zeroValue172
 t45:=Tryz.underlying194
 a45:=Tryz.isAgg194
 z45:=Tryz.sizeOf194
 v45:=Tryz.zeroValue194
 t46:=Tryz.underlying195
 a46:=Tryz.isAgg195
 z46:=Tryz.sizeOf195
 v46:=Tryz.zeroValue195
 t50:=Tryz.underlying199
 a50:=Tryz.isAgg199
 z50:=Tryz.sizeOf199
 v50:=Tryz.zeroValue199
 t53:=Tryz.underlying202
 a53:=Tryz.isAgg202
 z53:=Tryz.sizeOf202
 v53:=Tryz.zeroValue202
 t55:=Tryz.underlying204
 a55:=Tryz.isAgg204
 z55:=Tryz.sizeOf204
 v55:=Tryz.zeroValue204
 t66:=Tryz.underlying221
 a66:=Tryz.isAgg221
 z66:=Tryz.sizeOf221
 v66:=Tryz.zeroValue221
 t70:=Tryz.underlying225
 a70:=Tryz.isAgg225
 z70:=Tryz.sizeOf225
 v70:=Tryz.zeroValue225
 t76:=Tryz.underlying247
 a76:=Tryz.isAgg247
 z76:=Tryz.sizeOf247
 v76:=Tryz.zeroValue247
 t77:=Tryz.underlying248
 a77:=Tryz.isAgg248
 z77:=Tryz.sizeOf248
 v77:=Tryz.zeroValue248}
def Tryz.wS:Go.Shelf.Ren:=⟨λ|6=>102 |15=>98 |14=>136 |28=>133 |29=>134 |20=>159 |21=>160 |22=>161 |23=>162 |24=>163 |25=>164 |26=>165 |27=>166 |46=>179 |47=>155 |48=>156 |49=>180 |50=>181 |57=>187 |n=>n,λ|22=>128 |24=>132 |25=>176 |3=>3 |39=>172 |0=>0 |53=>202 |55=>204 |4=>4 |46=>195 |45=>194 |50=>199 |5=>5 |9=>9 |66=>221 |70=>225 |76=>247 |77=>248 |n=>n,λ|n=>n⟩
theorem Tryz.qaz:Go.Proofs.SlLaysF0.n6 Tryz.prog Tryz.wS:={
 mixed:=by kernel_rfl
 f6:=⟨Tryz.f102.name,by decide,Tryz.func102.trans (congrArg some (by kernel_rfl))⟩
 f14:=⟨Tryz.f136.name,by decide,Tryz.func136.trans (congrArg some (by kernel_rfl))⟩
 f15:=Tryz.func98.trans (congrArg some (by kernel_rfl))
 f20:=⟨Tryz.f159.name,by decide,Tryz.func159.trans (congrArg some (by kernel_rfl))⟩
 f21:=⟨Tryz.f160.name,by decide,Tryz.func160.trans (congrArg some (by kernel_rfl))⟩
 f22:=⟨Tryz.f161.name,by decide,Tryz.func161.trans (congrArg some (by kernel_rfl))⟩
 f23:=⟨Tryz.f162.name,by decide,Tryz.func162.trans (congrArg some (by kernel_rfl))⟩
 f24:=⟨Tryz.f163.name,by decide,Tryz.func163.trans (congrArg some (by kernel_rfl))⟩
 f25:=⟨Tryz.f164.name,by decide,Tryz.func164.trans (congrArg some (by kernel_rfl))⟩
 f26:=⟨Tryz.f165.name,by decide,Tryz.func165.trans (congrArg some (by kernel_rfl))⟩
 f27:=⟨Tryz.f166.name,by decide,Tryz.func166.trans (congrArg some (by kernel_rfl))⟩
 f28:=Tryz.func133.trans (congrArg some (by kernel_rfl))
 f29:=Tryz.func134.trans (congrArg some (by kernel_rfl))
 f46:=⟨Tryz.f179.name,by decide,Tryz.func179.trans (congrArg some (by kernel_rfl))⟩
 f47:=Tryz.func155.trans (congrArg some (by kernel_rfl))
 f48:=Tryz.func156.trans (congrArg some (by kernel_rfl))
 f49:=⟨Tryz.f180.name,by decide,Tryz.func180.trans (congrArg some (by kernel_rfl))⟩
 f50:=⟨Tryz.f181.name,by decide,Tryz.func181.trans (congrArg some (by kernel_rfl))⟩
 f57:=⟨Tryz.f187.name,by decide,Tryz.func187.trans (congrArg some (by kernel_rfl))⟩
 t0:=Tryz.underlying0
 a0:=Tryz.isAgg0
 z0:=Tryz.sizeOf0
 v0:=Tryz.zeroValue0
 t3:=Tryz.underlying3
 a3:=Tryz.isAgg3
 z3:=Tryz.sizeOf3
 v3:=Tryz.zeroValue3
 t4:=Tryz.underlying4
 a4:=Tryz.isAgg4
 z4:=Tryz.sizeOf4
 v4:=Tryz.zeroValue4
 t5:=Tryz.underlying5
 a5:=Tryz.isAgg5
 z5:=Tryz.sizeOf5
 v5:=Tryz.zeroValue5
 t9:=Tryz.underlying9
 a9:=Tryz.isAgg9
 z9:=Tryz.sizeOf9
 v9:=Tryz.zeroValue9
 t22:=Tryz.underlying128
 a22:=Tryz.isAgg128
 z22:=Tryz.sizeOf128
 v22:=Tryz.zeroValue128
 t25:=Tryz.underlying176
 a25:=Tryz.isAgg176
 z25:=Tryz.sizeOf176
 v25:=Tryz.zeroValue176
 t39:=Tryz.underlying172
 a39:=Tryz.isAgg172
 z39:=Tryz.sizeOf172
 v39:=Tryz.zeroValue172
 t45:=Tryz.underlying194
 a45:=Tryz.isAgg194
 z45:=Tryz.sizeOf194
 v45:=Tryz.zeroValue194
 t46:=Tryz.underlying195
 a46:=Tryz.isAgg195
 z46:=Tryz.sizeOf195
 v46:=Tryz.zeroValue195
 t50:=Tryz.underlying199
 a50:=Tryz.isAgg199
 z50:=Tryz.sizeOf199
 v50:=Tryz.zeroValue199
 t53:=Tryz.underlying202
 a53:=Tryz.isAgg202
 z53:=Tryz.sizeOf202
 v53:=Tryz.zeroValue202
 t55:=Tryz.underlying204
 a55:=Tryz.isAgg204
 z55:=Tryz.sizeOf204
 v55:=Tryz.zeroValue204
 t66:=Tryz.underlying221
 a66:=Tryz.isAgg221
 z66:=Tryz.sizeOf221
 v66:=Tryz.zeroValue221
 t70:=Tryz.underlying225
 a70:=Tryz.isAgg225
 z70:=Tryz.sizeOf225
 v70:=Tryz.zeroValue225
 t76:=Tryz.underlying247
 a76:=Tryz.isAgg247
 z76:=Tryz.sizeOf247
 v76:=Tryz.zeroValue247
 t77:=Tryz.underlying248
 a77:=Tryz.isAgg248
 z77:=Tryz.sizeOf248
 v77:=Tryz.zeroValue248}
end Go.Proofs
namespace Pi
open Go Go.Proofs Go.RowKit Go.Shelf
section
variable{w0:World}
set_option maxHeartbeats 2000000 in
set_option maxRecDepth 100000 in
theorem fM.drew{T:Tg}{F:Nat->Prop}{G:Nat->Value}{w:World}{R:List (Nat×En)}(h:fM Tryz.prog T F G w R):fM Tryz.prog T F G w.drew R:=by have hn:Names G G R R:=Names.refl G R;exact⟨h.sg,h.size,λt p hp=>by simp[lk] at hp,λn e he=>(h.rg n e he).mono (λ_ h=>h) (λ_ _=>rfl) hn rfl (λ_ _=>rfl),h.own,h.nf,h.jE,h.tag,h.z,zc9 h.dr,h.sz⟩
end
end Pi
namespace Pi
open Go Go.Proofs
set_option maxRecDepth 100000
set_option maxHeartbeats 0
def qiq:List (Nat×List (Nat×List Nat×List Nat)):=[(5,[(9,[5,6,7,9],[4,5,6,7])]),
 (6,[(6,[0,1,5,6,7],[1,5,6]),(15,[5,8,9,10,11,12],[5,8,9,10,11]),(21,[5,8,9,10,11,13,14],[5,8,9,10,11,13]),(28,[5,8,9,10,11,15],[4,5,8,9,10])]),
 (8,[(2,[0,3],[0,2])]),
 (11,[(3,[0,3,4],[3])]),
 (12,[(5,[1,4,6,7,21,22,23],[1,4,6,7])]),
 (15,[(4,[0,3,4,5],[4])]),
 (17,[(3,[0,1,4,5,6,7,8,20,21,22],[0,1,4,5,6,7,8])]),
 (18,[(4,[0,1,5],[4])]),
 (20,[(4,[1,3],[2])]),
 (22,[(4,[2,3,5],[4])]),
 (23,[(6,[0,1,4,6,7,8],[0,1,4,6])]),
 (24,[(4,[4,6,7,8],[4,5])]),
 (25,[(5,[4,6,7,8,9],[4,5])]),
 (26,[(4,[0,1,5],[4])]),
 (27,[(3,[3,8,9,10],[3])]),
 (28,[(4,[0,3,4],[3])]),
 (29,[(5,[2,3,4,5,6,7],[2,3,4,5,6])]),
 (30,[(3,[3,4,9,10,11],[3])]),
 (32,[(7,[0,2,3,4,5,6],[0,2,3,4,5]),(11,[0,2,3,4,5,6,7,8],[0,2,3,4,5,6]),(20,[0,2,3,4,5,6,7,8,9,10],[0,2,3,4,5,6,7,8])]),
 (33,[(3,[0,3,4],[3])]),
 (37,[(4,[0,1,5,6,10,19,20,21],[0,1,5,6,10]),(10,[5,6,7,10,35,36],[6,7,8])]),
 (40,[(3,[0,3,4],[3])]),
 (41,[(4,[0,1,5,6],[5]),(9,[0,1,5,6,7],[0,1,5,6])]),
 (42,[(2,[0,3,5],[0,4])]),
 (43,[(3,[0,3,4,7,8],[4,5,6]),(7,[0,3,4,7,8,9,10],[0,3,4,7,8,9])]),
 (44,[(3,[0,3,4],[3])]),
 (46,[(5,[0,1,2,8,9],[8])]),
 (47,[(3,[0,1,5,6],[5])]),
 (48,[(3,[0,1,5,6],[5])]),
 (49,[(3,[0,3,4],[3])]),
 (51,[(11,[3,48,49,50],[2])]),
 (53,[(4,[3,4,5],[4]),(8,[3,4,5,6,7],[3,4,5,6]),(15,[4,8,9],[8])]),
 (54,[(3,[0,1,5,6],[5]),(6,[0,1,5,6,7],[0,1,5,6]),(9,[0,1,5,6,7,8],[0,1,5,6,7])]),
 (55,[(4,[5,6,7],[6]),(14,[5,6,7,10],[5,6,7])]),
 (56,[(4,[1,5,6,7],[6]),(9,[1,5,6,7,9],[1,5,6,7])]),
 (57,[(3,[0,1,5,6],[5]),(9,[0,1,5,6,8],[0,1,5,6])]),
 (58,[(4,[1,2,7,8,9],[8])]),
 (59,[(3,[0,3,5,6],[5]),(6,[0,3,5,6,7],[0,3,5,6])]),
 (60,[(3,[0,1,5,7,8],[7]),(6,[0,1,5,7,8,9],[0,1,5,7,8])]),
 (61,[(5,[3,4,5,6,20,21,22],[3,5,6]),(15,[3,71,72,73],[3]),(20,[3,87,88,89],[3])]),
 (62,[(5,[0,1,5,6],[0,1,5])]),
 (68,[(3,[0,1,5,6,14,15],[5])]),
 (69,[(2,[0,3,7,8],[4])]),
 (70,[(4,[0,1,5],[4])]),
 (71,[(4,[0,1,5],[4])]),
 (72,[(11,[1,3,4],[2])]),
 (73,[(2,[0,3,5],[0,4])]),
 (74,[(1,[0],[0])]),
 (75,[(2,[0,3],[0,3])]),
 (76,[(3,[0,1,5,6],[5]),(6,[0,1,5,6,7],[0,1,5,6])]),
 (79,[(3,[0,1,5,7,8],[7]),(8,[0,1,5,7,8,9],[0,1,5,7,8])]),
 (80,[(4,[5,6,7],[6]),(8,[5,6,7,8],[5,6,7])]),
 (84,[(3,[0,3,4],[3]),(7,[0,3,4,5,6],[0,3,4,5]),(13,[0,3,4,7],[0,3,4])]),
 (85,[(3,[0,1,5,6],[5]),(7,[0,1,5,6,7,8],[0,1,5,6,7]),(13,[0,1,5,6,9],[0,1,5,6])]),
 (86,[(2,[0,4,5,7],[0,6])]),
 (87,[(2,[0,3,5],[0,4])]),
 (89,[(4,[0,1,5,6],[5]),(8,[0,1,5,6,7,8],[0,1,5,6,7])]),
 (90,[(2,[0,3,5],[5])]),
 (91,[(2,[0,3,5],[0,4])]),
 (92,[(2,[0,3,5],[4])]),
 (93,[(4,[3,4,5],[4])]),
 (95,[(3,[0,3,4,14,15,16],[0]),(13,[0,3,4,6,14,15,16,95,96,97],[0,3,4,14,15,16])]),
 (96,[(2,[0,1,7,8],[0,1,4])]),
 (97,[(2,[0,1,2,3,4,10,11],[4])]),
 (99,[(3,[3,6,7,8],[2,3])]),
 (101,[(1,[0,1,5,6,7],[0,1])]),
 (105,[(2,[0,3],[0,2])]),
 (107,[(3,[0,3,4],[3]),(8,[0,3,4,5,7,8],[0,3,4]),(13,[0,3,4,5,7,8,9,10,11],[0,3,4,5,7,8,9,10])]),
 (108,[(2,[0,5,6,7],[0,2])]),
 (114,[(2,[0,1,7,8,9],[0,1,4])]),
 (116,[(2,[0,1,7,8,9],[0,1,4])]),
 (118,[(3,[0,3,4],[3])]),
 (119,[(2,[0,3,5],[4])]),
 (120,[(2,[0,3,5],[3,4])]),
 (121,[(3,[0,3,5,6],[5]),(8,[0,3,5,6,7],[0,3,5,6])]),
 (123,[(1,[0,2,3],[0])]),
 (125,[(1,[0,1,2,3,8],[3]),(4,[0,1,2,3,8,9],[0,1,2,3,8])]),
 (126,[(4,[0,3,8,9,10,11],[0,3,8,9,10]),(8,[0,3,8,9,12],[3])]),
 (127,[(5,[0,1,3,8,9,10,11],[3])]),
 (129,[(2,[0,3,8,9],[3])]),
 (130,[(3,[0,1,2,3,9,10],[3,8]),(5,[0,1,2,3,9,10],[0,1,2,3,9,10]),(14,[0,1,2,3,9,10,11],[0,1,2,3,9,10]),(20,[0,1,2,3,9,10,12],[0,1,2,3,9,10])]),
 (131,[(3,[0,1,4,11,12],[4,11]),(3,[0,1,4,11,12],[0,1,4,11,12]),(5,[0,1,4,11,12],[0,1,4,11,12])]),
 (132,[(3,[0,1,4,12,13],[0,1,4,12,13]),(5,[0,1,4,12,13],[0,1,4,12,13]),(13,[0,1,4,12,13],[0,1,4,13]),(13,[0,1,4,12,13],[0,1,4,12,13]),(15,[0,1,4,12,13],[0,1,4,12,13])]),
 (136,[(2,[0,1,2,3,4,10,11],[4])]),
 (138,[(4,[0,3],[2])]),
 (141,[(2,[1,2,5],[1,4])]),
 (143,[(2,[1,2,3,7],[1,6])]),
 (144,[(2,[0,4],[2,3,4])]),
 (148,[(1,[0],[2]),(9,[0],[0])]),
 (149,[(2,[2,4],[2])]),
 (153,[(1,[0,1,3],[0,1])]),
 (154,[(1,[0,2,3,4,10],[4])]),
 (159,[(1,[0,1,2,3,8],[3]),(4,[0,1,2,3,8,9],[0,1,2,3,8])]),
 (160,[(4,[0,3,8,9,10,11],[0,3,8,9,10]),(8,[0,3,8,9,12],[3])]),
 (161,[(5,[0,1,3,8,9,10,11],[3])]),
 (163,[(2,[0,3,8,9],[3])]),
 (164,[(3,[0,1,2,3,9,10],[3,8]),(5,[0,1,2,3,9,10],[0,1,2,3,9,10]),(14,[0,1,2,3,9,10,11],[0,1,2,3,9,10]),(20,[0,1,2,3,9,10,12],[0,1,2,3,9,10])]),
 (165,[(3,[0,1,4,11,12],[4,11]),(3,[0,1,4,11,12],[0,1,4,11,12]),(5,[0,1,4,11,12],[0,1,4,11,12])]),
 (166,[(3,[0,1,4,12,13],[0,1,4,12,13]),(5,[0,1,4,12,13],[0,1,4,12,13]),(13,[0,1,4,12,13],[0,1,4,13]),(13,[0,1,4,12,13],[0,1,4,12,13]),(15,[0,1,4,12,13],[0,1,4,12,13])]),
 (168,[(16,[0,5,7,8],[2,3,4,5,7])]),
 (169,[(1,[0,1],[0])]),
 (170,[(1,[0,1],[0])]),
 (171,[(2,[0,2,4],[2,3])]),
 (172,[(1,[0,1],[0,1])]),
 (173,[(1,[0,1],[0,1])]),
 (174,[(1,[0,1],[0])]),
 (175,[(1,[0,1],[0])]),
 (179,[(1,[0,2,3,4,10],[4])]),
 (185,[(10,[0,4,5,6],[0,4,5])]),
 (186,[(4,[0,3],[0,3])]),
 (189,[(38,[175],[4]),(5,[0,7,8,9],[4]),(12,[0,7,8,9,12],[8,9]),(25,[0,7,8,9,14,15],[4]),(29,[0,7,8,9,14,15,16],[0,7,8,9,14,15])])]
def qeJ:List (Nat×List (Nat×Nat)):=[(5,[(6,1),(11,1)]),
 (9,[(5,1)]),
 (17,[(5,4)]),
 (25,[(7,6)]),
 (28,[(6,1)]),
 (30,[(6,1)]),
 (32,[(18,1),(22,1),(24,1)]),
 (34,[(3,1)]),
 (41,[(11,1)]),
 (48,[(5,1)]),
 (50,[(7,1),(9,1),(11,6),(12,1),(14,6),(16,1),(20,1)]),
 (55,[(16,1)]),
 (56,[(7,1),(11,1)]),
 (57,[(11,1)]),
 (61,[(8,1),(10,1),(11,4)]),
 (66,[(1,1)]),
 (68,[(5,1)]),
 (72,[(1,1)]),
 (79,[(10,1)]),
 (80,[(10,1)]),
 (81,[(1,1)]),
 (83,[(5,1),(14,1)]),
 (84,[(15,1)]),
 (85,[(15,1)]),
 (94,[(6,1)]),
 (95,[(8,1),(9,1),(11,1),(16,1)]),
 (107,[(10,1)]),
 (121,[(10,1)]),
 (124,[(1,1)]),
 (125,[(6,1)]),
 (126,[(10,1)]),
 (127,[(10,1)]),
 (130,[(11,1),(17,1),(23,1)]),
 (145,[(9,1),(11,1)]),
 (148,[(7,1),(9,1)]),
 (150,[(1,1)]),
 (154,[(6,1)]),
 (159,[(6,1)]),
 (160,[(10,1)]),
 (161,[(10,1)]),
 (164,[(11,1),(17,1),(23,1)]),
 (177,[(3,1)]),
 (179,[(6,1)])]
def xsB:List Nat:=[146,148,149,64,102]
def xsT:List Nat:=xsB++[19,17]
def qla:List Nat:=[]
def aK(f id:Nat):Option (List Nat×List Nat):=if Nat.beq id 999999 then(if gZ f qla then some ([],[]) else none) else match lk qiq f with |some l=>lk l id |none=>none
abbrev zN:qV:=⟨aK,xsT,λ_ _ _=>none⟩
end Pi
namespace Pi
open Go Go.Proofs Go.RowKit
def MS:TF
 | [.d (.str s),.d (.str c)],[]=>if s.length<=9223372036854775807/\c.length<4294967281/\c.all (λb=>decide (b.toNat<128))=true then some (.d (.str (Lib.trimS s c)),[]) else none
 |_,_=>none
def KJ:TF
 | [.d (.str s)],[]=>if s.length<=9223372036854775807 then some (.d (.bool (Lib.validD s)),[]) else none
 |_,_=>none
def KK:TF
 | [.d (.str s)],[]=>if s.length<9223372036854775807 then some (.d (.int .i64 (Lib.runeCount ⟨⟨s⟩⟩)),[]) else none
 |_,_=>none
noncomputable def zO:TF:=zD Tryz.prog zN 34
noncomputable def CY:TF:=zD Tryz.prog zN 132
noncomputable def xL:List (Nat×TF):=[(146,MS),(148,KJ),(149,KK),(64,zO),(102,CY)]
noncomputable def xB:CF:=xOf xL
theorem sG{w0 w:World}{v:Value}{b o:Nat}(hz: ∀b,b<w0.heap.size->w.heap[b]?=w0.heap[b]?)(h:w0.cell? ⟨b,o,none⟩=some v):w.cell? ⟨b,o,none⟩=some v:=by
 by_cases hb:b<w0.heap.size
 ·unfold World.cell? at h⊢;rw[hz b hb];exact h
 unfold World.cell? at h;rw[show w0.heap[({block:=b,off:=o,spot:=none}:Addr).block]?=none from Array.getElem?_eq_none (by show w0.heap.size<=b;omega)] at h;simp at h
structure StW(w0:World):Prop where
 m: ∃m,w0.cell? ⟨2,0,none⟩=some (.int .i64 m)
 u8:Lib.Utf8Tabs 0 1 w0
theorem StW.zero{w0:World}(h:StW w0):StW {w0 with drawn:=0} where
 m:=h.m
 u8:=h.u8
theorem Pk{w0 w:World}{a b:Nat}(hz: ∀b,b<w0.heap.size->w.heap[b]?=w0.heap[b]?)(h:Lib.Utf8Tabs a b w0):Lib.Utf8Tabs a b w:=
 ⟨λc hc=>sG hz (h.1 c hc),λi hi=>⟨sG hz (h.2 i hi).1,sG hz (h.2 i hi).2⟩⟩
section
variable{w0:World}
theorem ED{F:Nat->Prop}{w:World}{G:Nat->Value}{R:List (Nat×En)}{v:Value}{s:List UInt8}(h:aH F w G R v (.d (.str s))):v= .string ⟨⟨s⟩⟩:=aH.cF (p:= .d (.str s)) h rfl
theorem Tb:Pd Tryz.prog w0 146 MS:=by
 intro h0 ps R p R1 h F G w vs hH hl hv;unfold MS at h;split at h
 next s c=>
  split at h
  next hc=>
   simp only[zam,zbN] at h;obtain⟨rfl,rfl⟩:=h
   match vs,hl,hv with
   | [v,u],_,hv=>have e1:v= .string ⟨⟨s⟩⟩:=ED (hv 0 v _ rfl rfl);have e2:u= .string ⟨⟨c⟩⟩:=ED (hv 1 u _ rfl rfl);subst e1;subst e2;refine vE h0 hH (enters Tryz.func146 (by kernel_rfl) (by kernel_rfl) _ w) ?_;exact(Go.Proofs.Any.strings_Trim_laid Tryz.MR (by kernel_rfl) ⟨⟨s⟩⟩ ⟨⟨c⟩⟩ w (by simpa [ByteArray.size] using hc.1) (by simpa [ByteArray.size] using hc.2.1) (Go.Proofs.ascii_of_all hc.2.2)).mono λe w' ⟨he,hb⟩=>⟨_,he,hb,λF G=> .d (.str _)⟩
  cases h
 cases h
theorem Pm(hw:StW w0):Pd Tryz.prog w0 148 KJ:=by
 intro h0 ps R p R1 h F G w vs hH hl hv;have hz: ∀b,b<w0.heap.size->w.heap[b]?=w0.heap[b]?:=λb hb=>(hH.z b hb).2;unfold KJ at h;split at h
 next s=>
  split at h
  next hc=>
   simp only[zam,zbN] at h;obtain⟨rfl,rfl⟩:=h
   match vs,hl,hv with
   | [v],_,hv=>have e1:v= .string ⟨⟨s⟩⟩:=ED (hv 0 v _ rfl rfl);subst e1;refine vE h0 hH (enters Tryz.func148 (by kernel_rfl) (by kernel_rfl) _ w) ?_;exact(Tryz.utf8_ValidString ⟨⟨s⟩⟩ w (by simpa [ByteArray.size] using hc) (Pk hz hw.u8)).mono λe w' ⟨he,hb⟩=>⟨_,he,hb,λF G=> .d (.bool _)⟩
  cases h
 cases h
theorem Pn:Pd Tryz.prog w0 149 KK:=by
 intro h0 ps R p R1 h F G w vs hH hl hv;unfold KK at h;split at h
 next s=>
  split at h
  next hc=>
   simp only[zam,zbN] at h;obtain⟨rfl,rfl⟩:=h
   match vs,hl,hv with
   | [v],_,hv=>have e1:v= .string ⟨⟨s⟩⟩:=ED (hv 0 v _ rfl rfl);subst e1;refine vE h0 hH (enters Tryz.func149 (by kernel_rfl) (by kernel_rfl) _ w) ?_;exact(Tryz.utf8_RuneCountInString ⟨⟨s⟩⟩ w (by simpa [ByteArray.size] using hc)).mono λe w' ⟨he,pos,hb⟩=>⟨_,he,by rw[hb];exact(Below.refl _ _).alloc (zak _) _,λF G=> .d (.int _ _)⟩
  cases h
 cases h
set_option maxRecDepth 100000 in
theorem BR(w0:World):Pd Tryz.prog w0 64 zO:=
 Hw (kp:=zN) (λw=>S0 _ w) Tryz.qeI (by kernel_rfl) (λvs w=>enters Tryz.func64 (by kernel_rfl) (by kernel_rfl) vs w) (ty:=34) (k:=7) (by kernel_rfl) (λw=>qW (d:=_) (show Tryz.prog.underlying (Tryz.zM.t 24)=some _ from Tryz.underlying34) w) (run_sizeOf (by kernel_rfl)) w0
set_option maxRecDepth 100000 in
theorem EE(w0:World):Pd Tryz.prog w0 102 CY:=
 Hw (kp:=zN) (λw=>S0 _ w) Tryz.qaz (by kernel_rfl) (λvs w=>enters Tryz.func102 (by kernel_rfl) (by kernel_rfl) vs w) (ty:=132) (k:=4) (by kernel_rfl) (λw=>qW (d:=_) (show Tryz.prog.underlying (Tryz.wS.t 24)=some _ from Tryz.underlying132) w) (run_sizeOf (by kernel_rfl)) w0
theorem qir{w1:World}(hw1:StW w1):dw Tryz.prog {w1 with drawn:=0} xB:=by have hw:=hw1.zero;exact Pe.ok rfl (.cons Tb (.cons (Pm hw) (.cons Pn (.cons (BR _) (.cons (EE _) .nil)))))
end
end Pi
namespace Pi
open Go Go.Proofs
set_option maxRecDepth 100000
set_option maxHeartbeats 0
structure XF where
 cf:CF
 eq: ∀f,gZ f xsB=true-> ∀ps R,cf f ps R=xB f ps R
abbrev MT(X:XF):qV:=⟨aK,xsT,X.cf⟩
def q8(f id:Nat):Nat:=match lk qeJ f with |some l=>(lk l id).getD 2 |none=>2
theorem Po:oC q8 0 Tryz.prog.funcs.toList=true:=by kernel_rfl
noncomputable abbrev PR:=Tryz.prog
noncomputable def aD(H:List (FuncId×bg))(hk:List (Nat×(S->K (PX×S))))(f id:Nat)(s:S):K (PX×S):=
 yz (fq PR (runK PR zN q8 H 60 60) (aK f) hk (q8 f) 60 (bw PR f id)) (aK f id) s
noncomputable def aJ(H:List (FuncId×bg))(hk:List (Nat×(S->K (PX×S))))(f:Nat)(ps:List P)(R:List (Nat×En)):K (P×List (Nat×En)):=
 nA PR (runK PR zN q8 H 60 60) zN hk q8 60 f ps R
def FD(X:XF)(f:Nat)(h:bg):Prop:=QO PR (MT X) f h
def HD(X:XF)(H:List (FuncId×bg)):Prop:=MF PR (MT X) H
def LD(X:XF)(f id:Nat)(g:S->K (PX×S)):Prop:= ∀s,KW (g s) (λx=>Ev λa b=>iJ (bQ PR (fJ PR (MT X) a b) (aK f) a (bw PR f id)) (aK f id) a s=some x)
theorem HD.nil{X:XF}:HD X []:=MF.nil
theorem HD.cons{X:XF}{f:Nat}{h:bg}{H:List (FuncId×bg)}(hf:FD X f h)(hH:HD X H):HD X ((f,h)::H):=MF.cons hf hH
inductive Tc(X:XF)(f:Nat):List (Nat×(S->K (PX×S)))->Prop
 |nil:Tc X f []
 |cons {id:Nat} {g:S->K (PX×S)} {r:List (Nat×(S->K (PX×S)))} (h:LD X f id g) (hr:Tc X f r):Tc X f ((id,g)::r)
theorem Tc.get{X:XF}{f:Nat}{hk:List (Nat×(S->K (PX×S)))}(h:Tc X f hk): ∀id g,lk hk id=some g->LD X f id g:=by
 induction h with
 |nil=>exact MI
 |cons h hr ih=>exact qar h ih
theorem FD.mk{X:XF}{H:List (FuncId×bg)}{hk:List (Nat×(S->K (PX×S)))}{f:Nat}{h:bg}(hu:uniq PR f=true)(hH:HD X H)(hl:Tc X f hk)(hb: ∀ps R ae,h ps R ae->aJ H hk f ps R ae):FD X f h:=
 QO.mk Po hH hu hl.get (λps R ae hp=>by have:=hb ps R ae hp;unfold aJ at this;rw[EA PR aK xsT _ X.cf q8 H 60 60] at this;exact this)
theorem LD.par{X:XF}{H:List (FuncId×bg)}{hk:List (Nat×(S->K (PX×S)))}{f id:Nat}{g:S->K (PX×S)}(hu:uniq PR f=true)(hc:cc (q8 f) (bw PR f id)=true)(hH:HD X H)(hl:Tc X f hk)
  {A B:Type} (hd:A->B->S) (Inv:A->B->Prop) (mu:A->B->Nat) (Out:A->PX×S->Prop)
  (hr: ∀a b,Inv a b->aD H hk f id (hd a b) (roundPost (mu a b) (λm s=> ∃b',s=hd a b'/\Inv a b'/\m=mu a b') (Out a)))
  (hg: ∀s ae,g s ae-> ∃a b,s=hd a b/\Inv a b/\ ∀x,Out a x->ae x):LD X f id (ah (aK f id) g):=by
 refine Hv λs0 ae hp=> ?_;obtain⟨a,b,rfl,h1,h2⟩:=hg s0 ae hp;obtain⟨x,g1,g2⟩:=qak (keep:=aK f id) (kp1:=aK f) (O:=Out a) Po hH hc (λd hd h hh=>by have:=hl.get _ _ hh;unfold LD at this;rwa [vB hu hd] at this) (I:=λm s=> ∃b',s=hd a b'/\Inv a b'/\m=mu a b') (λn s hs=>by obtain⟨b',rfl,h3,rfl⟩:=hs;have:=hr a b' h3;unfold aD at this;rw[EA PR aK xsT _ X.cf q8 H 60 60] at this;exact this) (mu a b) (hd a b) ⟨b,rfl,h1,rfl⟩;exact⟨x,g2,h2 x g1⟩
theorem FD.weaken{X:XF}{f:Nat}{h1 h2:bg}(h:FD X f h1)(hw: ∀ps R ae,h2 ps R ae->h1 ps R ae):FD X f h2:=λps R ae hp=>h ps R ae (hw ps R ae hp)
theorem FD.tX{X:XF}{f:Nat}{fn:Func}{h:bg}(gg:PR.funcs[f]?=some fn)(hx:gZ f xsT=true)(uX:gZ f xsB=true)(hb: ∀ps R ae,h ps R ae-> ∃x,xB f ps R=some x/\ae x):FD X f h:=
 QO.tX gg hx λps R ae hp=>by obtain⟨x,h1,h2⟩:=hb ps R ae hp;exact⟨x,by rw[<-h1];exact X.eq f uX ps R,h2⟩
theorem FD.run{X:XF}{f:Nat}{h:bg}(hf:FD X f h){ps:List P}{R:List (Nat×En)}{y:P×List (Nat×En)}(hp:h ps R (λx=>x=y)): ∃lf k,fJ PR (MT X) lf k f ps R=some y:=by obtain⟨x,h1,h2⟩:=hf ps R _ hp;subst h2;exact h1.some
def FC(f:Nat)(h:bg):Prop:=QO PR zN f h
def HC(H:List (FuncId×bg)):Prop:=MF PR zN H
theorem HC.nil:HC []:=MF.nil
theorem HC.cons{f:Nat}{h:bg}{H:List (FuncId×bg)}(hf:FC f h)(hH:HC H):HC ((f,h)::H):=MF.cons hf hH
theorem FC.mk{H:List (FuncId×bg)}{f:Nat}{h:bg}(hu:uniq PR f=true)(hH:HC H)(hb: ∀ps R ae,h ps R ae->aJ H [] f ps R ae):FC f h:=
 QO.mk Po hH hu MI hb
noncomputable def MU:XF:=⟨xB,λ_ _ _ _=>rfl⟩
def eK(l:List Int)(r:Int):Int:=if r<1\/r>l.length then 0 else l.getD (r-1).toNat 0
def qD(l:List Int):Nat->Nat
 |0=>0
 |k+1=>if l.getD k 0=0 then qD l k else k+1
def bk(l:List Int):List Int:=l.take (qD l l.length)
def pK(n:Nat)(f:Nat->Int):List Int:=(List.range n).map f
def qaA(v w:List Int):List Int:=pK (max v.length w.length) λi=>max (eK v (i+1)) (eK w (i+1))
def gQ(v:List Int)(r n:Int):List Int:=pK (max v.length r.toNat) λi=>if(i:Int)+1=r then n else eK v (i+1)
def mZ(v w:List Int):List Int:=bk (qaA v w)
def cO(v:List Int):Bool:=decide ((∀n∈v,0<=n)/\v.length<=16/\(bk v).length=v.length)
@[simp] theorem HM (n:Nat) (f:Nat->Int):(pK n f).length=n:=by simp[pK]
theorem qE(l:List Int): ∀k,qD l k<=k
 |0=>zak 0
 |k+1=>by have:=qE l k;unfold qD;split<;>omega
@[simp] theorem oV (l:List Int):(bk l).length=qD l l.length:=by have:=qE l l.length;simp[bk];omega
theorem EF(l:List Int)(i:Nat):eK l ((i:Int)+1)=l.getD i 0:=by
 unfold eK;split
 next h=>
  have h:l.length<=i:=by omega
  simp[zad,zbp h]
 have:((i:Int)+1-1).toNat=i:=by omega
 rw[this]
theorem mD(l:List Int){r:Int}(h:1<=r):eK l r=l.getD (r-1).toNat 0:=by
 obtain⟨k,rfl⟩: ∃k:Nat,r=(k:Int)+1:=⟨(r-1).toNat,by omega⟩
 rw[EF];congr 1;omega
theorem ud(n:Nat)(f:Nat->Int)(i:Nat):(pK n f).getD i 0=if i<n then f i else 0:=by
 simp only[pK,zad,zaD];split
 next h=>simp[h]
 rename_i h;simp[h]
theorem HO(l:List Int): ∀k i,qD l k<=i->i<k->l.getD i 0=0
 |0,i,_,h=>by omega
 |k+1,i,h1,h2=>by
  unfold qD at h1;split at h1
  ·by_cases e:i=k
   ·subst e;assumption
   exact HO l k i h1 (by omega)
  omega
theorem HP(l:List Int): ∀k,qD l k≠0->l.getD (qD l k-1) 0≠0
 |0,h=>by simp[qD] at h
 |k+1,h=>by
  unfold qD at h⊢;split
  next h0=>rw[zap h0] at h;exact HP l k h
  simpa
theorem zP(l:List Int)(i:Nat):(bk l).getD i 0=l.getD i 0:=by
 have h0:=qE l l.length;unfold bk;by_cases h:i<qD l l.length
 ·simp[zad,h]
 rw[zad,zbp (by simp;omega)];by_cases h2:i<l.length
 ·exact(HO l l.length i (by omega) h2).symm
 simp[zad,zbp (show l.length<=i by omega)]
theorem HQ(l:List Int)(n:Nat): ∀k,k<=n->qD (l.take n) k=qD l k
 |0,_=>rfl
 |k+1,h=>by
  have e:(l.take n).getD k 0=l.getD k 0:=by simp[zad,show k<n by omega]
  unfold qD;rw[e,HQ l n k (by omega)]
theorem qaB(l:List Int)(k:Nat):qD l (qD l k)=qD l k:=by
 cases h:qD l k with
 |zero=>rfl
 |succ m=>have:=HP l k (by omega);rw[h] at this;unfold qD;rw[zan (by simpa using this)]
theorem HR(l:List Int):bk (bk l)=bk l:=by
 have h0:=qE l l.length;have:qD (bk l) (bk l).length=qD l l.length:=by rw[oV];unfold bk;rw[HQ _ _ _ (zak _),qaB]
 rw[bk,this,zal (by simp)]
theorem ext_get{a b:List Int}(hl:a.length=b.length)(h: ∀i,a.getD i 0=b.getD i 0):a=b:=by apply zb8 hl;intro i h1 h2;have:=h i;simpa [zad,h1,h2] using this
theorem oW{v:List Int}{i:Nat}(h:v.length<=i):v.getD i 0=0:=by simp[zad,zbp h]
theorem Te(v w:List Int)(i:Nat):(qaA v w).getD i 0=max (v.getD i 0) (w.getD i 0):=by
 unfold qaA;rw[ud];split
 ·rw[EF,EF]
 rw[oW (v:=v) (by omega),oW (v:=w) (by omega)];rfl
abbrev Pp(t r i:Int):D:= .agg [.int .i64 t,.int .i64 r,.int .i64 i]
abbrev Yi(t r:Int):D:= .agg [.int .i64 t,.int .i64 r]
def vF(t r:Int):Bool:=decide (1<=t/\t<=1099511627776/\1<=r/\r<=16)
def cx(t r i:Int):Bool:=decide (1<=t/\t<=1099511627776/\1<=r/\r<=16/\0<=i/\i<=400000)
def Z3:D:=D.bool false
def Z4(ae:P×List (Nat×En)->Prop):Prop:=ae (P.d Z3,[])
def Z2(i:Int):Bool:=decide (i>=(0:Int))
def Z1:Int:=(1099511627776:Int)
def Z0(t:Int):Bool:=decide (t>=(1:Int))
theorem Pq(t r i:Int)(ae:P×List (Nat×En)->Prop):(bif Z0 t then bif decide (t<=Z1) then bif Z0 r then bif decide (r<=(16:Int)) then bif Z2 i then ae (P.d (D.bool (decide (i<=(400000:Int)))),[]) else Z4 ae else Z4 ae else Z4 ae else Z4 ae else Z4 ae)=(aJ [] [] 147 [.d (Pp t r i)] []) ae:=by kernel_rfl
theorem KL(t r i:Int)(ae:P×List (Nat×En)->Prop):(bif Z0 t then bif decide (t<=Z1) then bif Z0 r then bif decide (r<=(16:Int)) then bif Z2 i then ae (P.d (D.bool (decide (i<=(400000:Int)))),[]) else Z4 ae else Z4 ae else Z4 ae else Z4 ae else Z4 ae)=(aJ [] [] 151 [.d (Pp t r i)] []) ae:=by kernel_rfl
def nM:bg:=λps R ae=> ∃t r i,ps=[.d (Pp t r i)]/\R=[]/\ae (.d (.bool (cx t r i)),[])
def aY(l:List Int):List D:=l.map (D.int .i64)
abbrev vD(v:List Int):P:= .d (.sl 1 (aY v))
def Yj:bg:=λps R ae=> ∃l r,ps=[vD l,.d (.int .i64 r)]/\R=[]/\l.length<=9223372036854775807/\ae (.d (.int .i64 (eK l r)),[])
def Zc(r:Int):Nat:=Int.toNat (r-(1:Int))
def Za:Int:=(9223372036854775807:Int)
def Z9:Int:=(-9223372036854775808:Int)
def Zb(r:Int):Bool:=decide (Z9<=r-(1:Int)/\r-(1:Int)<=Za)
def Z7:D:=D.int .i64 (0:Int)
def Z8(ae:P×List (Nat×En)->Prop):Prop:=ae (P.d Z7,[])
def Z6(r:Int):Bool:=decide (r<(1:Int))
theorem qlb(es:List D)(r:Int)(ae:P×List (Nat×En)->Prop):(bif Z6 r then Z8 ae else bif decide (r>(↑(List.length es):Int)) then Z8 ae else ob (Zb r) (ob (decide ((0:Int)<=r-(1:Int)/\r-(1:Int)<(↑(List.length es):Int))) (ob (cw PR (3:TypeId) (D.nth es (Zc r))) (ae (P.d (D.int .i64 (D.aj (D.nth es (Zc r)))),[])))))=(aJ [] [] 31 [.d (.sl 1 es),.d (.int .i64 r)] []) ae:=by kernel_rfl
theorem qis(es:List D)(r:Int)(ae:P×List (Nat×En)->Prop):(bif Z6 r then Z8 ae else bif decide (r>(↑(List.length es):Int)) then Z8 ae else ob (Zb r) (ob (decide ((0:Int)<=r-(1:Int)/\r-(1:Int)<(↑(List.length es):Int))) (ob (cw PR (3:TypeId) (D.nth es (Zc r))) (ae (P.d (D.int .i64 (D.aj (D.nth es (Zc r)))),[])))))=(aJ [] [] 13 [.d (.sl 1 es),.d (.int .i64 r)] []) ae:=by kernel_rfl
variable{X:XF}
theorem Tf{ae:P×List (Nat×En)->Prop}{k:IntKind}{a b:Int}{R:List (Nat×En)}(hp:ae (P.d (D.int k a),R))(h:a=b):ae (P.d (D.int k b),R):=h▸hp
theorem fW{ae:P×List (Nat×En)->Prop}{a b:Bool}{R:List (Nat×En)}(hp:ae (P.d (D.bool a),R))(h:a=b):ae (P.d (D.bool b),R):=h▸hp
theorem Pr:FD X 147 nM:=FD.mk (H:=[]) (by kernel_rfl) .nil .nil (by
 intro ps R ae hh;obtain⟨t,r,i,rfl,rfl,hp⟩:=hh
 (rw[<-Pq];delta Z3 Z4 Z2 Z1 Z0)
 repeat' (first |refine aA (λ_=> ?_) (λ_=> ?_))
 all_goals exact fW hp (by simp only[zai,zaP,zbL,cx] at*;omega))
theorem sH:FD X 151 nM:=FD.mk (H:=[]) (by kernel_rfl) .nil .nil (by
 intro ps R ae hh;obtain⟨t,r,i,rfl,rfl,hp⟩:=hh
 (rw[<-KL];delta Z3 Z4 Z2 Z1 Z0)
 repeat' (first |refine aA (λ_=> ?_) (λ_=> ?_))
 all_goals exact fW hp (by simp only[zai,zaP,zbL,cx] at*;omega))
@[simp] theorem dK (l:List Int):(aY l).length=l.length:=by simp[aY]
theorem lJ{l:List Int}{i:Nat}(h:i<l.length):D.nth (aY l) i= .int .i64 (l.getD i 0):=by simp[D.nth,aY,h]
theorem KM(n:Int):cw PR 3 (.int .i64 n)=true:=by kernel_rfl
theorem Tj{ae:P×List (Nat×En)->Prop}{l:List Int}{r:Int}(hl:l.length<=9223372036854775807)(hp:ae (.d (.int .i64 (eK l r)),[])):
  bif decide (r<1) then ae (.d (.int .i64 0),[]) else bif decide (r>(l.length:Int)) then ae (.d (.int .i64 0),[]) else
   bif decide (-9223372036854775808<=r-1/\r-1<=9223372036854775807) then bif decide (0<=r-1/\r-1<(l.length:Int)) then bif cw PR 3 (D.nth (aY l) (r-1).toNat) then ae (.d (.int .i64 (D.nth (aY l) (r-1).toNat).aj),[]) else False else False else False:=by
 refine aA (λh=> ?_) λh=>aA (λh'=> ?_) λh'=> ?_
 ·exact Tf hp (by simp only[zai] at h;simp[eK,h])
 ·exact Tf hp (by simp only[zai] at h';simp[eK,h'])
 simp only[zaP] at h h';have bJ:(r-1).toNat<l.length:=by omega
 rw[lJ bJ];refine aq (by simp;omega) (aq (by simp;omega) (aq (KM _) ?_));exact Tf hp (by rw[eK,zan (by omega)];rfl)
theorem qlc:FD X 31 Yj:=FD.mk (H:=[]) (by kernel_rfl) .nil .nil (by
 intro ps R ae hh;obtain⟨l,r,rfl,rfl,hl,hp⟩:=hh
 (rw[<-qlb];delta Zc Za Z9 Zb Z7 Z8 Z6)
 simp only[dK];exact Tj hl hp)
theorem HS:FD X 13 Yj:=FD.mk (H:=[]) (by kernel_rfl) .nil .nil (by
 intro ps R ae hh;obtain⟨l,r,rfl,rfl,hl,hp⟩:=hh
 (rw[<-qis];delta Zc Za Z9 Zb Z7 Z8 Z6)
 simp only[dK];exact Tj hl hp)
def qF(x y:Int):Int:=if x<y then-1 else if x>y then 1 else 0
def MV(x y:Int):Int:=if x≠0 then x else y
def pL(t r t' r':Int):Int:=MV (qF t t') (qF r r')
def r3(t r i t' r' i':Int):Int:=MV (pL t r t' r') (qF i i')
def sI(t r t' r':Int):Bool:=decide (t<t'\/t=t'/\r<r')
abbrev itD(t r i:Int)(p:List UInt8)(d b:Bool):D:= .agg [.int .i64 t,.int .i64 r,.int .i64 i,.str p,.bool d,.bool b]
def Zg:D:=D.int .i64 (1:Int)
def Zh(ae:P×List (Nat×En)->Prop):Prop:=ae (P.d Zg,[])
def Ze:P:=P.d (D.int .i64 (-1:Int))
def Zf(ae:P×List (Nat×En)->Prop):Prop:=ae (Ze,[])
def Zi(x:Int)(y:Int):Bool:=decide (x<y)
def Zj(x:Int)(y:Int)(ae:P×List (Nat×En)->Prop):Prop:=bif Zi x y then Zf ae else bif decide (x>y) then Zh ae else Z8 ae
theorem Ps(x y:Int)(ae:P×List (Nat×En)->Prop):(bif x !=x then bif y !=y then Z8 ae else Zf ae else bif y !=y then Zh ae else Zj x y ae)=(aJ [] [] 100 [.d (.int .i64 x),.d (.int .i64 y)] []) ae:=by kernel_rfl
def Zk(x:Int):D:=D.int .i64 x
def Zl(y:Int):List D:=[Zk y]
theorem qld(x y:Int)(ae:P×List (Nat×En)->Prop):(bif D.aj (D.nth (Zk x::Zl y) 0) !=(0:Int) then ae (P.d (D.int .i64 (D.aj (D.nth (Zk x::Zl y) 0))),[]) else bif D.aj (D.nth (Zk x::Zl y) 1) !=(0:Int) then ae (P.d (D.int .i64 (D.aj (D.nth (Zk x::Zl y) 1))),[]) else Z8 ae)=(aJ [] [] 99 [.d (.sl 1 [.int .i64 x,.int .i64 y])] []) ae:=by kernel_rfl
theorem Tk(t r t' r':Int)(ae:P×List (Nat×En)->Prop):(bif decide (t<t') then ae (P.d (D.bool true),[]) else bif t==t' then ae (P.d (D.bool (decide (r<r'))),[]) else ae (P.d (D.bool false),[]))=(aJ [] [] 14 [.d (Yi t r),.d (Yi t' r')] []) ae:=by kernel_rfl
def gq:bg:=λps R ae=> ∃x y,ps=[.d (.int .i64 x),.d (.int .i64 y)]/\R=[]/\ae (.d (.int .i64 (qF x y)),[])
def hOr:bg:=λps R ae=> ∃x y,ps=[.d (.sl 1 [.int .i64 x,.int .i64 y])]/\R=[]/\ae (.d (.int .i64 (MV x y)),[])
def xY:bg:=λps R ae=> ∃t r t' r',ps=[.d (Yi t r),.d (Yi t' r')]/\R=[]/\ae (.d (.bool (sI t r t' r')),[])
def vG:bg:=λps R ae=> ∃t r t' r',ps=[.d (Yi t r),.d (Yi t' r')]/\R=[]/\ae (.d (.int .i64 (pL t r t' r')),[])
def gG:bg:=λps R ae=> ∃t r i t' r' i',ps=[.d (Pp t r i),.d (Pp t' r' i')]/\R=[]/\ae (.d (.int .i64 (r3 t r i t' r' i')),[])
def Zo:Prop:=EqR [] []
def Zp(ae:P×List (Nat×En)->Prop):List P->Prop:=λ(s0:List P)=> ∃(x_2:Int) (y_2:Int),s0=[P.d (D.sl 1 (Zk x_2::Zl y_2))]/\Zo/\ae (P.d (D.int .i64 (MV x_2 y_2)),[])
def Zm(x:Int):P:=P.d (Zk x)
def Zn(y:Int):List P:=[Zm y]
theorem qit(t r t' r':Int)(ae:P×List (Nat×En)->Prop):(∃(x:Int) (y:Int),Zm t::Zn t'=Zm x::Zn y/\Zo/\ ∃(aX:Int) (Ju:Int),Zm r::Zn r'=Zm aX::Zn Ju/\Zo/\Zp ae [P.d (D.sl 1 [D.int .i64 (qF x y),D.int .i64 (qF aX Ju)])])=(aJ [(100,gq),(99,hOr)] [] 66 [.d (Yi t r),.d (Yi t' r')] []) ae:=by kernel_rfl
def Zq(nr:Int)(bT:Int)(zQ:Int)(zR:Int):List P:=[P.d (D.agg (Zk nr::Zl bT)),P.d (D.agg (Zk zQ::Zl zR))]
theorem qeK(t r t' r':Int)(ae:P×List (Nat×En)->Prop):(∃(nr:Int) (bT:Int) (zQ:Int) (zR:Int),Zq t r t' r'=Zq nr bT zQ zR/\Zo/\bif sI nr bT zQ zR then Zf ae else∃(t_2:Int) (xZ:Int) (qiu:Int) (qiv:Int),Zq t' r' t r=Zq t_2 xZ qiu qiv/\Zo/\bif sI t_2 xZ qiu qiv then Zh ae else Z8 ae)=(aJ [(14,xY)] [] 117 [.d (Yi t r),.d (Yi t' r')] []) ae:=by kernel_rfl
theorem qaC(t r i t' r' i':Int)(ae:P×List (Nat×En)->Prop):(∃(nr:Int) (bT:Int) (zQ:Int) (zR:Int),Zq t r t' r'=Zq nr bT zQ zR/\Zo/\ ∃(x:Int) (y:Int),Zm i::Zn i'=Zm x::Zn y/\Zo/\Zp ae [P.d (D.sl 1 [D.int .i64 (pL nr bT zQ zR),D.int .i64 (qF x y)])])=(aJ [(100,gq),(99,hOr),(66,vG)] [] 150 [.d (Pp t r i),.d (Pp t' r' i')] []) ae:=by kernel_rfl
theorem Tm(t r i t' r' i':Int)(ae:P×List (Nat×En)->Prop):(∃(nr:Int) (bT:Int) (zQ:Int) (zR:Int),Zq t r t' r'=Zq nr bT zQ zR/\Zo/\bif pL nr bT zQ zR !=(0:Int) then ae (P.d (D.int .i64 (pL nr bT zQ zR)),[]) else Zj i i' ae)=(aJ [(117,vG)] [] 88 [.d (Pp t r i),.d (Pp t' r' i')] []) ae:=by kernel_rfl
theorem qG{ae:P×List (Nat×En)->Prop}{k:IntKind}{a b:Int}{R:List (Nat×En)}(hp:ae (P.d (D.int k a),R))(h:a=b):ae (P.d (D.int k b),R):=h▸hp
theorem zS{ae:P×List (Nat×En)->Prop}{a b:Bool}{R:List (Nat×En)}(hp:ae (P.d (D.bool a),R))(h:a=b):ae (P.d (D.bool b),R):=h▸hp
theorem zT(x:Int):(x !=x)=false:=by simp
theorem HT: ∀ps R ae,gq ps R ae->aJ [] [] 100 ps R ae:=by
 intro ps R ae hh;obtain⟨x,y,rfl,rfl,hp⟩:=hh
 (rw[<-Ps];delta Z7 Z8 Zg Zh Ze Zf Zi Zj)
 refine iK (zT x) (iK (zT y) ?_);refine aA (λh=> ?_) λh=>aA (λh'=> ?_) λh'=> ?_
 ·exact qG hp (by
   have h:x<y:=by simpa using h
   simp[qF,h])
 ·exact qG hp (by
   have h: ¬x<y:=by simpa using h
   have h':x>y:=by simpa using h'
   simp[qF,h,h'])
 exact qG hp (by
  have h: ¬x<y:=by simpa using h
  have h': ¬x>y:=by simpa using h'
  simp[qF,h,h'])
theorem bOr: ∀ps R ae,hOr ps R ae->aJ [] [] 99 ps R ae:=by
 intro ps R ae hh;obtain⟨x,y,rfl,rfl,hp⟩:=hh
 (rw[<-qld];delta Z7 Z8 Zk Zl)
 refine aA (λh=> ?_) λh=>aA (λh'=> ?_) λh'=> ?_
 ·exact qG hp (by
   have h:x≠0:=by simpa [D.nth,D.aj] using h
   simp[MV,h,D.nth,D.aj])
 ·exact qG hp (by
   have h:x=0:=by simpa [D.nth,D.aj] using h
   simp[MV,h,D.nth,D.aj])
 exact qG hp (by
  have h:x=0:=by simpa [D.nth,D.aj] using h
  have h':y=0:=by simpa [D.nth,D.aj] using h'
  simp[MV,h,h'])
theorem qaD: ∀ps R ae,xY ps R ae->aJ [] [] 14 ps R ae:=by
 intro ps R ae hh;obtain⟨t,r,t',r',rfl,rfl,hp⟩:=hh;rw[<-Tk];refine aA (λh=> ?_) λh=>aA (λh'=> ?_) λh'=> ?_
 ·exact zS hp (by
   have h:t<t':=by simpa using h
   simp[sI,h])
 ·exact zS hp (by
   have h':t=t':=by simpa using h'
   simp[sI,h'])
 exact zS hp (by
  have h: ¬t<t':=by simpa using h
  have h': ¬t=t':=by simpa using h'
  simp[sI,h'];omega)
theorem qiw: ∀ps R ae,vG ps R ae->aJ [(100,gq),(99,hOr)] [] 66 ps R ae:=by
 intro ps R ae hh;obtain⟨t,r,t',r',rfl,rfl,hp⟩:=hh
 (rw[<-qit];delta Zo Zk Zl Zp Zm Zn)
 exact⟨_,_,rfl,rfl,_,_,rfl,rfl,_,_,rfl,rfl,hp⟩
theorem qeL: ∀ps R ae,gG ps R ae->aJ [(100,gq),(99,hOr),(66,vG)] [] 150 ps R ae:=by
 intro ps R ae hh;obtain⟨t,r,i,t',r',i',rfl,rfl,hp⟩:=hh
 (rw[<-qaC];delta Zo Zk Zl Zp Zm Zn Zq)
 exact⟨_,_,_,_,rfl,rfl,_,_,rfl,rfl,_,_,rfl,rfl,hp⟩
section
variable{X:XF}
theorem HU:FD X 14 xY:=FD.mk (H:=[]) (by kernel_rfl) .nil .nil qaD
theorem qeM:FD X 117 vG:=FD.mk (H:=[(14,xY)]) (by kernel_rfl) (.cons HU .nil) .nil (by
 intro ps R ae hh;obtain⟨t,r,t',r',rfl,rfl,hp⟩:=hh
 (rw[<-qeK];delta Z7 Z8 Zg Zh Ze Zf Zo Zk Zl Zq)
 refine⟨_,_,_,_,rfl,rfl,aA (λh=> ?_) λh=>⟨_,_,_,_,rfl,rfl,aA (λh'=> ?_) λh'=> ?_⟩⟩
 all_goals exact qG hp (by simp only[sI,zai,zaP] at*;simp only[pL,MV,qF];(repeat' split)<;>omega))
theorem lK:FD X 88 gG:=FD.mk (H:=[(117,vG)]) (by kernel_rfl) (.cons qeM .nil) .nil (by
 intro ps R ae hh;obtain⟨t,r,i,t',r',i',rfl,rfl,hp⟩:=hh
 (rw[<-Tm];delta Z7 Z8 Zg Zh Ze Zf Zi Zj Zo Zk Zl Zq)
 refine⟨_,_,_,_,rfl,rfl,aA (λh=> ?_) λh=>aA (λh'=> ?_) λh'=>aA (λh''=> ?_) λh''=> ?_⟩
 all_goals exact qG hp (by simp only[bne_iff_ne,bne_eq_false_iff_eq,ne_eq,zai,zaP] at*;simp only[r3,MV,qF];(repeat' split)<;>omega))
theorem CZ:FD X 100 gq:=FD.mk (H:=[]) (by kernel_rfl) .nil .nil HT
theorem qix:FD X 99 hOr:=FD.mk (H:=[]) (by kernel_rfl) .nil .nil bOr
theorem qdj:FD X 66 vG:=FD.mk (H:=[(100,gq),(99,hOr)]) (by kernel_rfl) (.cons CZ (.cons qix .nil)) .nil qiw
theorem qaE:FD X 150 gG:=FD.mk (H:=[(100,gq),(99,hOr),(66,vG)]) (by kernel_rfl) (.cons CZ (.cons qix (.cons qdj .nil))) .nil qeL
end
theorem Pt:FC 100 gq:=FC.mk (H:=[]) (by kernel_rfl) .nil HT
theorem qle:FC 99 hOr:=FC.mk (H:=[]) (by kernel_rfl) .nil bOr
theorem qdk:FC 66 vG:=FC.mk (H:=[(100,gq),(99,hOr)]) (by kernel_rfl) (.cons Pt (.cons qle .nil)) qiw
theorem FC.qiy{g:Nat}{h:bg}(hf:FC g h){x y:D}{i:Int}(hp:h [.d x,.d y] [] (λz=>z=(.d (.int .i64 i),[]))):zC PR zN g x y i:=by obtain⟨z,h1,h2⟩:=hf _ _ _ hp;subst h2;exact h1
abbrev iD(n:Int):P:= .d (.int .i64 n)
abbrev qeN(v w:List Int)(k:Int):S:=⟨26,[(0,vD v),(1,vD w),(5,iD k)],[]⟩
abbrev qaF(v:List Int):S:=⟨21,[(0,vD v)],[]⟩
abbrev qeO(v:List Int)(k:Int):S:=⟨21,[(0,vD v),(3,iD k)],[]⟩
abbrev qiz(v w o:List Int)(m:Nat)(k:Int):S:=⟨28,[(0,vD v),(1,vD w),(5,P.sl 0 0 m),(6,iD k)],[(0,⟨0,none,.arr 3 false (aY o)⟩)]⟩
abbrev qiA(v o:List Int)(r n:Int)(m:Nat)(k:Int):S:=⟨39,[(0,vD v),(1,iD r),(2,iD n),(8,P.sl 0 0 m),(9,iD k)],[(0,⟨0,none,.arr 3 false (aY o)⟩)]⟩
abbrev qeP(v:List Int)(n k:Int):S:=⟨25,[(0,vD v),(5,vD v),(6,iD n),(7,iD k)],[]⟩
abbrev qeQ(v:List Int)(k:Int):S:=⟨24,[(0,vD v),(3,iD k)],[]⟩
def ZC(ae:PX×S->Prop):Prop:=ae (PX.exit 0,S.mk 26 [] [])
def ZA(k:Int):D:=D.int .i64 (k+(1:Int))
def ZB(k:Int):List (Nat×P):=[(5,P.d (ZA k))]
def Zx(v:List Int):P:=P.d (D.sl 1 (aY v))
def Zz(w:List Int):Nat×P:=(1,Zx w)
def Zy(v:List Int):Nat×P:=(0,Zx v)
def Zw(k:Int):Bool:=decide (Z9<=k+(1:Int)/\k+(1:Int)<=Za)
def Zv:List (Nat×P):=[(4,P.d Z3)]
def Zt(k:Int):Nat:=Int.toNat k
noncomputable def Zu(v:List Int)(k:Int):Bool:=cw PR (3:TypeId) (D.nth (aY v) (Zt k))
def Zr(v:List Int):Int:=(↑(List.length (aY v)):Int)
def Zs(k:Int)(v:List Int):Bool:=decide ((0:Int)<=k/\k<Zr v)
theorem qeR(v w:List Int)(k:Int)(ae:PX×S->Prop):(bif decide (k<Zr v) then ob (Zs k v) (ob (Zu v k) (ob (Zs k w) (ob (Zu w k) (bif D.aj (D.nth (aY v) (Zt k)) !=D.aj (D.nth (aY w) (Zt k)) then ae (PX.ret,S.mk 26 Zv []) else ob (Zw k) (ae (PX.normal,S.mk 26 (Zy v::Zz w::ZB k) [])))))) else ZC ae)=(aD [] [] 26 4 (qeN v w k)) ae:=by kernel_rfl
def ZE(ae:PX×S->Prop)(v:List Int):Prop:=ae (PX.exit 0,S.mk 21 [Zy v] [])
def ZD(v:List Int):Bool:=decide (Z9<=Zr v-(1:Int)/\Zr v-(1:Int)<=Za)
theorem qeS(v:List Int)(ae:PX×S->Prop):(bif decide (Zr v>(0:Int)) then ob (ZD v) (ob (decide ((0:Int)<=Zr v-(1:Int)/\Zr v-(1:Int)<Zr v)) (ob (cw PR (3:TypeId) (D.nth (aY v) (Int.toNat (Zr v-(1:Int))))) (bif D.aj (D.nth (aY v) (Int.toNat (Zr v-(1:Int))))==(0:Int) then ob (ZD v) (ob (decide ((0:Int)<=Zr v-(1:Int)/\Zr v-(1:Int)<=Zr v)) (ae (PX.normal,S.mk 21 [(0,P.d (D.sl 1 (List.drop 0 (List.take (Int.toNat (Zr v-(1:Int))) (aY v)))))] []))) else ZE ae v))) else ZE ae v)=(aD [] [] 74 1 (qaF v)) ae:=by kernel_rfl
def ZH(k:Int):List (Nat×P):=[(3,Zm k)]
def ZG(k:Int):P:=P.d (D.int .i64 (k-(1:Int)))
def ZF(k:Int):Bool:=decide (k>(0:Int))
theorem qeT(v:List Int)(k:Int)(ae:PX×S->Prop):(bif ZF k then ob (Zb k) (ob (decide ((0:Int)<=k-(1:Int)/\k-(1:Int)<Zr v)) (ob (cw PR (3:TypeId) (D.nth (aY v) (Zc k))) (bif D.aj (D.nth (aY v) (Zc k))==(0:Int) then ob (Zb k) (ae (PX.normal,S.mk 21 [Zy v,(3,ZG k)] [])) else ae (PX.exit 0,S.mk 21 (Zy v::ZH k) [])))) else ae (PX.exit 0,S.mk 21 (Zy v::ZH k) []))=(aD [] [] 75 2 (qeO v k)) ae:=by kernel_rfl
def ZO(o:List Int):List (Nat×En):=[(0,En.mk 0 none (Obj.arr (3:TypeId) false (aY o)))]
def ZM(m:Nat):P:=P.sl 0 0 m
def ZN(m:Nat):Nat×P:=(5,ZM m)
def ZL(k:Int):List (Nat×P):=[(6,P.d (ZA k))]
def ZJ:Nat:=9223372036854775807
def ZK(l:List Int):Prop:=List.length l<=ZJ
theorem qeU(v w o:List Int)(m:Nat)(k:Int)(ae:PX×S->Prop):(bif decide (k<=max (Zr v) (Zr w)) then∃(l:List Int) (r:Int),Zx v::Zn k=Zx l::Zn r/\Zo/\ZK l/\ ∃(au:List Int) (bT:Int),Zx w::Zn k=Zx au::Zn bT/\Zo/\ZK au/\ob (Nat.ble m (List.length (aY o))&&aI (m+List.length [D.int .i64 (max (eK l r) (eK au bT))]) 8) (ob (Zw k) (ae (PX.normal,S.mk 28 (Zy v::Zz w::(5,P.sl 0 0 (m+List.length [D.int .i64 (max (eK l r) (eK au bT))]))::ZL k) [(0,En.mk 0 none (Obj.arr (3:TypeId) false (List.take m (aY o)++[D.int .i64 (max (eK l r) (eK au bT))])))]))) else ae (PX.exit 0,S.mk 28 [ZN m] (ZO o)))=(aD [(13,Yj)] [] 47 3 (qiz v w o m k)) ae:=by kernel_rfl
def ZQ(k:Int):List (Nat×P):=[(9,P.d (ZA k))]
def ZP(r:Int):Nat×P:=(1,Zm r)
theorem qeV(v o:List Int)(r n:Int)(m:Nat)(k:Int)(ae:PX×S->Prop):(bif decide (k<=max (Zr v) r) then bif k==r then ob (Nat.ble m (List.length (aY o))&&aI (m+List.length (Zl n)) 8) (ob (Zw k) (ae (PX.normal,S.mk 39 (Zy v::ZP r::(2,Zm n)::(8,P.sl 0 0 (m+List.length (Zl n)))::ZQ k) [(0,En.mk 0 none (Obj.arr (3:TypeId) false (List.take m (aY o)++Zl n)))]))) else∃(l:List Int) (bT:Int),Zx v::Zn k=Zx l::Zn bT/\Zo/\ZK l/\ob (Nat.ble m (List.length (aY o))&&aI (m+List.length [D.int .i64 (eK l bT)]) 8) (ob (Zw k) (ae (PX.normal,S.mk 39 (Zy v::ZP r::(2,Zm n)::(8,P.sl 0 0 (m+List.length [D.int .i64 (eK l bT)]))::ZQ k) [(0,En.mk 0 none (Obj.arr (3:TypeId) false (List.take m (aY o)++[D.int .i64 (eK l bT)])))]))) else ae (PX.exit 0,S.mk 39 [(8,ZM m)] (ZO o)))=(aD [(13,Yj)] [] 46 5 (qiA v o r n m k)) ae:=by kernel_rfl
def ZT(k:Int):List (Nat×P):=[(7,P.d (ZA k))]
def ZS(n:Int):Nat×P:=(6,Zm n)
def ZR:List (Nat×P):=[(2,P.d Z3)]
theorem qeW(v:List Int)(n k:Int)(ae:PX×S->Prop):(bif Zi k n then ob (Zs k v) (ob (Zu v k) (bif decide (D.aj (D.nth (aY v) (Zt k))<(0:Int)) then ae (PX.ret,S.mk 25 (Zy v::ZR) []) else ob (Zw k) (ae (PX.normal,S.mk 25 (Zy v::(5,Zx v)::ZS n::ZT k) [])))) else ae (PX.exit 0,S.mk 25 [Zy v] []))=(aD [] [] 108 2 (qeP v n k)) ae:=by kernel_rfl
def ZU(k:Int):List (Nat×P):=[(3,P.d (ZA k))]
theorem qeX(v:List Int)(k:Int)(ae:PX×S->Prop):(bif decide (k<Zr v) then ob (Zs k v) (ob (Zu v k) (bif decide (D.aj (D.nth (aY v) (Zt k))<(0:Int)) then ae (PX.ret,S.mk 24 (Zy v::ZR) []) else ob (Zw k) (ae (PX.normal,S.mk 24 (Zy v::ZU k) [])))) else ae (PX.exit 0,S.mk 24 [Zy v] []))=(aD [] [] 105 2 (qeQ v k)) ae:=by kernel_rfl
variable{X:XF}
theorem pM{k:Int}(h0: -9223372036854775808<=k)(h1:k<9223372036854775807):decide ((-9223372036854775808:Int)<=k+(1:Int)/\k+(1:Int)<=(9223372036854775807:Int))=true:=by simp;omega
theorem lL{p:Prop}[Decidable p] (h:p):decide p=true:=by simpa using h
theorem lM{p:Prop}[Decidable p] (h: ¬p):decide p=false:=by simpa using h
theorem bf{p:Prop}[Decidable p] {A B:Prop}(h1:p->A)(h2: ¬p->B):cond (decide p) A B:=aA (λh=>h1 (by simpa using h)) (λh=>h2 (by simpa using h))
theorem bm{p:Prop}[Decidable p] {A:Prop}(h1:p)(h2:A):cond (decide p) A False:=aq (by simpa using h1) h2
theorem ig{a b:Int}{A B:Prop}(h1:a=b->A)(h2:a≠b->B):cond (a==b) A B:=aA (λh=>h1 (by simpa using h)) (λh=>h2 (by simpa using h))
theorem zU{a b:Int}{A B:Prop}(h1:a≠b->A)(h2:a=b->B):cond (a !=b) A B:=aA (λh=>h1 (by simpa using h)) (λh=>h2 (by simpa using h))
theorem vH{o:List Int}{m:Nat}(h:m=o.length)(x:Int):List.take m (aY o)++[D.int .i64 x]=aY (o++[x]):=by subst h;rw[zal (by simp)];simp[aY]
theorem qiB{m n b:Nat}(h:(m+n)*b<=140737488355328)(h2:m+n<=9223372036854775807)(l:List D)(hm:m<=l.length):(Nat.ble m l.length&&aI (m+n) b)=true:=by simp[hm,bN h h2]
abbrev jd(v:List Int):Prop:=v.length<=1000000
def qeY:S->K (PX×S):=λs ae=> ∃v w,s=qeN v w 0/\(v.length=w.length/\jd v)/\(v≠w->ae (.ret,⟨26,[(4,.d (.bool false))],[]⟩))/\(v=w->ae (.exit 0,⟨26,[],[]⟩))
theorem qaG:LD X 26 4 (ah (aK 26 4) qeY):=LD.par (H:=[]) (hk:=[]) (by kernel_rfl) (by kernel_rfl) .nil .nil
 (A:=List Int×List Int) (B:=Int) (λa k=>qeN a.1 a.2 k)
 (λa k=>(a.1.length=a.2.length/\jd a.1)/\0<=k/\k<=a.1.length/\ ∀i:Nat,(i:Int)<k->a.1.getD i 0=a.2.getD i 0)
 (λa k=>(a.1.length-k).toNat)
 (λa x=>(a.1≠a.2/\x=(.ret,⟨26,[(4,.d (.bool false))],[]⟩))\/(a.1=a.2/\x=(.exit 0,⟨26,[],[]⟩)))
 (by
  rintro⟨v,w⟩ k ⟨⟨hl,hs⟩,h0,h1,he⟩;dsimp only at*
  (rw[<-qeR];delta ZC ZA ZB Zx Zz Zy Za Z9 Zw Z3 Zv Zt Zu Zr Zs)
  simp only[dK];unfold jd at hs;refine bf (λh=> ?_) λh=> ?_
  ·rw[lJ (by omega),lJ (by omega)];refine bm (by omega) (aq (KM _) (bm (by omega) (aq (KM _) (zU (λh'=> ?_) λh'=>aq (pM (by omega) (by omega)) ?_))))
   ·exact .inl ⟨λe=>h' (by rw[e]),rfl⟩
   exact⟨_,by omega,k+1,rfl,⟨⟨hl,hs⟩,by omega,by omega,λi hi=>by
    by_cases e:(i:Int)=k
    ·have:i=k.toNat:=by omega
     rw[this];exact h'
    exact he i (by omega)⟩,rfl⟩
  exact .inr ⟨ext_get hl λi=>by
   by_cases hi:(i:Int)<k
   ·exact he i hi
   rw[oW (by omega),oW (by omega)],rfl⟩)
 (by
  rintro s ae ⟨v,w,rfl,h1,h2,h3⟩;refine⟨(v,w),0,rfl,⟨h1,by omega,by omega,λi hi=>by omega⟩,?_⟩;rintro x (⟨h,rfl⟩| ⟨h,rfl⟩)
  ·exact h2 h
  exact h3 h)
theorem Pu(v:List Int)(n:Nat):(aY v).take n=aY (v.take n):=by simp[aY]
def qeZ:S->K (PX×S):=λs ae=> ∃v,s=qaF v/\jd v/\ae (.exit 0,⟨21,[(0,vD (bk v))],[]⟩)
theorem qaH:LD X 74 1 (ah (aK 74 1) qeZ):=LD.par (H:=[]) (hk:=[]) (by kernel_rfl) (by kernel_rfl) .nil .nil
 (A:=List Int) (B:=Nat) (λa k=>qaF (a.take k))
 (λa k=>jd a/\k<=a.length/\qD a k=qD a a.length)
 (λa k=>k)
 (λa x=>x=(.exit 0,⟨21,[(0,vD (bk a))],[]⟩))
 (by
  rintro v k ⟨hs,h1,he⟩
  (rw[<-qeS];delta Zx Zy ZE Za Zr Z9 ZD)
  have hlen:(v.take k).length=k:=by simp;omega
  unfold jd at hs;simp only[dK,hlen];refine bf (λh=> ?_) λh=> ?_
  ·have hk:((k:Int)-1).toNat=k-1:=by omega
   have hg:(v.take k).getD (k-1) 0=v.getD (k-1) 0:=by simp[zad,show k-1<k by omega]
   obtain⟨j,rfl⟩: ∃j,k=j+1:=⟨k-1,by omega⟩
   simp only[hk];rw[lJ (by omega),hg];simp only[Nat.add_sub_cancel] at*
   refine bm (by omega) (bm (by omega) (aq (KM _) (ig (λh'=> ?_) λh'=> ?_)))
   ·replace h':v.getD j 0=0:=h'
    refine bm (by omega) (bm (by omega) ?_);refine⟨_,zcM j,j,?_,⟨hs,by omega,by rw[<-he,qD,zap h']⟩,rfl⟩;simp[qaF,aY,List.take_take]
   replace h':v.getD j 0≠0:=h'
   have:bk v=v.take (j+1):=by rw[bk,<-he,qD,zan h']
   show _=_;rw[this]
  have:k=0:=by omega
  subst this;have:bk v=v.take 0:=by rw[bk,<-he];rfl
  show _=_;rw[this])
 (by rintro s ae ⟨v,rfl,h1,h2⟩;refine⟨v,v.length,by rw[zaj],⟨h1,zak _,rfl⟩,?_⟩;rintro x rfl;exact h2)
def qe0:S->K (PX×S):=λs ae=> ∃v n,s=qeO v n/\(n=(v.length:Int)/\jd v)/\ae (.exit 0,⟨21,[(0,vD v),(3,iD (qD v v.length))],[]⟩)
theorem qaI:LD X 75 2 (ah (aK 75 2) qe0):=LD.par (H:=[]) (hk:=[]) (by kernel_rfl) (by kernel_rfl) .nil .nil
 (A:=List Int) (B:=Int) (λa k=>qeO a k)
 (λa k=>jd a/\0<=k/\k<=a.length/\qD a k.toNat=qD a a.length)
 (λa k=>k.toNat)
 (λa x=>x=(.exit 0,⟨21,[(0,vD a),(3,iD (qD a a.length))],[]⟩))
 (by
  rintro v k ⟨hs,h0,h1,he⟩
  (rw[<-qeT];delta Zk Zm ZH ZG Zx Zy Zc Zr Za Z9 Zb ZF)
  unfold jd at hs;simp only[dK];refine bf (λh=> ?_) λh=> ?_
  ·have hj:k.toNat=(k-1).toNat+1:=by omega
   rw[lJ (by omega)];refine bm (by omega) (bm (by omega) (aq (KM _) (ig (λh'=> ?_) λh'=> ?_)))
   ·replace h':v.getD (k-1).toNat 0=0:=h'
    refine bm (by omega) ⟨_,by omega,k-1,rfl,⟨hs,by omega,by omega,by rw[<-he,hj,qD,zap h']⟩,rfl⟩
   replace h':v.getD (k-1).toNat 0≠0:=h'
   rw[hj,qD,zan h'] at he;show _=_;rw[<-he];simp;omega
  have:k=0:=by omega
  subst this;show _=_;rw[<-he];rfl)
 (by rintro s ae ⟨v,n,rfl,⟨hn,h1⟩,h2⟩;refine⟨v,n,rfl,⟨h1,by omega,by omega,by rw[hn];rfl⟩,?_⟩;rintro x rfl;exact h2)
variable{X:XF}
def Tn(f:Nat->Int)(k:Nat)(o:List Int):Prop:= ∀i,i<k->o.getD i 0=f i
theorem Tn.set{f:Nat->Int}{k:Nat}{o:List Int}(h:Tn f k o)(hk:k<o.length):Tn f (k+1) (o.set k (f k)):=λi hi=>by
 by_cases e:i=k
 ·subst e;simp[zad,hk]
 have:=h i (by omega);simpa [zad,List.getElem?_set,zbI e] using this
theorem Tn.all{f:Nat->Int}{o:List Int}(h:Tn f o.length o):o=pK o.length f:=ext_get (by simp) λi=>by
 rw[ud];split
 ·exact h i (by assumption)
 exact oW (by omega)
theorem Pv(n:Nat)(f:Nat->Int):pK (n+1) f=pK n f++[f n]:=by simp[pK,List.range_succ]
theorem qdl{m:Nat}(h:m<=1000000)(x:D):aI (m+List.length [x]) 8=true:=bN (by simp;omega) (by simp;omega)
def HV(g:Int->Int->Int)(v w:List Int)(n:Nat):List Int:=pK n λi=>g (eK v (i+1)) (eK w (i+1))
theorem MW{f id n t:Nat}{H:List (FuncId×bg)}(hH:HD X H)(hu:uniq PR f=true)(hc:cc (q8 f) (bw PR f id)=true)
  {A:Type} (hd:A->List Int->Nat->Int->S) (Pre:A->Prop) (len:A->Nat) (F:A->Nat->Int)
  (hvc: ∀(a:A) (o:List Int) (m:Nat) (k:Int),Pre a->len a<=1000000->1<=k->k<=len a+1->m=o.length->(m:Int)+1=k-> ∀ae,(k<=len a->ae (.normal,hd a (o++[F a m]) (m+1) (k+1)))->(¬k<=len a->ae (.exit 0,⟨n,[(t,P.sl 0 0 m)],[(0,⟨0,none,.arr 3 false (aY o)⟩)]⟩))->aD H [] f id (hd a o m k) ae)
  {g:S->K (PX×S)} (hg: ∀s ae,g s ae-> ∃a,s=hd a [] 0 1/\Pre a/\len a<=1000000/\ae (.exit 0,⟨n,[(t,P.sl 0 0 (len a))],[(0,⟨0,none,.arr 3 false (aY (pK (len a) (F a)))⟩)]⟩)):
  LD X f id (ah (aK f id) g):=LD.par (H:=H) (hk:=[]) hu hc hH .nil
 (A:=A) (B:=List Int×Nat×Int) (λa b=>hd a b.1 b.2.1 b.2.2)
 (λa b=>Pre a/\len a<=1000000/\b.2.1<=len a/\b.1=pK b.2.1 (F a)/\b.2.2=b.2.1+1)
 (λa b=>len a+1-b.2.1)
 (λa x=>x=(.exit 0,⟨n,[(t,P.sl 0 0 (len a))],[(0,⟨0,none,.arr 3 false (aY (pK (len a) (F a)))⟩)]⟩))
 (by
  rintro a ⟨o,m,k⟩ ⟨hp,hl,hm,ho,hk⟩;dsimp only at*
  refine hvc a o m k hp hl (by omega) (by omega) (by rw[ho];simp) (by omega) _ (λh=> ?_) λh=> ?_
  ·exact⟨_,by dsimp only;omega,(o++[F a m],m+1,k+1),rfl,⟨hp,hl,by dsimp only;omega,by rw[ho,Pv],by dsimp only;omega⟩,rfl⟩
  have:m=len a:=by omega
  subst this;subst ho;rfl)
 (by intro s ae hs;obtain⟨a,rfl,h1,h2,h3⟩:=hg s ae hs;refine⟨a,([],0,1),rfl,⟨h1,h2,za1 _,rfl,rfl⟩,?_⟩;rintro x rfl;exact h3)
def qe1(g:Int->Int->Int):S->K (PX×S):=λs ae=> ∃v w es,s=⟨28,[(0,vD v),(1,vD w),(5,P.sl 0 0 0),(6,iD 1)],[(0,⟨0,none,.arr 3 false es⟩)]⟩/\(es=[]/\jd v/\jd w)/\
 ae (.exit 0,⟨28,[(5,P.sl 0 0 (max v.length w.length))],[(0,⟨0,none,.arr 3 false (aY (HV g v w (max v.length w.length)))⟩)]⟩)
theorem qaJ:LD X 47 3 (ah (aK 47 3) (qe1 max)):=MW (H:=[(13,Yj)]) (.cons HS .nil) (by kernel_rfl) (by kernel_rfl)
 (A:=List Int×List Int) (λa o m k=>qiz a.1 a.2 o m k) (λa=>jd a.1/\jd a.2) (λa=>max a.1.length a.2.length) (λa i=>max (eK a.1 (i+1)) (eK a.2 (i+1)))
 (by
  rintro⟨v,w⟩ o m k ⟨hv,hw⟩ hl h1 h2 hm hk ae p1 p2;dsimp only at*
  unfold jd at hv hw
  (rw[<-qeU];delta ZO ZM ZN ZA ZL Zx Zz Zy Za Z9 Zw ZJ ZK Zo Zk Zm Zn Zr)
  simp only[dK];refine bf (λh=> ?_) λh=>p2 (by omega);refine⟨v,k,rfl,rfl,by omega,w,k,rfl,rfl,by omega,aq ?_ (aq (pM (by omega) (by omega)) ?_)⟩
  ·rw[qdl (by omega)];simp;omega
  rw[vH hm];have:=p1 (by omega);rw[hk] at this;exact this)
 (by rintro s ae ⟨v,w,es,rfl,⟨rfl,hv,hw⟩,hp⟩;refine⟨(v,w),rfl,⟨hv,hw⟩,by unfold jd at hv hw;dsimp only;omega,hp⟩)
def qe2:S->K (PX×S):=λs ae=> ∃v r n es,s=⟨39,[(0,vD v),(1,iD r),(2,iD n),(8,P.sl 0 0 0),(9,iD 1)],[(0,⟨0,none,.arr 3 false es⟩)]⟩/\(es=[]/\jd v/\1<=r/\r<=16)/\
 ae (.exit 0,⟨39,[(8,P.sl 0 0 (max v.length r.toNat))],[(0,⟨0,none,.arr 3 false (aY (gQ v r n))⟩)]⟩)
theorem qaK:LD X 46 5 (ah (aK 46 5) qe2):=MW (H:=[(13,Yj)]) (.cons HS .nil) (by kernel_rfl) (by kernel_rfl)
 (A:=List Int×Int×Int) (λa o m k=>qiA a.1 o a.2.1 a.2.2 m k) (λa=>jd a.1/\1<=a.2.1/\a.2.1<=16) (λa=>max a.1.length a.2.1.toNat) (λa i=>if(i:Int)+1=a.2.1 then a.2.2 else eK a.1 (i+1))
 (by
  rintro⟨v,r,n⟩ o m k ⟨hv,tc,hr1⟩ hl h1 h2 hm hk ae p1 p2;dsimp only at*
  unfold jd at hv
  (rw[<-qeV];delta ZO ZM ZJ ZK Zo Zk Zm Zn Zx ZA ZQ ZP Zy Za Z9 Zw Zl Zr)
  simp only[dK];have pk: ∀x:D,(Nat.ble m (aY o).length&&aI (m+List.length [x]) 8)=true:=λx=>by rw[qdl (by omega)];simp;omega
  simp only[dK] at pk;refine bf (λh=> ?_) λh=>p2 (by omega);have:=p1 (by omega);rw[hk] at this;refine ig (λh'=> ?_) λh'=> ?_
  ·rw[zap h'] at this;refine aq (pk _) (aq (pM (by omega) (by omega)) ?_);rw[vH hm];exact this
  rw[zan h'] at this;refine⟨v,k,rfl,rfl,by omega,aq (pk _) (aq (pM (by omega) (by omega)) ?_)⟩;rw[vH hm];exact this)
 (by rintro s ae ⟨v,r,n,es,rfl,⟨rfl,hv,h1,h2⟩,hp⟩;refine⟨(v,r,n),rfl,⟨hv,h1,h2⟩,by unfold jd at hv;dsimp only;omega,hp⟩)
def qe3:S->K (PX×S):=λs ae=> ∃v n,s=qeP v n 0/\(n=v.length/\jd v)/\(¬(∀x∈v,0<=x)->ae (.ret,⟨25,[(0,vD v),(2,.d (.bool false))],[]⟩))/\((∀x∈v,0<=x)->ae (.exit 0,⟨25,[(0,vD v)],[]⟩))
def qe4:S->K (PX×S):=λs ae=> ∃v,s=qeQ v 0/\jd v/\(¬(∀x∈v,0<=x)->ae (.ret,⟨24,[(0,vD v),(2,.d (.bool false))],[]⟩))/\((∀x∈v,0<=x)->ae (.exit 0,⟨24,[(0,vD v)],[]⟩))
def HW:bg:=λps R ae=> ∃v w,ps=[vD v,vD w]/\R=[]/\jd v/\ae (.d (.bool (decide (v=w))),[])
def je:bg:=λps R ae=> ∃v,ps=[vD v]/\R=[]/\jd v/\ae (vD (bk v),[])
def KN:bg:=λps R ae=> ∃v w,ps=[vD v,vD w]/\R=[]/\(jd v/\jd w)/\ae (vD (mZ v w),[])
def qiC:bg:=λps R ae=> ∃v r n,ps=[vD v,iD r,iD n]/\R=[]/\jd v/\(¬(1<=r/\r<=16)->ae (.cH [.sl 0 0 0,iD 1],[(0,⟨0,none,.arr 3 false []⟩)]))/\((1<=r/\r<=16)->ae (.cH [vD (bk (gQ v r n)),iD 0],[]))
def qiD:bg:=λps R ae=> ∃v,ps=[vD v]/\R=[]/\jd v/\ae (.d (.bool (cO v)),[])
def ZW:P:=P.d (D.bool true)
def ZX(ae:P×List (Nat×En)->Prop):Prop:=ae (ZW,[])
def ZV:List (Nat×P):=[(5,P.d Z7)]
theorem qiE(v w:List Int)(ae:P×List (Nat×En)->Prop):(bif Zr v !=Zr w then Z4 ae else∃(cT:List Int) (C0:List Int),S.mk 26 (Zy v::Zz w::ZV) []=S.mk 26 (Zy cT::Zz C0::ZV) []/\(List.length cT=List.length C0/\jd cT)/\(cT≠C0->Z4 ae)/\(cT=C0->ZX ae))=(aJ [] [(4,ah (aK 26 4) qeY)] 26 [vD v,vD w] []) ae:=by kernel_rfl
theorem qiF(v:List Int)(ae:P×List (Nat×En)->Prop):(∃(cT:List Int),S.mk 21 [(0,P.d (D.sl 1 (aY v)))] []=S.mk 21 [(0,P.d (D.sl 1 (aY cT)))] []/\jd cT/\ae (P.d (D.sl 1 (aY (bk cT))),[]))=(aJ [] [(1,ah (aK 74 1) qeZ)] 74 [vD v] []) ae:=by kernel_rfl
theorem qaL(v:List Int)(ae:P×List (Nat×En)->Prop):(∃(cT:List Int),[P.d (D.sl 1 (aY v))]=[P.d (D.sl 1 (aY cT))]/\EqR [] []/\jd cT/\ae (P.d (D.sl 1 (aY (bk cT))),[]))=(aJ [(74,je)] [] 45 [vD v] []) ae:=by kernel_rfl
theorem qiG(v:List Int)(ae:P×List (Nat×En)->Prop):(∃(cT:List Int) (n:Int),S.mk 21 [Zy v,(3,P.d (D.int .i64 (Zr v)))] []=S.mk 21 (Zy cT::ZH n) []/\(n=(↑(List.length cT):Int)/\jd cT)/\ob (decide ((0:Int)<=(↑(qD cT (List.length cT)):Int)/\(↑(qD cT (List.length cT)):Int)<=Zr cT)) (ae (P.d (D.sl 1 (List.drop 0 (List.take (qD cT (List.length cT)) (aY cT)))),[])))=(aJ [] [(2,ah (aK 75 2) qe0)] 75 [vD v] []) ae:=by kernel_rfl
def wT(v:List Int):List P:=[Zx v]
def Z10(es:List D):List (Nat×En):=[(0,En.mk 0 none (Obj.arr (3:TypeId) false es))]
def Z12:En:=En.mk 0 none (Obj.arr (3:TypeId) false [])
def Z13:List (Nat×En):=[(0,Z12)]
def ZY:P:=P.sl 0 0 0
def ZZ(cT:List Int)(C0:List Int):List (Nat×P):=[Zy cT,Zz C0,(5,ZY),(6,P.d Zg)]
theorem Tp(v w:List Int)(ae:P×List (Nat×En)->Prop):(∃(cT:List Int) (C0:List Int) (es:List D),S.mk 28 (ZZ v w) Z13=S.mk 28 (ZZ cT C0) (Z10 es)/\(es=[]/\jd cT/\jd C0)/\ ∃(v:List Int),[P.d (D.sl 1 (List.take (max (List.length cT) (List.length C0)) (aY (HV max cT C0 (max (List.length cT) (List.length C0))))))]=wT v/\Zo/\jd v/\ae (P.d (D.sl 1 (aY (bk v))),[]))=(aJ [(75,je)] [(3,ah (aK 47 3) (qe1 max))] 47 [vD v,vD w] []) ae:=by kernel_rfl
def rA:List P:=[P.d Z7]
def Z16(cT:List Int)(bT:Int)(mf:Int):List (Nat×P):=[Zy cT,ZP bT,(2,Zm mf),(8,ZY),(9,P.d Zg)]
def Z15(r:Int):Bool:=decide (r>(16:Int))
def Z14:List P:=[P.d Zg]
theorem qaM(v:List Int)(r n:Int)(ae:P×List (Nat×En)->Prop):(bif Z6 r then ae (P.cH (ZY::Z14),Z13) else bif Z15 r then ae (P.cH (ZY::Z14),Z13) else∃(cT:List Int) (bT:Int) (mf:Int) (es:List D),S.mk 39 (Z16 v r n) Z13=S.mk 39 (Z16 cT bT mf) (Z10 es)/\(es=[]/\jd cT/\(1:Int)<=bT/\bT<=(16:Int))/\ ∃(v:List Int),[P.d (D.sl 1 (List.take (max (List.length cT) (Zt bT)) (aY (gQ cT bT mf))))]=wT v/\Zo/\jd v/\ae (P.cH (P.d (D.sl 1 (aY (bk v)))::rA),[]))=(aJ [(75,je)] [(5,ah (aK 46 5) qe2)] 46 [vD v,iD r,iD n] []) ae:=by kernel_rfl
def Z19(cT:List Int):Prop:= ∀(x:Int),x∈cT->(0:Int)<=x
def pU:List (Nat×P):=[(7,P.d Z7)]
theorem qiH(v:List Int)(ae:P×List (Nat×En)->Prop):(∃(cT:List Int) (n:Int),S.mk 25 (Zy v::(5,Zx v)::(6,P.d (D.int .i64 (Zr v)))::pU) []=S.mk 25 (Zy cT::(5,Zx cT)::ZS n::pU) []/\(n=(↑(List.length cT):Int)/\jd cT)/\(¬Z19 cT->Z4 ae)/\(Z19 cT->bif decide (Zr cT<=(16:Int)) then∃(v:List Int),wT cT=wT v/\Zo/\jd v/\ae (P.d (D.bool ((↑(List.length (aY (bk v))):Int)==Zr cT)),[]) else Z4 ae))=(aJ [(45,je)] [(2,ah (aK 108 2) qe3)] 108 [vD v] []) ae:=by kernel_rfl
def Z1b(ae:P×List (Nat×En)->Prop):List P->Prop:=λ(s0:List P)=> ∃(QT:List Int) (w:List Int),s0=Zx QT::wT w/\Zo/\jd QT/\ae (P.d (D.bool (decide (QT=w))),[])
def Z1a:List (Nat×P):=[(3,P.d Z7)]
theorem qiI(v:List Int)(ae:P×List (Nat×En)->Prop):(∃(cT:List Int),S.mk 24 (Zy v::Z1a) []=S.mk 24 (Zy cT::Z1a) []/\jd cT/\(¬Z19 cT->Z4 ae)/\(Z19 cT->bif decide (Zr cT<=(16:Int)) then∃(v:List Int),wT cT=wT v/\Zo/\jd v/\Z1b ae [Zx cT,P.d (D.sl 1 (aY (bk v)))] else Z4 ae))=(aJ [(75,je),(26,HW)] [(2,ah (aK 105 2) qe4)] 105 [vD v] []) ae:=by kernel_rfl
variable{X:XF}
theorem EG(v:List Int):(∀x∈v,0<=x)↔ ∀i:Nat,i<v.length->0<=v.getD i 0:=by
 constructor
 ·intro h i hi;have:=h v[i] (zaq hi);simpa [zad,hi] using this
 intro h x hx;obtain⟨i,hi,rfl⟩:=zaT hx;have:=h i hi;simpa [zad,hi] using this
theorem qaN:LD X 108 2 (ah (aK 108 2) qe3):=LD.par (H:=[]) (hk:=[]) (by kernel_rfl) (by kernel_rfl) .nil .nil
 (A:=List Int×Int) (B:=Int) (λa k=>qeP a.1 a.2 k)
 (λa k=>(a.2=a.1.length/\jd a.1)/\0<=k/\k<=a.1.length/\ ∀i:Nat,(i:Int)<k->0<=a.1.getD i 0)
 (λa k=>(a.1.length-k).toNat)
 (λa x=>((¬ ∀x∈a.1,0<=x)/\x=(.ret,⟨25,[(0,vD a.1),(2,.d (.bool false))],[]⟩))\/((∀x∈a.1,0<=x)/\x=(.exit 0,⟨25,[(0,vD a.1)],[]⟩)))
 (by
  rintro⟨v,n⟩ k ⟨⟨hn,hs⟩,h0,h1,he⟩;dsimp only at*
  subst hn
  (rw[<-qeW];delta ZA ZT Zk Zm ZS Zx Za Z9 Zw Z3 ZR Zy Zt Zu Zr Zs Zi)
  unfold jd at hs;simp only[dK];refine bf (λh=> ?_) λh=> ?_
  ·rw[lJ (by omega)];refine bm (by omega) (aq (KM _) (bf (λh'=> ?_) λh'=>aq (pM (by omega) (by omega)) ?_))
   ·replace h':v.getD k.toNat 0<0:=h'
    refine .inl ⟨λhh=> ?_,rfl⟩;have:=(EG v).1 hh k.toNat (by omega);omega
   replace h': ¬v.getD k.toNat 0<0:=h'
   exact⟨_,by omega,k+1,rfl,⟨⟨by simp,hs⟩,by omega,by first |omega | (dsimp only;omega),λi hi=>by
    by_cases e:(i:Int)=k
    ·have:i=k.toNat:=by omega
     rw[this];first |omega | (dsimp only;omega)
    exact he i (by omega)⟩,rfl⟩
  exact .inr ⟨(EG v).2 λi hi=>he i (by omega),rfl⟩)
 (by
  rintro s ae ⟨v,n,rfl,⟨hn,h1⟩,h2,h3⟩;refine⟨(v,n),0,rfl,⟨⟨hn,h1⟩,by omega,by omega,λi hi=>by omega⟩,?_⟩;rintro x (⟨h,rfl⟩| ⟨h,rfl⟩)
  ·exact h2 h
  exact h3 h)
theorem qaO:LD X 105 2 (ah (aK 105 2) qe4):=LD.par (H:=[]) (hk:=[]) (by kernel_rfl) (by kernel_rfl) .nil .nil
 (A:=List Int) (B:=Int) (λa k=>qeQ a k)
 (λa k=>jd a/\0<=k/\k<=a.length/\ ∀i:Nat,(i:Int)<k->0<=a.getD i 0)
 (λa k=>(a.length-k).toNat)
 (λa x=>((¬ ∀x∈a,0<=x)/\x=(.ret,⟨24,[(0,vD a),(2,.d (.bool false))],[]⟩))\/((∀x∈a,0<=x)/\x=(.exit 0,⟨24,[(0,vD a)],[]⟩)))
 (by
  rintro v k ⟨hs,h0,h1,he⟩
  (rw[<-qeX];delta ZA ZU Za Z9 Zw Z3 ZR Zx Zy Zt Zu Zr Zs)
  unfold jd at hs;simp only[dK];refine bf (λh=> ?_) λh=> ?_
  ·rw[lJ (by omega)];refine bm (by omega) (aq (KM _) (bf (λh'=> ?_) λh'=>aq (pM (by omega) (by omega)) ?_))
   ·replace h':v.getD k.toNat 0<0:=h'
    refine .inl ⟨λhh=> ?_,rfl⟩;have:=(EG v).1 hh k.toNat (by omega);omega
   replace h': ¬v.getD k.toNat 0<0:=h'
   exact⟨_,by omega,k+1,rfl,⟨hs,by omega,by omega,λi hi=>by
    by_cases e:(i:Int)=k
    ·have:i=k.toNat:=by omega
     rw[this];omega
    exact he i (by omega)⟩,rfl⟩
  exact .inr ⟨(EG v).2 λi hi=>he i (by omega),rfl⟩)
 (by
  rintro s ae ⟨v,rfl,h1,h2,h3⟩;refine⟨v,0,rfl,⟨h1,by omega,by omega,λi hi=>by omega⟩,?_⟩;rintro x (⟨h,rfl⟩| ⟨h,rfl⟩)
  ·exact h2 h
  exact h3 h)
theorem Tq:FD X 26 HW:=FD.mk (H:=[]) (hk:=[(4,ah (aK 26 4) qeY)]) (by kernel_rfl) .nil (.cons qaG .nil) (by
 intro ps R ae hh;obtain⟨v,w,rfl,rfl,hv,hp⟩:=hh
 (rw[<-qiE];delta ZW ZX Z7 ZV Zx Zz Zy Z3 Z4 Zr)
 simp only[dK];refine zU (λh=> ?_) λh=>⟨v,w,rfl,⟨by omega,hv⟩,λhn=> ?_,λhe=> ?_⟩
 ·exact fW hp (lM λe=>h (by rw[e]))
 ·exact fW hp (lM hn)
 exact fW hp (lL he))
theorem qiJ:FD X 74 je:=FD.mk (H:=[]) (hk:=[(1,ah (aK 74 1) qeZ)]) (by kernel_rfl) .nil (.cons qaH .nil) (by intro ps R ae hh;obtain⟨v,rfl,rfl,hv,hp⟩:=hh;rw[<-qiF];exact⟨v,rfl,hv,hp⟩)
theorem MX:FD X 45 je:=FD.mk (H:=[(74,je)]) (hk:=[]) (by kernel_rfl) (.cons qiJ .nil) .nil (by intro ps R ae hh;obtain⟨v,rfl,rfl,hv,hp⟩:=hh;rw[<-qaL];exact⟨v,rfl,rfl,hv,hp⟩)
theorem Tr:FD X 75 je:=FD.mk (H:=[]) (hk:=[(2,ah (aK 75 2) qe0)]) (by kernel_rfl) .nil (.cons qaI .nil) (by
 intro ps R ae hh;obtain⟨v,rfl,rfl,hv,hp⟩:=hh
 (rw[<-qiG];delta Zk Zm ZH Zr Zx Zy)
 simp only[dK];refine⟨v,_,rfl,⟨rfl,hv⟩,bm ?_ ?_⟩
 ·have:=qE v v.length;omega
 rw[Pu];exact hp)
theorem MY(g:Int->Int->Int)(v w:List Int)(m:Nat):(HV g v w m).length=m:=by simp[HV]
theorem uf{o:List Int}{m:Nat}(h:o.length=m):(aY o).take m=aY o:=by rw[zal (by simp[h])]
theorem Ts:FD X 47 KN:=FD.mk (H:=[(75,je)]) (hk:=[(3,ah (aK 47 3) (qe1 max))]) (by kernel_rfl) (.cons Tr .nil) (.cons qaJ .nil) (by
 intro ps R ae hh;obtain⟨v,w,rfl,rfl,h,hp⟩:=hh
 (rw[<-Tp];delta Zo Zx wT Z10 Z12 Z13 Zg ZY Zz Zy ZZ)
 refine⟨v,w,_,rfl,⟨rfl,h⟩,HV max v w (max v.length w.length),by rw[uf (MY ..)],rfl,?_,hp⟩;unfold jd at*;rw[MY];omega)
theorem qiK:FD X 108 qiD:=FD.mk (H:=[(45,je)]) (hk:=[(2,ah (aK 108 2) qe3)]) (by kernel_rfl) (.cons MX .nil) (.cons qaN .nil) (by
 intro ps R ae hh;obtain⟨v,rfl,rfl,hv,hp⟩:=hh
 (rw[<-qiH];delta Zo Zx wT Z3 Z4 Z19 Zk Zm ZS Z7 pU Zr Zy)
 simp only[dK];refine⟨v,_,rfl,⟨rfl,hv⟩,λh=>fW hp (lM λhh=>h hh.1),λh=>bf (λh'=>⟨v,rfl,rfl,hv,?_⟩) λh'=> ?_⟩
 ·refine fW hp ?_;rw[cO,zaH];simp only[zai,zaW];constructor
  ·rintro⟨_,_,h3⟩;omega
  intro h3;exact⟨h,by omega,by omega⟩
 exact fW hp (lM λhh=>h' (by omega)))
theorem qiL:FD X 105 qiD:=FD.mk (H:=[(75,je),(26,HW)]) (hk:=[(2,ah (aK 105 2) qe4)]) (by kernel_rfl) (.cons Tr (.cons Tq .nil)) (.cons qaO .nil) (by
 intro ps R ae hh;obtain⟨v,rfl,rfl,hv,hp⟩:=hh
 (rw[<-qiI];delta Zx Zo wT Z1b Zr Z3 Z4 Z19 Z7 Z1a Zy)
 simp only[dK];refine⟨v,rfl,hv,λh=>fW hp (lM λhh=>h hh.1),λh=>bf (λh'=>⟨v,rfl,rfl,hv,v,bk v,rfl,rfl,hv,?_⟩) λh'=> ?_⟩
 ·refine fW hp ?_;rw[cO,zaH];simp only[zai];constructor
  ·rintro⟨_,_,h3⟩;have hl:=qE v v.length;rw[oV] at h3;rw[bk,h3,zaj]
  intro h3;exact⟨h,by omega,by rw[<-h3]⟩
 exact fW hp (lM λhh=>h' (by omega)))
theorem qaP:FD X 46 qiC:=FD.mk (H:=[(75,je)]) (hk:=[(5,ah (aK 46 5) qe2)]) (by kernel_rfl) (.cons Tr .nil) (.cons qaK .nil) (by
 intro ps R ae hh;obtain⟨v,r,n,rfl,rfl,hv,bS,cv⟩:=hh
 (rw[<-qaM];delta Z7 rA Zo Zx wT Zt Z10 Zg ZY Zk Zm ZP Zy Z16 Z15 Z12 Z13 Z14 Z6)
 have Ou:=hv;unfold jd at Ou;have hl:(gQ v r n).length=max v.length r.toNat:=by simp[gQ]
 refine bf (λh=>bS (by omega)) λh=>bf (λh'=>bS (by omega)) λh'=>⟨v,r,n,_,rfl,⟨rfl,hv,by omega,by omega⟩,gQ v r n,by rw[uf hl],rfl,by unfold jd;rw[hl];omega,cv (by omega)⟩)
def C1(t r i:Int):List UInt8:=Lib.itoa t++[46]++Lib.itoa r++[46]++Lib.itoa i
def lN(t r i:Int):List UInt8:=if cx t r i=true then C1 t r i else []
def Tt:bg:=λps R ae=> ∃t r i,ps=[.d (Pp t r i)]/\R=[]/\ae (.d (.str (lN t r i)),[])
variable{X:XF}
theorem BS: ∀u:Nat,(Lib.decDigits u).length<=u+1:=by
 intro u
 induction u using Nat.strongRecOn with
 |_ u ih=>
  rw[Lib.decDigits];split
  ·simp
  have:=ih (u/10) (by omega);simp only[zah,zao,zat];omega
theorem zV{n:Int}(h0:0<=n)(h1:n<=1099511627776):(Lib.itoa n).length<=1099511627777:=by unfold Lib.itoa;rw[zan (by omega)];have:=BS n.toNat;omega
structure qkH(s:List UInt8):Prop where
 len:s.length<4294967281
 cnt:(Lib.split s [46]).length=Lib.count s [46]+1
 lim:Lib.count s [46]<=4294967281
 each: ∀x∈Lib.split s [46],x.length<=281474976710656
def oX(k:Nat):UInt8:=UInt8.ofNat (48+k)
theorem vI{u:Nat}(h:u<10):Lib.decDigits u=[oX u]:=by rw[Lib.decDigits,zds h];rfl
theorem MZ{u:Nat}(h: ¬u<10):Lib.decDigits u=Lib.decDigits (u/10)++[oX (u%10)]:=by rw[Lib.decDigits,dif_neg h];rfl
theorem M0: ∀(k u:Nat),u<10^(k+1)->(Lib.decDigits u).length<=k+1
 |0,u,h=>by rw[vI (by simpa using h)];simp
 |k+1,u,h=>by
  by_cases hu:u<10
  ·rw[vI hu];simp
  rw[MZ hu];have:=M0 k (u/10) (by rw[zcQ (by omega)];rw[Nat.pow_succ] at h;exact h);simp;omega
abbrev sD(s:List UInt8):P:= .d (.str s)
abbrev qe5(n:Int)(s:List UInt8):S:=⟨37,[(0,iD n),(3,sD s)],[]⟩
def qe6:S->K (PX×S):=λs ae=> ∃n,s=qe5 n []/\(0<=n/\n<=9223372036854775807)/\ ∀n' s',(0<=n'/\n'<=9/\s'.length<=9223372036854775807/\Lib.decDigits n.toNat=oX n'.toNat::s')->ae (.exit 0,⟨37,[(0,iD n'),(3,sD s')],[]⟩)
def EH:bg:=λps R ae=> ∃n,ps=[iD n]/\R=[]/\(0<=n/\n<=9223372036854775807)/\ae (sD (Lib.itoa n),[])
def q9(s:List UInt8):Nat:=List.length s
def Z1c(n:Int):List UInt8:=[UInt8.ofNat (Int.toNat (D.aj (D.int .u8 (IntKind.wrap IntKind.u8 ((48:Int)+Int.tmod n (10:Int))))))]
theorem qe7(n:Int)(s:List UInt8)(ae:PX×S->Prop):(bif decide (n>(9:Int)) then ob (decide (Z9<=(48:Int)+Int.tmod n (10:Int)/\(48:Int)+Int.tmod n (10:Int)<=Za)) (ob (decide (List.length (Z1c n)+q9 s<=ZJ)) (ob (decide (Z9<=Int.tdiv n (10:Int)/\Int.tdiv n (10:Int)<=Za)) (ae (PX.normal,S.mk 37 [(0,P.d (D.int .i64 (Int.tdiv n (10:Int)))),(3,P.d (D.str (Z1c n++s)))] [])))) else ae (PX.exit 0,S.mk 37 [(0,Zm n),(3,P.d (D.str s))] []))=(aD [] [] 186 4 (qe5 n s)) ae:=by kernel_rfl
def Z1i(n':Int):List UInt8:=[UInt8.ofNat (Int.toNat (D.aj (D.int .u8 (IntKind.wrap IntKind.u8 ((48:Int)+n')))))]
def Z1h(mf:Int):Prop:=(0:Int)<=mf/\mf<=Za
def vJ:D:=D.str []
def Z1g(mf:Int):S:=S.mk 37 [(0,Zm mf),(3,P.d vJ)] []
def Yk(n:Int):Bool:=decide (n<(0:Int))
theorem qiM(n:Int)(ae:P×List (Nat×En)->Prop):(bif Yk n then ob (decide (Z9<=(0:Int)-n/\(0:Int)-n<=Za)) False else∃(mf:Int),Z1g n=Z1g mf/\Z1h mf/\ ∀(n':Int) (s':List UInt8),(0:Int)<=n'/\n'<=(9:Int)/\q9 s'<=ZJ/\Lib.decDigits (Zt mf)=oX (Zt n')::s'->ob (decide (Z9<=(48:Int)+n'/\(48:Int)+n'<=Za)) (ob (decide (List.length (Z1i n')+q9 s'<=ZJ)) (ae (P.d (D.str (Z1i n'++s')),[]))))=(aJ [(186,λ_ _ _=>False)] [(4,ah (aK 186 4) qe6)] 186 [iD n] []) ae:=by kernel_rfl
def Tv:List UInt8:=[(46:UInt8)]
def Z1l(n:Int)(mf:Int):List UInt8:=Lib.itoa n++Tv++Lib.itoa mf++Tv
def AV(nr:Int)(bT:Int)(bb:Int):List P:=[P.d (D.agg (Zk nr::Zk bT::Zl bb))]
theorem qaQ(t r i:Int)(ae:P×List (Nat×En)->Prop):(∃(nr:Int) (bT:Int) (bb:Int),AV t r i=AV nr bT bb/\Zo/\bif !cx nr bT bb then ae (P.d vJ,[]) else∃(n:Int),Zn t=Zn n/\Zo/\Z1h n/\ob (decide (List.length (Lib.itoa n)+1<=ZJ)) (∃(mf:Int),Zn r=Zn mf/\Zo/\Z1h mf/\ob (decide (List.length (Lib.itoa n++Tv)+List.length (Lib.itoa mf)<=ZJ)) (ob (decide (List.length (Lib.itoa n++Tv++Lib.itoa mf)+1<=ZJ)) (∃(n_2:Int),Zn i=Zn n_2/\Zo/\Z1h n_2/\ob (decide (List.length (Z1l n mf)+List.length (Lib.itoa n_2)<=ZJ)) (ae (P.d (D.str (Z1l n mf++Lib.itoa n_2)),[]))))))=(aJ [(186,EH),(151,nM)] [] 177 [.d (Pp t r i)] []) ae:=by kernel_rfl
variable{X:XF}
theorem zW{k:Int}(h0:0<=k)(h1:k<=9):UInt8.ofNat (Int.toNat (D.aj (D.int .u8 (IntKind.wrap .u8 (48+k)))))=oX k.toNat:=by have:IntKind.wrap .u8 (48+k)=48+k:=IntWalk.u8_in (48+k) ⟨by omega,by omega⟩;simp only[D.aj,this,oX];congr 1;omega
theorem qaR:LD X 186 4 (ah (aK 186 4) qe6):=LD.par (H:=[]) (hk:=[]) (by kernel_rfl) (by kernel_rfl) .nil .nil
 (A:=Int) (B:=Int×List UInt8) (λ_ b=>qe5 b.1 b.2)
 (λa b=>0<=b.1/\b.1<=9223372036854775807/\b.1.toNat+b.2.length<=9223372036854775807/\Lib.decDigits a.toNat=Lib.decDigits b.1.toNat++b.2)
 (λ_ b=>b.1.toNat)
 (λa x=> ∃n' s',(0<=n'/\n'<=9/\s'.length<=9223372036854775807/\Lib.decDigits a.toNat=oX n'.toNat::s')/\x=(.exit 0,⟨37,[(0,iD n'),(3,sD s')],[]⟩))
 (by
  rintro a ⟨n,s⟩ ⟨h0,h1,hl,he⟩;dsimp only at*
  (rw[<-qe7];delta Zk Zm ZJ q9 Z1c Za Z9)
  refine bf (λh=> ?_) λh=> ?_
  ·have ed:Int.tdiv n 10=((n.toNat/10:Nat):Int):=by rw[Int.tdiv_eq_ediv_of_nonneg (by omega)];omega
   have em:Int.tmod n 10=((n.toNat%10:Nat):Int):=by rw[Int.tmod_eq_emod_of_nonneg (by omega)];omega
   rw[ed,em,zW (by omega) (by omega)];refine bm (by omega) (bm (by simp;omega) (bm (by omega) ?_));refine⟨_,?_,(((n.toNat/10:Nat):Int),oX (n.toNat%10)::s),rfl,⟨by omega,by dsimp only;omega,by simp;omega,?_⟩,rfl⟩
   ·dsimp only;omega
   rw[he,MZ (by omega: ¬n.toNat<10)];simp only[zcl,zaM,zcn]
  rw[vI (u:=n.toNat) (by omega)] at he;exact⟨n,s,⟨h0,by omega,by omega,he⟩,rfl⟩)
 (by rintro s ae ⟨n,rfl,⟨h1,h2⟩,h3⟩;refine⟨n,(n,[]),rfl,⟨h1,h2,by simp;omega,by simp⟩,?_⟩;rintro x ⟨n',s',h,rfl⟩;exact h3 n' s' h)
theorem gH{n:Int}(h0:0<=n)(h1:n<=9223372036854775807):(Lib.itoa n).length<=21:=by
 have h:=M0 20 n.toNat (by
  have:(10:Nat)^21=1000000000000000000000:=by decide
  omega)
 unfold Lib.itoa;rw[zan (by omega)];exact h
theorem Tw:FD X 186 EH:=FD.mk (H:=[(186,λ_ _ _=>False)]) (hk:=[(4,ah (aK 186 4) qe6)]) (by kernel_rfl) (.cons (λ_ _ _ h=>h.elim) .nil) (.cons qaR .nil) (by
 intro ps R ae hh;obtain⟨n,rfl,rfl,⟨h0,h1⟩,hp⟩:=hh
 (rw[<-qiM];delta Z1i Zt ZJ q9 Za Z1h vJ Zk Zm Z1g Z9 Yk)
 refine bf (λh=>by omega) λh=>⟨n,rfl,⟨h0,h1⟩,?_⟩
 rintro n' s' ⟨a0,a1,a2,a3⟩;have hs:Lib.itoa n=oX n'.toNat::s':=by rw[<-a3];unfold Lib.itoa;rw[zan (by omega)]
 rw[zW a0 a1];have hl:(Lib.itoa n).length<=21:=gH h0 h1;rw[hs] at hl hp;simp at hl;exact bm (by omega) (bm (by simp;omega) hp))
theorem qaS:FD X 177 Tt:=FD.mk (H:=[(186,EH),(151,nM)]) (hk:=[]) (by kernel_rfl) (.cons Tw (.cons sH .nil)) .nil (by
 intro ps R ae hh;obtain⟨t,r,i,rfl,rfl,hp⟩:=hh
 (rw[<-qaQ];delta Tv Z1l ZJ Za Z1h Zk Zm Zn vJ Zo Zl AV)
 refine⟨_,_,_,rfl,rfl,aA (λh=> ?_) λh=> ?_⟩
 ·have h:cx t r i=false:=by simpa using h
  rw[lN,zan (by simp[h])] at hp;exact hp
 have h:cx t r i=true:=by simpa using h
 rw[lN,zap h] at hp;simp only[cx,zai] at h;have l1:=zV (n:=t) (by omega) (by omega);have l2:=zV (n:=r) (by omega) (by omega);have l3:=zV (n:=i) (by omega) (by omega);exact⟨_,rfl,rfl,⟨by omega,by omega⟩,aq (by simp;omega) ⟨_,rfl,rfl,⟨by omega,by omega⟩,aq (by simp;omega) (aq (by simp;omega) ⟨_,rfl,rfl,⟨by omega,by omega⟩,aq (by simp;omega) hp⟩)⟩⟩)
def KO:List UInt8:=[48,49,50,51,52,53,54,55,56,57,65,66,67,68,69,70,71,72,73,74,75,76,77,78,79,80,81,82,83,84,85,86,87,88,89,90,97,98,99,100,101,102,103,104,105,106,107,108,109,110,111,112,113,114,115,116,117,118,119,120,121,122,46,45,95]
def iL(b:UInt8):Bool:=decide ((48<=b.toNat/\b.toNat<=57)\/(65<=b.toNat/\b.toNat<=90)\/(97<=b.toNat/\b.toNat<=122)\/b.toNat=46\/b.toNat=45\/b.toNat=95)
theorem Pw: ∀n:Fin 256,KO.contains (UInt8.ofNat n.val)=iL (UInt8.ofNat n.val):=by decide+kernel
theorem KP(b:UInt8):KO.contains b=iL b:=by have:=Pw ⟨b.toNat,b.toNat_lt⟩;simpa using this
def dO(s:List UInt8):Bool:=decide (s≠[]/\s.length<=32/\s≠[46]/\s≠[46,46]/\ ∀b∈s,iL b=true)
theorem dropWhile_nil{α:Type}(p:α->Bool): ∀l:List α,l.dropWhile p=[]↔ ∀b∈l,p b=true
 | []=>by simp
 |x::l=>by
  cases h:p x with
  |true=>simp[List.dropWhile,h,dropWhile_nil p l]
  |false=>simp[List.dropWhile,h]
theorem Tx(s cs:List UInt8):Lib.trimS s cs=[]↔ ∀b∈s,cs.contains b=true:=by
 unfold Lib.trimS Lib.trimLeftS Lib.trimRightS;rw[dropWhile_nil];constructor
 ·intro h b hb;have hr:b∈s.reverse:=by simpa using hb
  rw[<-List.takeWhile_append_dropWhile (p:=(cs.contains ·)) (l:=s.reverse)] at hr;rcases zay.1 hr with h1 |h1
  ·exact zbm.1 (List.all_takeWhile (p:=(cs.contains ·)) (l:=s.reverse)) b h1
  exact h b (by simpa using h1)
 intro h b hb;have hb:b∈s.reverse.dropWhile (cs.contains ·):=by simpa using hb
 exact h b (by simpa using(List.dropWhile_sublist _).subset hb)
def pre(c:UInt8)(s:List UInt8):List UInt8:=s.takeWhile (· !=c)
def lO(s:List UInt8)(t r i:Int):List UInt8×Int:=if dO s=true then(if cx t r i=true then(s++126::C1 t r i,0) else([],1)) else([],70)
section
variable{X:XF}
theorem KQ(t r i:Int):(lN t r i).length<=2000000:=by
 unfold lN;split
 next h=>simp only[cx,zai] at h;have l1:=gH (n:=t) (by omega) (by omega);have l2:=gH (n:=r) (by omega) (by omega);have l3:=gH (n:=i) (by omega) (by omega);simp[C1];omega
 simp
end
abbrev kM(b:Bool):P:= .d (.bool b)
def Ty:bg:=λps R ae=> ∃s c,ps=[sD s,sD c]/\R=[]/\(s.length<=9223372036854775807/\c.length<4294967281/\c.all (λb=>decide (b.toNat<128))=true)/\ae (sD (Lib.trimS s c),[])
def C2:bg:=λps R ae=> ∃s,ps=[sD s]/\R=[]/\ae (kM (dO s),[])
def KR:bg:=λps R ae=> ∃s t r i,ps=[sD s,.d (Pp t r i)]/\R=[]/\ae (.cH [sD (lO s t r i).1,iD (lO s t r i).2],[])
abbrev nmH(s:List UInt8)(k:Int):S:=⟨64,[(0,sD s),(3,iD k)],[]⟩
def ug(c:List UInt8):List P:=[P.d (D.str c)]
def EI(s:List UInt8):Int:=(↑(q9 s):Int)
theorem qe8(s:List UInt8)(ae:P×List (Nat×En)->Prop):(bif !s==[] then bif decide (EI s<=(32:Int)) then bif !s==Tv then bif !s==(46:UInt8)::Tv then∃(gR:List UInt8) (c:List UInt8),[P.d (D.str s),P.d (D.str (have y:List UInt8:=have y:List UInt8:=have y:List UInt8:=have y:List UInt8:=[(121:UInt8),(122:UInt8),(46:UInt8),(45:UInt8),(95:UInt8)];(117:UInt8)::(118:UInt8)::(119:UInt8)::(120:UInt8)::y;have y:List UInt8:=(113:UInt8)::(114:UInt8)::(115:UInt8)::(116:UInt8)::y;(109:UInt8)::(110:UInt8)::(111:UInt8)::(112:UInt8)::y;have y:List UInt8:=have y:List UInt8:=(105:UInt8)::(106:UInt8)::(107:UInt8)::(108:UInt8)::y;(101:UInt8)::(102:UInt8)::(103:UInt8)::(104:UInt8)::y;have y:List UInt8:=(97:UInt8)::(98:UInt8)::(99:UInt8)::(100:UInt8)::y;(87:UInt8)::(88:UInt8)::(89:UInt8)::(90:UInt8)::y;have y:List UInt8:=have y:List UInt8:=have y:List UInt8:=(83:UInt8)::(84:UInt8)::(85:UInt8)::(86:UInt8)::y;(79:UInt8)::(80:UInt8)::(81:UInt8)::(82:UInt8)::y;have y:List UInt8:=(75:UInt8)::(76:UInt8)::(77:UInt8)::(78:UInt8)::y;(71:UInt8)::(72:UInt8)::(73:UInt8)::(74:UInt8)::y;have y:List UInt8:=have y:List UInt8:=(67:UInt8)::(68:UInt8)::(69:UInt8)::(70:UInt8)::y;(56:UInt8)::(57:UInt8)::(65:UInt8)::(66:UInt8)::y;have y:List UInt8:=(52:UInt8)::(53:UInt8)::(54:UInt8)::(55:UInt8)::y;(48:UInt8)::(49:UInt8)::(50:UInt8)::(51:UInt8)::y))]=P.d (D.str gR)::ug c/\Zo/\(q9 gR<=ZJ/\q9 c<4294967281/\(List.all c λ(b:UInt8)=>decide (UInt8.toNat b<128))=true)/\ae (P.d (D.bool (Lib.trimS gR c==[])),[]) else Z4 ae else Z4 ae else Z4 ae else Z4 ae)=(aJ [(146,Ty)] [] 112 [sD s] []) ae:=by kernel_rfl
def Z1p(k:Int)(ae:PX×S->Prop)(s:List UInt8):Prop:=ob (Zw k) (ae (PX.normal,S.mk 64 ((0,P.d (D.str s))::ZU k) []))
def Yl(s:List UInt8)(k:Int):Int:=(↑(UInt8.toNat (List.getD s (Zt k) (0:UInt8))):Int)
def Z1q(s:List UInt8)(k:Int)(ae:PX×S->Prop):Prop:=bif Yl s k==(46:Int) then Z1p k ae s else bif Yl s k==(45:Int) then Z1p k ae s else bif !Yl s k==(95:Int) then ae (PX.ret,S.mk 64 ZR []) else Z1p k ae s
def Z1r(s:List UInt8)(k:Int)(ae:PX×S->Prop):Prop:=bif decide (Yl s k>=(97:Int)) then bif decide (Yl s k<=(122:Int)) then Z1p k ae s else Z1q s k ae else Z1q s k ae
def Z1s(s:List UInt8)(k:Int)(ae:PX×S->Prop):Prop:=bif decide (Yl s k>=(65:Int)) then bif decide (Yl s k<=(90:Int)) then Z1p k ae s else Z1r s k ae else Z1r s k ae
theorem qiN(s:List UInt8)(k:Int)(ae:PX×S->Prop):(bif decide (k<EI s) then ob (decide ((0:Int)<=k/\k<EI s)) (bif decide (Yl s k>=(48:Int)) then bif decide (Yl s k<=(57:Int)) then Z1p k ae s else Z1s s k ae else Z1s s k ae) else ae (PX.exit 0,S.mk 64 [] []))=(aD [] [] 138 4 (nmH s k)) ae:=by kernel_rfl
theorem Tz(s:List UInt8)(t r i:Int)(ae:P×List (Nat×En)->Prop):(∃(gR:List UInt8),ug s=ug gR/\Zo/\bif !dO gR then ae (P.cH [P.d vJ,P.d (D.int .i64 (70:Int))],[]) else∃(nr:Int) (bT:Int) (bb:Int),AV t r i=AV nr bT bb/\Zo/\bif lN nr bT bb==[] then ae (P.cH (P.d vJ::Z14),[]) else ob (decide (q9 s+1<=ZJ)) (ob (decide (List.length (s++[(126:UInt8)])+List.length (lN nr bT bb)<=ZJ)) (ae (P.cH (P.d (D.str (s++[(126:UInt8)]++lN nr bT bb))::rA),[]))))=(aJ [(138,C2),(177,Tt)] [] 152 [sD s,.d (Pp t r i)] []) ae:=by kernel_rfl
section
variable{X:XF}
theorem qe9:FD X 146 Ty:=FD.tX Tryz.func146 (by kernel_rfl) (by kernel_rfl) (by intro ps R ae hh;obtain⟨s,c,rfl,rfl,hc,hp⟩:=hh;refine⟨_,?_,hp⟩;show MS [.d (.str s),.d (.str c)] []=_;exact zap hc)
theorem qfa:FD X 112 C2:=FD.mk (H:=[(146,Ty)]) (hk:=[]) (by kernel_rfl) (.cons qe9 .nil) .nil (by
 intro ps R ae hh;obtain⟨s,rfl,rfl,hp⟩:=hh
 (rw[<-qe8];delta Z3 Z4 ZJ q9 Zo ug Tv EI)
 refine aA (λh1=>bf (λh2=>aA (λh3=>aA (λh4=>⟨s,KO,rfl,rfl,⟨by omega,by decide,by decide⟩,?_⟩) λh4=> ?_) λh3=> ?_) λh2=> ?_) λh1=> ?_
 ·refine fW hp ?_;rw[zaH,dO,zaW,Tx];simp only[KP,zai];constructor
  ·intro h;exact h.2.2.2.2
  intro h;exact⟨by simpa using h1,by omega,by simpa using h3,by simpa using h4,h⟩
 ·exact fW hp (lM λh=>by simp at h4;exact h.2.2.2.1 h4)
 ·exact fW hp (lM λh=>by simp at h3;exact h.2.2.1 h3)
 ·exact fW hp (lM λh=>by omega)
 exact fW hp (lM λh=>by simp at h1;exact h.1 h1))
theorem Px(b:UInt8):iL b=true↔((48<=(b.toNat:Int)/\(b.toNat:Int)<=57)\/(65<=(b.toNat:Int)/\(b.toNat:Int)<=90)\/(97<=(b.toNat:Int)/\(b.toNat:Int)<=122)\/(b.toNat:Int)=46\/(b.toNat:Int)=45\/(b.toNat:Int)=95):=by unfold iL;simp only[zai];omega
theorem HX(p:UInt8->Bool)(s:List UInt8):(∀b∈s,p b=true)↔ ∀i:Nat,i<s.length->p (s.getD i 0)=true:=by
 constructor
 ·intro h i hi;have:=h s[i] (zaq hi);simpa [zad,hi] using this
 intro h x hx;obtain⟨i,hi,rfl⟩:=zaT hx;have:=h i hi;simpa [zad,hi] using this
def gNm:S->K (PX×S):=λs ae=> ∃l,s=nmH l 0/\l.length<=32/\(¬(∀b∈l,iL b=true)->ae (.ret,⟨64,[(2,kM false)],[]⟩))/\((∀b∈l,iL b=true)->ae (.exit 0,⟨64,[],[]⟩))
theorem qfb:LD X 138 4 (ah (aK 138 4) gNm):=LD.par (H:=[]) (hk:=[]) (by kernel_rfl) (by kernel_rfl) .nil .nil
 (A:=List UInt8) (B:=Int) (λa k=>nmH a k)
 (λa k=>a.length<=32/\0<=k/\k<=a.length/\ ∀i:Nat,(i:Int)<k->iL (a.getD i 0)=true)
 (λa k=>(a.length-k).toNat)
 (λa x=>((¬ ∀b∈a,iL b=true)/\x=(.ret,⟨64,[(2,kM false)],[]⟩))\/((∀b∈a,iL b=true)/\x=(.exit 0,⟨64,[],[]⟩)))
 (by
  rintro l k ⟨hs,h0,h1,he⟩
  (rw[<-qiN];delta Z3 ZR ZA ZU Za Z9 Zw Z1p Zt Yl Z1q Z1r Z1s q9 EI)
  have hb:=Px (l.getD k.toNat 0);have bS: ¬iL (l.getD k.toNat 0)=true->k<l.length-> ¬ ∀b∈l,iL b=true:=λh hk hh=>h ((HX _ l).1 hh k.toNat (by omega));have cv:iL (l.getD k.toNat 0)=true->k<l.length->roundPost (l.length-k).toNat (λm s=> ∃b',s=nmH l b'/\(l.length<=32/\0<=b'/\b'<=(l.length:Int)/\ ∀i:Nat,(i:Int)<b'->iL (l.getD i 0)=true)/\m=(l.length-b').toNat) (λx=>((¬ ∀b∈l,iL b=true)/\x=(.ret,⟨64,[(2,kM false)],[]⟩))\/((∀b∈l,iL b=true)/\x=(.exit 0,⟨64,[],[]⟩))) (PX.normal,nmH l (k+1)):=λh hk=>
   ⟨_,by omega,k+1,rfl,⟨hs,by omega,by omega,λi hi=>by
    by_cases e:(i:Int)=k
    ·have:i=k.toNat:=by omega
     rw[this];exact h
    exact he i (by omega)⟩,rfl⟩
  generalize (((l.getD k.toNat 0).toNat:Nat):Int)=b at*
  refine bf (λh=>bm (by omega) ?_) λh=> .inr ⟨(HX _ l).2 λi hi=>he i (by omega),rfl⟩
  repeat' (first |refine bf (λ_=> ?_) (λ_=> ?_)|refine ig (λ_=> ?_) (λ_=> ?_)|refine zU (λ_=> ?_) (λ_=> ?_))
  all_goals first
   |exact absurd (pM (k:=k) (by omega) (by omega)) (by simp;omega)
   |exact cv (hb.2 (by omega)) h
   |exact .inl ⟨bS (λhh=>by have:=hb.1 hh;omega) h,rfl⟩)
 (by
  rintro s ae ⟨l,rfl,h1,h2,h3⟩;refine⟨l,0,rfl,⟨h1,by omega,by omega,λi hi=>by omega⟩,?_⟩;rintro x (⟨h,rfl⟩| ⟨h,rfl⟩)
  ·exact h2 h
  exact h3 h)
end
def qH(l:List (List UInt8)):List UInt8:=l.flatMap λx=>47::x
def qaT(l:List (List UInt8)):Nat:=(qH l).length
def Z1t(l:List UInt8):S:=S.mk 64 ((0,P.d (D.str l))::Z1a) []
theorem qaU(s:List UInt8)(ae:P×List (Nat×En)->Prop):(bif s==[] then Z4 ae else bif decide (EI s>(32:Int)) then Z4 ae else bif s==Tv then Z4 ae else bif s==(46:UInt8)::Tv then Z4 ae else∃(l:List UInt8),Z1t s=Z1t l/\q9 l<=32/\((¬∀(b:UInt8),b∈l->iL b=true)->Z4 ae)/\((∀(b:UInt8),b∈l->iL b=true)->ZX ae))=(aJ [] [(4,ah (aK 138 4) gNm)] 138 [sD s] []) ae:=by kernel_rfl
section
variable{X:XF}
theorem EJ:FD X 138 C2:=FD.mk (H:=[]) (hk:=[(4,ah (aK 138 4) gNm)]) (by kernel_rfl) .nil (.cons qfb .nil) (by
 intro ps R ae hh;obtain⟨s,rfl,rfl,hp⟩:=hh
 (rw[<-qaU];delta ZW ZX q9 Z7 Z1a Z1t Tv EI Z3 Z4)
 refine aA (λh1=> ?_) λh1=>bf (λh2=> ?_) λh2=>aA (λh3=> ?_) λh3=>aA (λh4=> ?_) λh4=>⟨s,rfl,by omega,λbS=> ?_,λcv=> ?_⟩
 ·exact fW hp (lM λh=>h.1 (by simpa using h1))
 ·exact fW hp (lM λh=>by omega)
 ·exact fW hp (lM λh=>h.2.2.1 (by simpa using h3))
 ·exact fW hp (lM λh=>h.2.2.2.1 (by simpa using h4))
 ·exact fW hp (lM λh=>bS h.2.2.2.2)
 exact fW hp (lL ⟨by simpa using h1,by omega,by simpa using h3,by simpa using h4,cv⟩))
theorem zX{t r i:Int}:lN t r i=[]↔cx t r i=false:=by
 unfold lN;split
 next h=>simp[h,C1]
 rename_i h;simpa using h
theorem TA:FD X 152 KR:=FD.mk (H:=[(138,C2),(177,Tt)]) (hk:=[]) (by kernel_rfl) (.cons EJ (.cons qaS .nil)) .nil (by
 intro ps R ae hh;obtain⟨s,t,r,i,rfl,rfl,hp⟩:=hh
 (rw[<-Tz];delta Z7 rA ZJ q9 Zg Z14 Zk Zl AV vJ Zo ug)
 unfold lO at hp;refine⟨s,rfl,rfl,aA (λh=> ?_) λh=>⟨t,r,i,rfl,rfl,aA (λh2=> ?_) λh2=> ?_⟩⟩
 ·rw[zan (by simpa using h)] at hp;exact hp
 ·have h2:cx t r i=false:=zX.1 (by simpa using h2);rw[zap (by simpa using h),zan (by simp[h2])] at hp;exact hp
 have hn:dO s=true:=by simpa using h
 have hi:cx t r i=true:=by
  cases hi:cx t r i with
  |true=>rfl
  |false=>rw[zX.2 hi] at h2;simp at h2
 rw[zap hn,zap hi] at hp;have hl:=KQ t r i;simp only[dO,zai] at hn;refine bm (by omega) (bm (by simp;omega) ?_);rw[lN,zap hi];simpa using hp)
end
abbrev av:=Int×Int×Int
def bV(x:av):D:= .agg [.int .i64 x.1,.int .i64 x.2.1,.int .i64 x.2.2]
abbrev cI(l:List av):P:= .d (.sl 3 (l.map bV))
abbrev Pl:=av×av×List UInt8×Bool
def eB(p:Pl):D:= .agg [.int .i64 p.1.1,.int .i64 p.1.2.1,.int .i64 p.1.2.2,.int .i64 p.2.1.1,.int .i64 p.2.1.2.1,.int .i64 p.2.1.2.2,.str p.2.2.1,.bool p.2.2.2]
abbrev eL(l:List Pl):P:= .d (.sl 8 (l.map eB))
def zY(p:Pl):Bool:=cx p.1.1 p.1.2.1 p.1.2.2&&dO p.2.2.1
def er(T:List Pl)(x:av):Option Pl:=T.find? λp=>p.1==x
def KS(T:List Pl)(p:Pl):List Pl:=if(er T p.1).isSome then T else if zY p then T++[p] else T
def pw(l:List Pl):List Pl:=l.foldl KS []
theorem ij(p:Pl):cw PR 104 (eB p)=true:=by obtain⟨⟨a,b,c⟩,⟨d,e,f⟩,g,h⟩:=p;kernel_rfl
theorem mg(x:av):cw PR 50 (bV x)=true:=by obtain⟨a,b,c⟩:=x;kernel_rfl
def uh:Pl:=((0,0,0),(0,0,0),[],false)
theorem jf{l:List Pl}{i:Nat}(h:i<l.length):D.nth (l.map eB) i=eB (l.getD i uh):=by rw[ax eB l i h];simp[zad,h]
theorem qfc{l:List av}{i:Nat}(h:i<l.length):D.nth (l.map bV) i=bV (l.getD i (0,0,0)):=by rw[ax bV l i h];simp[zad,h]
theorem KT{α β:Type}(f:β->α->β)(b:β)(l:List α)(d:α)(k:Nat)(h:k<l.length):(l.take (k+1)).foldl f b=f ((l.take k).foldl f b) (l.getD k d):=by rw[zbS,zac h,za7];simp[zad,h]
section
variable{X:XF}
end
def wyF(T:List Pl):Nat->av->List av->Option (List av)
 |0,_,_=>none
 |n+1,x,out=>match er T x with
  |none=>none
  |some p=>if 0<out.length/\p.2.2.2=false then none else if p.2.1=(0,0,0) then some (out++[x]) else wyF T n p.2.1 (out++[x])
def wy(T:List Pl)(x:av):Option (List av):=wyF T (T.length+1) x []
def mh(x y:av):Bool:=decide (x.1<y.1\/x.1=y.1/\(x.2.1<y.2.1\/x.2.1=y.2.1/\x.2.2<y.2.2))
theorem il(x y:av):r3 x.1 x.2.1 x.2.2 y.1 y.2.1 y.2.2<0↔mh x y=true:=by
 unfold mh;simp only[zai,r3,pL,MV,qF]
 (repeat' split)<;>omega
structure Jv{α:Type}(lt:α->α->Bool):Prop where
 Jt: ∀x,lt x x=false
 tr: ∀x y z,lt x y=true->lt y z=true->lt x z=true
 nx: ∀x y,lt x y=false->lt y x=false->x=y
theorem qdm:Jv mh where
 Jt x:=by simp[mh]
 tr x y z:=by simp only[mh,zai];omega
 nx x y:=by
  simp only[mh,zaP];intro h1 h2;obtain⟨a,b,c⟩:=x;obtain⟨d,e,f⟩:=y;simp only at h1 h2;have:a=d:=by omega
  have:b=e:=by omega
  have:c=f:=by omega
  subst_vars
  rfl
theorem Jv.asymm{α:Type}{lt:α->α->Bool}(h:Jv lt){x y:α}(h1:lt x y=true):lt y x=false:=by
 cases h2:lt y x with
 |false=>rfl
 |true=>have:=h.tr _ _ _ h1 h2;rw[h.Jt] at this;cases this
theorem Jv.ntr{α:Type}{lt:α->α->Bool}(h:Jv lt){x y z:α}(h1:lt x y=false)(h2:lt y z=false):lt x z=false:=by
 cases h3:lt x z with
 |false=>rfl
 |true=>
  cases h4:lt y x with
  |true=>rw[h.tr _ _ _ h4 h3] at h2;cases h2
  |false=>have:=h.nx _ _ h1 h4;subst this;rw[h3] at h2;cases h2
section
variable{α:Type}(lt:α->α->Bool)
def oY(a:α):List α->List α
 | []=>[a]
 |b::r=>if lt a b then b::oY a r else a::b::r
def cD(o:List α)(a:α):List α:=(oY lt a o.reverse).reverse
def cm(l:List α):List α:=l.foldl (cD lt) []
variable{lt}
theorem vK(a:α): ∀l,(oY lt a l).Perm (a::l)
 | []=> .refl _
 |b::r=>by
  unfold oY;split
  ·exact((vK a r).cons b).trans (.swap a b r)
  exact .refl _
theorem gS(o:List α)(a:α):(cD lt o a).Perm (o++[a]):=by unfold cD;refine(zcE _).trans ((vK a _).trans ?_);exact((zcE o).cons a).trans (List.perm_append_comm (l₁:=[a]) (l₂:=o))
theorem zZ: ∀(l o:List α),(l.foldl (cD lt) o).Perm (o++l)
 | [],o=>by simp
 |a::r,o=>by refine(zZ r _).trans ?_;exact((gS o a).append_right r).trans (by simp)
theorem bU(l:List α):(cm lt l).Perm l:=by simpa [cm] using zZ (lt:=lt) l []
theorem M1(h:Jv lt)(a:α): ∀l,l.Pairwise (λx y=>lt x y=false)->(oY lt a l).Pairwise (λx y=>lt x y=false)
 | [],_=>by simp[oY]
 |b::r,hp=>by
  unfold oY;have QQ:=zcz.1 hp;split
  next hl=>
   refine zcz.2 ⟨λy hy=> ?_,M1 h a r QQ.2⟩;rcases zav.1 ((vK a r).mem_iff.1 hy) with rfl |hy
   ·exact h.asymm hl
   exact QQ.1 _ hy
  rename_i hl;have hl:lt a b=false:=by simpa using hl
  refine zcz.2 ⟨λy hy=> ?_,hp⟩;rcases zav.1 hy with rfl |hy
  ·exact hl
  exact h.ntr hl (QQ.1 _ hy)
theorem M3(h:Jv lt){o:List α}(a:α)(hp:o.Pairwise (λx y=>lt y x=false)):(cD lt o a).Pairwise (λx y=>lt y x=false):=by unfold cD;rw[zb2];exact M1 h a _ (by rw[zb2];exact hp)
theorem HY(h:Jv lt): ∀(l o:List α),o.Pairwise (λx y=>lt y x=false)->(l.foldl (cD lt) o).Pairwise (λx y=>lt y x=false)
 | [],_,hp=>hp
 |a::r,_,hp=>HY h r _ (M3 h a hp)
theorem HZ(h:Jv lt)(l:List α):(cm lt l).Pairwise (λx y=>lt y x=false):=HY h l [] .nil
end
theorem z6{α β:Type}{lt:β->β->Bool}(h:Jv lt)(key:α->β){a b:List α}(hk: ∀x∈a,∀y∈a,key x=key y->x=y)(hp:a.Perm b)
  (ha:a.Pairwise (λx y=>lt (key y) (key x)=false)) (hb:b.Pairwise (λx y=>lt (key y) (key x)=false)):a=b:=
 List.Perm.eq_of_pairwise (le:=λx y=>lt (key y) (key x)=false) (λx y hx hy h1 h2=>hk x hx y (hp.mem_iff.2 hy) (h.nx _ _ h2 h1)) ha hb hp
theorem H0{α β:Type}{lt:β->β->Bool}(key:α->β)(a:α): ∀l:List α,(oY (λx y=>lt (key x) (key y)) a l).map key=oY lt (key a) (l.map key)
 | []=>rfl
 |b::r=>by
  simp only[oY,zbg];split
  ·simp[H0 key a r]
  simp
theorem TB{α β:Type}{lt:β->β->Bool}(key:α->β)(o:List α)(a:α):(cD (λx y=>lt (key x) (key y)) o a).map key=cD lt (o.map key) (key a):=by unfold cD;rw[List.map_reverse,H0,List.map_reverse]
theorem C3{α β:Type}{lt:β->β->Bool}(key:α->β): ∀l o:List α,(l.foldl (cD (λx y=>lt (key x) (key y))) o).map key=(l.map key).foldl (cD lt) (o.map key)
 | [],_=>rfl
 |a::r,o=>by simp only[zaU,zbg];rw[C3 key r,TB]
theorem nN{α β:Type}{lt:β->β->Bool}(h:Jv lt)(key:α->β)(l:List α):(cm (λx y=>lt (key x) (key y)) l).Pairwise (λx y=>lt (key y) (key x)=false):=by have e:(cm (λx y=>lt (key x) (key y)) l).map key=cm lt (l.map key):=C3 key l [];have:=HZ h (l.map key);rw[<-e,zck] at this;exact this
abbrev aB:av:=(0,0,0)
inductive Up(T:List Pl):av->List av->Prop
 |top {x:av} {p:Pl} (h:er T x=some p) (h0:p.2.1=aB):Up T x [x]
 |step {x:av} {p q:Pl} {w:List av} (h:er T x=some p) (h0:p.2.1≠aB) (hq:er T p.2.1=some q) (hd:q.2.2.2=true) (hw:Up T p.2.1 w):Up T x (x::w)
section
variable{T:List Pl}
theorem jK{x:av}{p:Pl}(h:er T x=some p):p∈T/\p.1=x:=by unfold er at h;exact⟨zb6 h,by simpa using zcS h⟩
theorem Up.one{x:av}{w:List av}(h:Up T x w): ∀{w'},Up T x w'->w=w':=by
 induction h with
 |top h h0=>
  intro w' h';cases h' with
  |top=>rfl
  |step h1 h2=>rw[h] at h1;cases h1;exact absurd h0 h2
 |step h h0 hq hd hw ih=>
  intro w' h';cases h' with
  |top h1 h2=>rw[h] at h1;cases h1;exact absurd h2 h0
  |step h1 h2 _ _ h5=>rw[h] at h1;cases h1;rw[ih h5]
theorem Up.hd{x:av}{w:List av}(h:Up T x w): ∃r,w=x::r:=by
 cases h with
 |top=>exact⟨_,rfl⟩
 |step=>exact⟨_,rfl⟩
theorem Up.at{x:av}{w:List av}(h:Up T x w): ∃p,er T x=some p:=by
 cases h with
 |top h=>exact⟨_,h⟩
 |step h=>exact⟨_,h⟩
theorem Up.sub{x:av}{w:List av}(h:Up T x w): ∀u∈w,∃w',Up T u w'/\w'.length<=w.length/\ ∃v,w=v++w':=by
 induction h with
 |top h h0=>intro u hu;simp at hu;subst hu;exact⟨_,.top h h0,by simp,[],rfl⟩
 | @step x p q w h h0 hq hd hw ih=>
  intro u hu;rcases zav.1 hu with rfl |hu
  ·exact⟨_,.step h h0 hq hd hw,zak _,[],rfl⟩
  obtain⟨w',h1,h2,v,h3⟩:=ih u hu;exact⟨w',h1,by simp;omega,x::v,by rw[h3];rfl⟩
theorem Up.nodup{x:av}{w:List av}(h:Up T x w):w.Nodup:=by
 induction h with
 |top=>simp
 | @step x p q w h h0 hq hd hw ih=>refine zbd.2 ⟨λhx=> ?_,ih⟩;obtain⟨w',h1,h2,_⟩:=hw.sub x hx;have:=h1.one (.step h h0 hq hd hw);rw[this] at h2;simp at h2;omega
theorem Up.len{x:av}{w:List av}(h:Up T x w):w.length<=T.length:=by
 have:w⊆T.map (·.1):=λu hu=>by obtain⟨w',h1,_⟩:=h.sub u hu;obtain⟨p,hp⟩:=h1.at;obtain⟨h2,h3⟩:=jK hp;exact zaB.2 ⟨p,h2,h3⟩
 simpa using h.nodup.length_le_of_subset this
theorem TC: ∀(n:Nat) (x:av) (out l:List av),wyF T n x out=some l->(∀p,0<out.length->er T x=some p->p.2.2.2=true)-> ∃w,l=out++w/\Up T x w
 |0,_,_,_,h,_=>by cases h
 |n+1,x,out,l,h,hd=>by
  unfold wyF at h;cases hp:er T x with
  |none=>rw[hp] at h;cases h
  |some p=>
   rw[hp] at h;simp only at h;split at h
   ·cases h
   split at h
   ·cases h;exact⟨[x],rfl,.top hp (by assumption)⟩
   rename_i h0 h1;cases hq:er T p.2.1 with
   |none=>
    cases n with
    |zero=>cases h
    |succ n=>unfold wyF at h;rw[hq] at h;cases h
   |some q=>
    have qiO:q.2.2.2=true:=by
     cases n with
     |zero=>cases h
     |succ n=>
      unfold wyF at h;rw[hq] at h;simp only at h;split at h
      ·cases h
      rename_i hh;cases hqd:q.2.2.2 with
      |true=>rfl
      |false=>exact absurd ⟨by simp,hqd⟩ hh
    obtain⟨w,e,hw⟩:=TC n p.2.1 (out++[x]) l h λp' _ QQ=>by rw[hq] at QQ;cases QQ;exact qiO
    exact⟨x::w,by rw[e];simp,.step hp h1 hq qiO hw⟩
theorem qfd{x:av}{w:List av}(h:Up T x w): ∀(n:Nat) (out:List av),w.length<=n->(∀p,0<out.length->er T x=some p->p.2.2.2=true)->wyF T n x out=some (out++w):=by
 induction h with
 | @top x p h h0=>
  intro n out hn hd;cases n with
  |zero=>simp at hn
  |succ n=>unfold wyF;simp only[h];rw[zan (λhh=>by have:=hd p hh.1 h;rw[hh.2] at this;cases this),zap h0]
 | @step x p q w h h0 hq hd' hw ih=>
  intro n out hn hd;cases n with
  |zero=>simp at hn
  |succ n=>unfold wyF;simp only[h];rw[zan (λhh=>by have:=hd p hh.1 h;rw[hh.2] at this;cases this),zan h0];rw[ih n (out++[x]) (by simp at hn;omega) λp' _ QQ=>by rw[hq] at QQ;cases QQ;exact hd'];simp
theorem KU{x:av}{w:List av}:wy T x=some w↔Up T x w:=by
 constructor
 ·intro h;obtain⟨w',e,hw⟩:=TC _ _ _ _ h (λ_ h=>by simp at h);rw[e];exact hw
 intro h;have:=qfd h (T.length+1) [] (by have:=h.len;omega) (λ_ h=>by simp at h);rw[zbk] at this;exact this
def ui(T:List Pl):Nat->av->Bool
 |0,_=>false
 |n+1,x=>match er T x with
  |none=>false
  |some p=>if p.2.1=aB then true else match er T p.2.1 with
   |none=>false
   |some q=>if q.2.2.2=false then false else ui T n p.2.1
def lP(T:List Pl)(x:av):Bool:=ui T (T.length+1) x
theorem H2: ∀(n:Nat) (x:av),ui T n x=true-> ∃w,Up T x w
 |0,_,h=>by cases h
 |n+1,x,h=>by
  unfold ui at h;cases hp:er T x with
  |none=>rw[hp] at h;cases h
  |some p=>
   rw[hp] at h;simp only at h;split at h
   ·exact⟨_,.top hp (by assumption)⟩
   rename_i h0;cases hq:er T p.2.1 with
   |none=>rw[hq] at h;cases h
   |some q=>
    rw[hq] at h;simp only at h;split at h
    ·cases h
    rename_i hd;obtain⟨w,hw⟩:=H2 n _ h;exact⟨_,.step hp h0 hq (by simpa using hd) hw⟩
theorem TD{x:av}{w:List av}(h:Up T x w): ∀n,w.length<=n->ui T n x=true:=by
 induction h with
 | @top x p h h0=>
  intro n hn;cases n with
  |zero=>simp at hn
  |succ n=>unfold ui;simp only[h];rw[zap h0]
 | @step x p q w h h0 hq hd hw ih=>
  intro n hn;cases n with
  |zero=>simp at hn
  |succ n=>unfold ui;simp only[h,hq];rw[zan h0,zan (by rw[hd];simp)];exact ih n (by simp at hn;omega)
theorem z7{x:av}:lP T x=true↔ ∃w,Up T x w:=
 ⟨H2 _ _,λ⟨_,h⟩=>TD h _ (by have:=h.len;omega)⟩
def mE(T:List Pl):Nat->av->av->Bool
 |0,_,_=>true
 |n+1,x,up=>if x=up then true else match er T x with
  |none=>false
  |some p=>mE T n p.2.1 up
def within(T:List Pl)(x up:av):Bool:=mE T (T.length+1) x up
theorem KV{x:av}{w:List av}(h:Up T x w){up:av}(hu:up≠aB)(h00:er T aB=none): ∀n,w.length<n->mE T n x up=decide (up∈w):=by
 induction h with
 | @top x p h h0=>
  intro n hn
  match n,hn with
  |n+2,_=>
   unfold mE;simp only[h];split
   next e=>simp[e]
   rename_i e;unfold mE;rw[h0,zan (λh=>hu h.symm)];simp only[h00];simpa using λh:up=x=>e h.symm
  |1,hn=>simp at hn
 | @step x p q w h h0 hq hd hw ih=>
  intro n hn;cases n with
  |zero=>simp at hn
  |succ n=>
   unfold mE;simp only[h];split
   next e=>simp[e]
   rename_i e;rw[ih n (by simp at hn;omega)];have:up≠x:=λh=>e h.symm;simp[this]
def marked(T:List Pl)(live:List av)(z:av):Bool:=live.any λx=>match wy T x with |some w=>w.contains z |none=>false
theorem sJ{live:List av}{z:av}:marked T live z=true↔ ∃x∈live,∃w,Up T x w/\z∈w:=by
 unfold marked;rw[zbo];constructor
 ·rintro⟨x,hx,h⟩;cases hw:wy T x with
  |none=>rw[hw] at h;cases h
  |some w=>rw[hw] at h;exact⟨x,hx,w,KU.1 hw,by simpa using h⟩
 rintro⟨x,hx,w,hw,hz⟩;exact⟨x,hx,by rw[KU.2 hw];simpa using hz⟩
def a8(T:List Pl)(live:List av):List Pl:=T.filter λp=>marked T live p.1
theorem C4{live:List av}{z:av}(h:marked T live z=true): ∃w,Up T z w/\ ∀u∈w,marked T live u=true:=by obtain⟨x,hx,w,hw,hz⟩:=sJ.1 h;obtain⟨w',h1,_,v,h3⟩:=hw.sub z hz;exact⟨w',h1,λu hu=>sJ.2 ⟨x,hx,w,hw,by rw[h3];exact zbc _ hu⟩⟩
def mkF(S:List av):List av->List av
 | []=>S
 |u::r=>if u∈S then S else mkF (S++[u]) r
def UpC(T:List Pl)(S:List av):Prop:= ∀z∈S,∃w,Up T z w/\ ∀u∈w,u∈S
theorem qaV{x:av}{w:List av}(h:Up T x w): ∀{S:List av},(∀u∈w,u∈S-> ∀w',Up T u w'-> ∀z∈w',z∈S)-> ∀z,z∈mkF S w↔z∈S\/z∈w:=by
 induction h with
 | @top x p h h0=>
  intro S hC z;unfold mkF;split
  next hx=>exact⟨.inl,λh=>h.elim id λhz=>by simp at hz;exact hz▸hx⟩
  simp[mkF]
 | @step x p q w h h0 hq hd hw ih=>
  intro S hC z;unfold mkF;split
  next hx=>exact⟨.inl,λhz=>hz.elim id λhz=>hC x (by simp) hx _ (.step h h0 hq hd hw) z hz⟩
  rename_i hx;have hn:=(Up.step h h0 hq hd hw).nodup;have hxw:x∉w:=(zbd.1 hn).1;rw[ih (λu hu hS w' Hx z hz=>by
   have hS':u∈S:=by
    rcases zay.1 hS with h |h
    ·exact h
    simp at h;subst h;exact absurd hu hxw
   exact zbn _ (hC u (by simp[hu]) hS' w' Hx z hz))]
  simp[or_assoc]
theorem UpC.in{S:List av}(h:UpC T S){z:av}(hz:z∈S){w:List av}(hw:Up T z w): ∀u∈w,u∈S:=by obtain⟨w',h1,h2⟩:=h z hz;rw[hw.one h1];exact h2
theorem UpC.mk{x:av}{w:List av}(h:Up T x w){S:List av}(hS:UpC T S):UpC T (mkF S w)/\ ∀z,z∈mkF S w↔z∈S\/z∈w:=by
 have hm:=qaV h (S:=S) λu _ hu w' Hx=>hS.in hu Hx;refine⟨λz hz=> ?_,hm⟩;rcases(hm z).1 hz with hz |hz
 ·obtain⟨w',h1,h2⟩:=hS z hz;exact⟨w',h1,λu hu=>(hm u).2 (.inl (h2 u hu))⟩
 obtain⟨w',h1,_,v,h3⟩:=h.sub z hz;exact⟨w',h1,λu hu=>(hm u).2 (.inr (by rw[h3];exact zbc _ hu))⟩
def qiP(T:List Pl)(live:List av):List av:=(a8 T live).map (·.1)
def Uq(T:List Pl):Prop:=(T.map (·.1)).Nodup
theorem M4(hu:Uq T){p:Pl}(hp:p∈T):er T p.1=some p:=by
 unfold er;unfold Uq at hu
 induction T with
 |nil=>cases hp
 |cons a r ih=>
  rw[zbg,zbd] at hu;rw[List.find?_cons];rcases zav.1 hp with rfl |hp
  ·simp
  have:(a.1==p.1)=false:=by simp only[zc0,ne_eq];exact λe=>hu.1 (e▸za8 hp)
  rw[this];exact ih hu.2 hp
theorem H3(hu:Uq T)(live:List av):(qiP T live).Nodup:=
 List.Nodup.sublist (zcb.map _) hu
end
abbrev ay:=Int×Int
structure bc where
 kind:Int
 node:av
 parent:av
 name:List UInt8
 dir:Bool
 cp:List ay
 after:av
 elem:av
 text:List UInt8
 elems:List av
structure ak where
 s:ay
 n:Int
 deps:List Int
 bs:ay
 ops:List bc
abbrev jP(a b:ay):Bool:=sI a.1 a.2 b.1 b.2
abbrev EK(a:ay):Bool:=vF a.1 a.2
abbrev rgX(x:av):Bool:=cx x.1 x.2.1 x.2.2
abbrev BT(x:av):ay:=(x.1,x.2.1)
def lQ(n:Nat)(f:Nat->Bool):Bool:=(List.range n).all f
theorem H4{n:Nat}{f:Nat->Bool}:lQ n f=true↔ ∀i,i<n->f i=true:=by simp[lQ]
theorem EL{n i:Nat}{f:Nat->Bool}(hi:i<n)(h:f i=false):lQ n f=false:=by
 cases hh:lQ n f with
 |false=>rfl
 |true=>rw[H4.1 hh i hi] at h;cases h
theorem vL{n:Nat}{f:Nat->Bool}(h: ∀i,i<n->f i=true):lQ n f=true:=H4.2 h
def cZ(s:ay)(k:Int)(x:av):Bool:=rgX x&&(jP (BT x) s ||BT x==s&&decide (x.2.2<k))
def mj(s:ay)(k:Int)(x:av):Bool:=x==aB ||cZ s k x
def ml(s:ay)(l:List ay)(i:Nat):Bool:=EK (l.getD i (0,0))&& !jP s (l.getD i (0,0))&&(i==0 ||jP (l.getD (i-1) (0,0)) (l.getD i (0,0)))
def nO(s:ay)(l:List ay):Bool:=lQ l.length (ml s l)&&decide (l.length<=200)
def C5(s:ay)(k:Int)(l:List av)(i:Nat):Bool:=cZ s k (l.getD i aB)&&(i==0 ||mh (l.getD (i-1) aB) (l.getD i aB))
def uj(s:ay)(k:Int)(l:List av):Bool:=lQ l.length (C5 s k l)&&decide (1<=l.length/\l.length<=2000)
def mF(o:bc)(place dir cp run elems:Bool):Bool:=
 (place ||o.parent==aB&&o.name==[])&&(dir || !o.dir)&&(cp ||o.cp.length==0)&&(run ||o.after==aB&&o.elem==aB&&o.text==[])&&(elems ||o.elems.length==0)
def fE(o:bc):Bool:=mF o (o.kind==0 ||o.kind==1) (o.kind==0) (o.kind==2) (o.kind==3) (o.kind==4)
def BU(s:List UInt8):Int:=Lib.runeCount ⟨⟨s⟩⟩
def nP(s:List UInt8):Bool:=Lib.validD s&&decide (1<=BU s/\BU s<=2000)
def kN(s:ay)(k:Int)(o:bc):Option Int:=
 if fE o=false then none
 else if o.kind=0 then(if o.node=(s.1,s.2,k)/\mj s k o.parent=true/\dO o.name=true then some 1 else none)
 else if o.kind=1 then(if cZ s k o.node=true/\mj s k o.parent=true/\dO o.name=true then some 0 else none)
 else if o.kind=2 then(if cZ s k o.node=true/\nO s o.cp=true then some 0 else none)
 else if o.kind=3 then(if cZ s k o.node=true/\mj s k o.after=true/\o.elem=(s.1,s.2,k)/\nP o.text=true then some (BU o.text) else none)
 else if o.kind=4 then(if cZ s k o.node=true/\uj s k o.elems=true then some 0 else none)
 else none
def jg(s:ay):Int->List bc->Bool
 |_,[]=>true
 |k,o::r=>match kN s k o with |some n=>jg s (k+n) r |none=>false
def TE(g:ak):Bool:=EK g.s&&decide (1<=g.n/\g.n<=1099511627776)&&cO g.deps&&(eK g.deps g.s.2==g.n-1)
def cy(g:ak):Bool:=TE g&&(if g.bs≠(0,0) then EK g.bs&&jP g.bs g.s&&g.ops.length==0 else decide (1<=g.ops.length/\g.ops.length<=200)&&jg g.s 0 g.ops)
abbrev Hd:=ay×ay
theorem iM:Jv (λa b:ay=>jP a b) where
 Jt x:=by simp[sI]
 tr x y z:=by simp only[sI,zai];omega
 nx x y:=by
  simp only[sI,zaP];intro h1 h2;obtain⟨a,b⟩:=x;obtain⟨c,d⟩:=y;simp only at h1 h2;have:a=c:=by omega
  have:b=d:=by omega
  subst_vars
  rfl
def Jw(o:List Hd)(h:Hd):List Hd:=if(o.any λx=>x.1==h.1)=true then o else o++[h]
def rB(l:List Hd):List Hd:=l.foldl Jw []
theorem Py{o:List Hd}(h:Hd)(ho:(o.map (·.1)).Nodup):((Jw o h).map (·.1)).Nodup:=by
 unfold Jw;split
 ·exact ho
 rename_i hn;rw[zau,za6];refine⟨ho,by simp,λa ha b hb e=> ?_⟩;simp at hb;subst hb;subst e;obtain⟨x,hx,he⟩:=zaB.1 ha;exact hn (zbo.2 ⟨x,hx,by simpa using he⟩)
theorem C6: ∀(l o:List Hd),(o.map (·.1)).Nodup->((l.foldl Jw o).map (·.1)).Nodup
 | [],_,h=>h
 |x::r,_,h=>C6 r _ (Py x h)
theorem C7(l:List Hd):((rB l).map (·.1)).Nodup:=C6 l [] (by simp)
theorem qaW(o:List Hd)(h:Hd):(Jw o h).length<=o.length+1:=by
 unfold Jw;split
 ·omega
 simp
theorem M5: ∀(l o:List Hd),(l.foldl Jw o).length<=o.length+l.length
 | [],_=>by simp
 |x::r,o=>by have:=M5 r (Jw o x);have:=qaW o x;simp only[zaU,zao];omega
theorem ra(l:List Hd):(rB l).length<=l.length:=by simpa [rB] using M5 l []
theorem M6: ∀(l o:List Hd),((o++l).map (·.1)).Nodup->l.foldl Jw o=o++l
 | [],o,_=>by simp
 |x::r,o,h=>by
  have e:Jw o x=o++[x]:=by unfold Jw;rw[zan];intro hx;obtain⟨y,hy,he⟩:=zbo.1 hx;rw[zau,za6] at h;exact h.2.2 y.1 (za8 hy) x.1 (by simp) (by simpa using he)
  rw[zaU,e,M6 r (o++[x]) (by simpa using h)];simp
theorem M7{l:List Hd}(h:(l.map (·.1)).Nodup):rB l=l:=by unfold rB;rw[M6 l [] (by simpa using h)];rfl
def ltH(a b:Hd):Bool:=jP a.1 b.1
def lR(l:List Hd):List Hd:=cm ltH (rB l)
theorem lS{α β:Type}{f:α->β}: ∀{l:List α},(l.map f).Nodup-> ∀x∈l,∀y∈l,f x=f y->x=y
 | [],_,x,hx,_,_,_=>by cases hx
 |a::r,h,x,hx,y,hy,e=>by
  rw[zbg,zbd] at h;rcases zav.1 hx with DZ |DZ
  ·rcases zav.1 hy with Bz |Bz
   ·rw[DZ,Bz]
   exact absurd (zaB.2 ⟨y,Bz,by rw[<-e,DZ]⟩) h.1
  rcases zav.1 hy with Bz |Bz
  ·exact absurd (zaB.2 ⟨x,DZ,by rw[e,Bz]⟩) h.1
  exact lS h.2 x DZ y Bz e
theorem M8{l a:List Hd}(hp:a.Perm (rB l))(ha:a.Pairwise λx y=>ltH y x=false):a=lR l:=
 z6 iM (λa:Hd=>a.1) (λx hx y hy e=>lS (C7 l) x (hp.mem_iff.1 hx) y (hp.mem_iff.1 hy) e) (hp.trans (bU _).symm) ha (nN iM (λa:Hd=>a.1) _)
theorem H5(l:List Hd):(lR l).length<=l.length:=by unfold lR;rw[(bU _).length_eq];exact ra l
def x6(on:List Hd)(h:Hd):List Hd:=if(on.any λx=>x.2==h.1)=true then on else on++[h]
def x7(l on:List Hd):List Hd:=l.foldl x6 on
def AW(l:List Hd):List ay:=((x7 (lR l).reverse []).map (·.1)).reverse
theorem qaX(o:List Hd)(h:Hd):(x6 o h).length<=o.length+1:=by
 unfold x6;split
 ·omega
 simp
theorem uk: ∀(l o:List Hd),(x7 l o).length<=o.length+l.length
 | [],_=>by simp[x7]
 |x::r,o=>by
  have:=uk r (x6 o x);have:=qaX o x;simp only[x7,zaU,zao] at*
  omega
theorem qaY(l:List Hd):(AW l).length<=l.length:=by unfold AW;have h1:=uk (lR l).reverse [];have h2:=H5 l;simp at h1⊢;omega
def kO(o:List ak)(g:ak):List ak:=if cy g=true/\(o.any λx=>x.s==g.s)=false then o++[g] else o
def aw(l:List ak):List ak:=l.foldl kO []
def eC(g:ak):Hd:=(g.s,g.bs)
def qI(l:List ak):List Hd:=(aw l).map eC
theorem TG(o:List ak)(g:ak):(kO o g).length<=o.length+1:=by
 unfold kO;split
 ·simp
 omega
theorem H6: ∀(l o:List ak),(l.foldl kO o).length<=o.length+l.length
 | [],_=>by simp
 |x::r,o=>by have:=H6 r (kO o x);have:=TG o x;simp only[zaU,zao];omega
theorem dP(l:List ak):(aw l).length<=l.length:=by simpa [aw] using H6 l []
theorem H7(l:List ak)(g:ak):aw (l++[g])=kO (aw l) g:=by simp[aw]
theorem TH{P:ak->Prop}(hP: ∀g,cy g=true->P g): ∀(l o:List ak),(∀g∈o,P g)-> ∀g∈l.foldl kO o,P g
 | [],_,h=>h
 |x::r,o,h=>by
  refine TH hP r _ ?_;intro g hg;unfold kO at hg;split at hg
  next hx=>
   rcases zay.1 hg with hg |hg
   ·exact h g hg
   simp at hg;subst hg;exact hP _ hx.1
  exact h g hg
theorem gI{l:List ak}: ∀g∈aw l,cy g=true:=TH (P:=λg=>cy g=true) (λ_ h=>h) l [] (λ_ h=>by cases h)
theorem z8: ∀(l o:List ak),(o.map (·.s)).Nodup->((l.foldl kO o).map (·.s)).Nodup
 | [],_,h=>h
 |x::r,o,h=>by
  refine z8 r _ ?_;unfold kO;split
  next hx=>rw[zau,za6];refine⟨h,by simp,λa ha b hb e=> ?_⟩;simp at hb;subst hb;subst e;obtain⟨y,hy,he⟩:=zaB.1 ha;have:=hx.2;rw[zcF] at this;exact this y hy (by simpa using he)
  exact h
theorem im(l:List ak):((aw l).map (·.s)).Nodup:=z8 l [] (by simp)
theorem EM(l:List ak):((qI l).map (·.1)).Nodup:=by
 have e:(qI l).map (·.1)=(aw l).map (·.s):=by simp[qI,eC,zcj]
 rw[e];exact im l
theorem H8: ∀(l o:List ak),(∀g∈l,cy g=true)->((o++l).map (·.s)).Nodup->l.foldl kO o=o++l
 | [],o,_,_=>by simp
 |x::r,o,hc,h=>by
  have e:kO o x=o++[x]:=by unfold kO;rw[zap];refine⟨hc x (.head _),?_⟩;rw[zcF];intro y hy he;rw[zau,za6] at h;exact h.2.2 y.s (za8 hy) x.s (by simp) (by simpa using he)
  rw[zaU,e,H8 r (o++[x]) (λg hg=>hc g (.tail _ hg)) (by simpa using h)];simp
theorem Aa{l:List ak}(hc: ∀g∈l,cy g=true)(h:(l.map (·.s)).Nodup):aw l=l:=by unfold aw;rw[H8 l [] hc (by simpa using h)];rfl
def Ym(r:Int)(m:Int)(g:ak):Int:=if g.s.2=r then max m g.n else m
def x8(l:List ak)(r:Int):Int:=l.foldl (Ym r) 0
def sK(l:List ak):List Int:=pK 16 λi=>x8 l ((i:Int)+1)
def xr(l:List ak):List Int:=bk (sK l)
theorem TI(l:List ak)(g:ak)(r:Int):x8 (l++[g]) r=if g.s.2=r then max (x8 l r) g.n else x8 l r:=by simp[x8,Ym]
theorem iq(l:List ak):(sK l).length=16:=by simp[sK]
theorem um(l:List ak)(i:Nat):(sK l).getD i 0=if i<16 then x8 l ((i:Int)+1) else 0:=by unfold sK;rw[ud]
theorem TJ{l:List ak}{g:ak}(h1:1<=g.s.2)(h2:g.s.2<=16):(sK l).set (g.s.2-1).toNat (max ((sK l).getD (g.s.2-1).toNat 0) g.n)=sK (l++[g]):=by
 refine ext_get (by simp[iq]) λi=> ?_;rw[um,um,zap (by omega)];have e0:(((g.s.2-1).toNat:Nat):Int)+1=g.s.2:=by omega
 rw[e0];by_cases hi:i<16
 ·rw[zap hi,TI];by_cases he:(g.s.2-1).toNat=i
  ·subst he;rw[e0,zap rfl,zad,zbX (by rw[iq];exact hi),zb9]
  rw[zan (by omega)];simp only[zad,za3 he];have:=um l i;rw[zap hi] at this;simpa [zad] using this
 rw[zan hi,oW (by simp[iq];omega)]
theorem TK:sK []=List.replicate 16 0:=by rfl
theorem M9(l:List ak)(r:Int)(h1:1<=r)(h2:r<=16):eK (xr l) r=x8 l r:=by rw[mD _ h1,xr,zP,um,zap (by omega)];congr 1;omega
theorem TL(l:List ak):(xr l).length<=16:=by have:=qE (sK l) (sK l).length;rw[xr,oV];rw[iq] at this⊢;exact this
theorem Ab{r B:Int}: ∀(l:List ak) (m:Int),m<=B->(∀g∈l,g.n<=B)->l.foldl (Ym r) m<=B
 | [],_,h,_=>h
 |g::t,m,h,hl=>by
  refine Ab t _ ?_ λx hx=>hl x (.tail _ hx);have:=hl g (.head _);unfold Ym;split
  ·omega
  exact h
theorem TM{r:Int}: ∀(l:List ak) (m:Int),m<=l.foldl (Ym r) m/\ ∀g∈l,g.s.2=r->g.n<=l.foldl (Ym r) m
 | [],m=>⟨zbF _,λ_ h=>by cases h⟩
 |g::t,m=>by
  obtain⟨h1,h2⟩:=TM (r:=r) t (Ym r m g);have h3:m<=Ym r m g/\(g.s.2=r->g.n<=Ym r m g):=by
   unfold Ym;split
   ·exact⟨by omega,λ_=>by omega⟩
   rename_i h;exact⟨zbF _,λe=>absurd e h⟩
  refine⟨Int.le_trans h3.1 h1,λx hx hr=> ?_⟩;rcases zav.1 hx with rfl |hx
  ·exact Int.le_trans (h3.2 hr) h1
  exact h2 x hx hr
theorem lT(l:List ak)(r:Int):0<=x8 l r:=(TM (r:=r) l 0).1
def fj(l:List ak):Int:=l.foldl (λt g=>max t g.s.1) 0
theorem H9(l:List ak)(g:ak):fj (l++[g])=max (fj l) g.s.1:=by simp[fj]
theorem Ac{B:Int}(hB:0<=B): ∀(l:List ak),(∀g∈l,g.s.1<=B)->fj l<=B:=by
 intro l h;have key: ∀(l:List ak) (m:Int),m<=B->(∀g∈l,g.s.1<=B)->l.foldl (λt g=>max t g.s.1) m<=B:=by
  intro l
  induction l with
  |nil=>intro m h _;exact h
  |cons g t ih=>intro m h hl;refine ih _ ?_ λx hx=>hl x (.tail _ hx);have:=hl g (.head _);show max m g.s.1<=B;omega
 exact key l 0 hB h
theorem gf(l:List ak):0<=fj l/\ ∀g∈l,g.s.1<=fj l:=by
 have key: ∀(l:List ak) (m:Int),m<=l.foldl (λt g=>max t g.s.1) m/\ ∀g∈l,g.s.1<=l.foldl (λt g=>max t g.s.1) m:=by
  intro l
  induction l with
  |nil=>intro m;exact⟨zbF _,λ_ h=>by cases h⟩
  |cons g t ih=>
   intro m;obtain⟨h1,h2⟩:=ih (max m g.s.1);refine⟨by simp only[zaU];omega,λx hx=> ?_⟩;simp only[zaU];rcases zav.1 hx with rfl |hx
   ·omega
   exact h2 x hx
 exact key l 0
def noG:ak:=⟨(0,0),0,[],(0,0),[]⟩
def Na(l:List ak)(r:Int):ak:=⟨(fj l+1,r),x8 l r+1,xr l,(0,0),[]⟩
def lU(l:List ak)(r:Int):Int:=if ¬(1<=r/\r<=16) then 1 else if max (fj l+1) (x8 l r+1)>1099511627776 then 2 else 0
def nQ(l:List ak)(r:Int):ak:=if lU l r=0 then Na l r else noG
def gtG(a b:ak):Bool:=jP b.s a.s
def bt(l:List ak)(r:Int):List ak:=cm gtG (l.filter λg=>g.s.2==r)
theorem dB(l:List ak)(r:Int):(bt l r).Perm (l.filter λg=>g.s.2==r):=bU _
theorem EN:Jv (λa b:ay=>jP b a) where
 Jt x:=iM.Jt x
 tr x y z h1 h2:=iM.tr z y x h2 h1
 nx x y h1 h2:=(iM.nx y x h1 h2).symm
theorem Nb{l a:List ak}{r:Int}(hn:(l.map (·.s)).Nodup)(hp:a.Perm (l.filter λg=>g.s.2==r))(ha:a.Pairwise λx y=>gtG y x=false):a=bt l r:=
 z6 EN (λg:ak=>g.s) (λx hx y hy e=>lS hn x ((zbv.1 (hp.mem_iff.1 hx)).1) y ((zbv.1 (hp.mem_iff.1 hy)).1) e) (hp.trans (dB l r).symm) ha (nN EN (λg:ak=>g.s) _)
def dL(on:List ay):List ak->Option ay
 | []=>none
 |g::t=>if g.bs=(0,0)/\g.s∈on then some g.s else dL on t
def ku(l:List Hd):Nat->ay->Bool->Int×ay×Bool
 |0,_,_=>(11,(0,0),false)
 |n+1,x,even=>match(l.find? λh=>h.1==x).map (·.2) with
  |none=>(111,(0,0),false)
  |some u=>if u=(0,0) then(0,x,even) else ku l n u (!even)
def mG(l:List Hd)(x:ay):Int×ay×Bool:=ku l (l.length+1) x true
def uo(l:List Hd)(x:ay):Bool:=(mG l x).1==0&& !(mG l x).2.2
def bW(l:List Hd)(on:List ay):List ak->Option ay
 | []=>none
 |g::t=>if g.bs=(0,0) then none else if uo l g.s=true/\g.s∈on then some g.s else bW l on t
def qfe(o:Option ay):ay×Int:=match o with |some s=>(s,0)|none=>((0,0),200)
def fP(l:List ak):List ay:=AW ((aw l).map eC)
def nR(l:List ak)(r:Int):ay×Int:=qfe (dL (fP l) (bt (aw l) r))
def kx(l:List ak)(r:Int):ay×Int:=qfe (bW (qI l) (fP l) (bt (aw l) r))
theorem Pz{l m:List Hd}(hn:(l.map (·.1)).Nodup)(hp:m.Perm l)(x:ay):m.find? (λh=>h.1==x)=l.find? (λh=>h.1==x):=by
 have hm:(m.map (·.1)).Nodup:=(hp.map (·.1)).nodup_iff.2 hn;cases h:l.find? (λh=>h.1==x) with
 |none=>rw[zch] at h⊢;exact λy hy=>h y (hp.mem_iff.1 hy)
 |some a=>
  have ha:=zb6 h;have hax:=zcS h;cases h2:m.find? (λh=>h.1==x) with
  |none=>rw[zch] at h2;exact absurd hax (h2 a (hp.mem_iff.2 ha))
  |some b=>have hb:=zb6 h2;have hbx:=zcS h2;have:b=a:=lS hn b (hp.mem_iff.1 hb) a ha (by simp at hax hbx;rw[hax,hbx]);rw[this]
abbrev aZ:=av×ay
structure Tl where
 a:List av
 p:List Pl
 h:List aZ
 g:List aZ
def tl0:Tl:=⟨[],[],[],[]⟩
def sL(o:bc):Pl:=(o.node,o.parent,o.name,o.dir)
def fX(on:Bool)(o:bc):Bool:=o.kind==0 || (o.kind==1&&on)
def gu(on:Bool)(o:bc):Bool:=on&& !(o.kind==2)
def TN(on:Bool)(s:ay)(t:Tl)(o:bc)(k:Nat):Tl:=
 ⟨if fX on o=true then t.a++[(s.1,s.2,(k:Int))] else t.a,if fX on o=true then t.p++[sL o] else t.p,
  if gu on o=true then t.h++[(o.node,s)] else t.h,if on=true then t.g++o.cp.map (λd=>(o.node,d)) else t.g⟩
def Ia(on:Bool)(s:ay)(l:List bc)(t:Tl):Tl:=l.zipIdx.foldl (λt p=>TN on s t p.1 p.2) t
def Jx(on:List ay)(t:Tl)(g:ak):Tl:=Ia (decide (g.s∈on)) g.s g.ops t
def jQ(on:List ay)(l:List ak):Tl:=l.foldl (Jx on) tl0
theorem Ad{on:Bool}{s:ay}{l:List bc}{t:Tl}{i:Nat}(h:i<l.length):Ia on s (l.take (i+1)) t=TN on s (Ia on s (l.take i) t) l[i] i:=by unfold Ia;rw[zae h,zc6,za7];simp[zas,zcq (Nat.le_of_lt h)]
theorem uq{on:List ay}{l:List ak}{i:Nat}(h:i<l.length):jQ on (l.take (i+1))=Jx on (jQ on (l.take i)) l[i]:=by unfold jQ;rw[zae h,za7];rfl
def cG(l:List ak):Nat:=(l.map λg=>g.ops.length).sum
theorem lV:cG []=0:=rfl
theorem fQ(g:ak)(l:List ak):cG (g::l)=g.ops.length+cG l:=by simp[cG]
theorem ur(a b:List ak):cG (a++b)=cG a+cG b:=by simp[cG]
theorem nS(l:List ak)(i:Nat):cG (l.take i)<=cG l:=by have:=ur (l.take i) (l.drop i);rw[zbi] at this;omega
theorem oZ{l:List ak}{i:Nat}(h:i<l.length):cG (l.take (i+1))=cG (l.take i)+l[i].ops.length:=by rw[zae h,ur,fQ,lV];omega
theorem C8: ∀(l o:List ak),cG (l.foldl kO o)<=cG o+cG l
 | [],o=>by simp[lV]
 |g::r,o=>by
  have h1:=C8 r (kO o g);have h2:cG (kO o g)<=cG o+g.ops.length:=by
   unfold kO;split
   ·rw[ur,fQ,lV];omega
   omega
  rw[zaU,fQ];omega
theorem KX(l:List ak):cG (aw l)<=cG l:=by simpa [aw,lV] using C8 l []
def vM(n:Nat)(t:Tl):Prop:=t.a.length=t.p.length/\t.a.length<=n/\t.h.length<=n/\t.g.length<=200*n
theorem vM.zero:vM 0 tl0:=⟨rfl,zak _,zak _,zak _⟩
theorem vM.mono{n m:Nat}{t:Tl}(h:vM n t)(hm:n<=m):vM m t:=⟨h.1,by have:=h.2.1;omega,by have:=h.2.2.1;omega,by have:=h.2.2.2;omega⟩
theorem vM.op{n:Nat}{t:Tl}(h:vM n t){on:Bool}{s:ay}{o:bc}{k:Nat}(hd:o.cp.length<=200):vM (n+1) (TN on s t o k):=by
 obtain⟨h0,h1,h2,h3⟩:=h;unfold vM TN;refine⟨?_,?_,?_,?_⟩
 ·dsimp only;split<;>simp[h0]
 ·dsimp only;split
  ·simp;omega
  omega
 ·dsimp only;split
  ·simp;omega
  omega
 dsimp only;split
 ·simp;omega
 omega
theorem vM.ops{n:Nat}{t:Tl}(h:vM n t){on:Bool}{s:ay}{l:List bc}(hd: ∀o∈l,o.cp.length<=200): ∀i,i<=l.length->vM (n+i) (Ia on s (l.take i) t)
 |0,_=>by simpa [Ia] using h
 |i+1,hi=>by rw[Ad hi];exact(vM.ops h hd i (by omega)).op (hd _ (zaq hi))
theorem vM.grp{n:Nat}{t:Tl}(h:vM n t){on:List ay}{g:ak}(hd: ∀o∈g.ops,o.cp.length<=200):vM (n+g.ops.length) (Jx on t g):=by have:=vM.ops h (on:=decide (g.s∈on)) (s:=g.s) hd g.ops.length (zak _);rwa [zaj] at this
theorem TO{s:ay}{k n:Int}{o:bc}(h:kN s k o=some n):o.cp.length<=200:=by
 unfold kN at h;split at h
 ·cases h
 rename_i hb;by_cases h2:o.kind=2
 ·rw[zan (by omega),zan (by omega),zap h2] at h;split at h
  next hd=>have:=hd.2;unfold nO at this;rw[zab,zai] at this;exact this.2
  cases h
 have:o.cp.length=0:=by
  simp only[zcG,fE,mF,zab,zbh,zaW] at hb;rcases hb.1.1.2 with h |h
  ·exact absurd h h2
  exact h
 omega
theorem Ib{P:bc->Prop}{s:ay}(hP: ∀k n o,kN s k o=some n->P o): ∀(l:List bc) (k:Int),jg s k l=true-> ∀o∈l,P o
 | [],_,_,_,h=>by cases h
 |o::r,k,h,x,hx=>by
  unfold jg at h;split at h
  next n hn=>
   rcases zav.1 hx with rfl |hx
   ·exact hP k n _ hn
   exact Ib hP r _ h x hx
  cases h
theorem EO{g:ak}(h:cy g=true):jg g.s 0 g.ops=true:=by
 unfold cy at h;rw[zab] at h;have h2:=h.2;split at h2
 ·simp only[zab,zaW] at h2;rw[zaA h2.2];rfl
 rw[zab] at h2;exact h2.2
theorem uu{g:ak}(h:cy g=true): ∀o∈g.ops,o.cp.length<=200:=Ib (P:=λo=>o.cp.length<=200) (λ_ _ _ h=>TO h) _ _ (EO h)
theorem uv{g:ak}(h:cy g=true):g.ops.length<=200:=by
 unfold cy at h;rw[zab] at h;have h2:=h.2;split at h2
 ·simp only[zab,zaW] at h2;omega
 rw[zab,zai] at h2;exact h2.1.2
theorem wU{on:List ay}{l:List ak}(hc: ∀g∈l,cy g=true): ∀i,i<=l.length->vM (cG (l.take i)) (jQ on (l.take i))
 |0,_=>by simpa [jQ,lV] using vM.zero
 |i+1,hi=>by rw[uq hi,oZ hi];exact(wU hc i (by omega)).grp (uu (hc _ (zaq hi)))
def SmV(l:List ak):Prop:=cG l<=1000
def Rt(T:List Pl):Prop:=Uq T/\ ∀p∈T,zY p=true
theorem qff{T:List Pl}(h:Rt T)(p:Pl):Rt (KS T p):=by
 unfold KS;split
 ·exact h
 rename_i h0;split
 next hp=>
  refine⟨?_,λq hq=> ?_⟩
  ·unfold Uq;rw[zau,za6];refine⟨h.1,by simp,λa ha b hb=> ?_⟩;simp at hb;subst hb;intro e;obtain⟨q,hq,hqa⟩:=zaB.1 ha;apply h0;unfold er;rw[List.find?_isSome];exact⟨q,hq,by simp[hqa,e]⟩
  rcases zay.1 hq with hq |hq
  ·exact h.2 q hq
  simp at hq;subst hq;exact hp
 exact h
theorem TP: ∀(l T:List Pl),Rt T->Rt (l.foldl KS T)
 | [],_,h=>h
 |p::r,_,h=>TP r _ (qff h p)
theorem TQ(l:List Pl):Rt (pw l):=TP l [] ⟨by simp[Uq],by simp⟩
theorem qaZ(T:List Pl)(p:Pl):(KS T p).length<=T.length+1:=by
 unfold KS;split
 ·omega
 split
 ·simp
 omega
theorem Nc: ∀(l T:List Pl),(l.foldl KS T).length<=T.length+l.length
 | [],_=>by simp
 |p::r,T=>by have:=Nc r (KS T p);have:=qaZ T p;simp only[zaU,zao];omega
theorem uw(l:List Pl):(pw l).length<=l.length:=by simpa [pw] using Nc l []
def PA(L:List Pl)(p:Pl):List UInt8:=if L.any (λq=>decide (q.2.1=p.2.1)&&(q.2.2.1==p.2.2.1)&&mh q.1 p.1) then(lO p.2.2.1 p.1.1 p.1.2.1 p.1.2.2).1 else p.2.2.1
def Nd(T:List Pl)(live:List av)(x:av):List UInt8:=match er T x with |some p=>PA (a8 T live) p |none=>[]
def KY(T:List Pl)(live:List av)(x:av):List (List UInt8):=match wy T x with |some w=>w.reverse.map (Nd T live)|none=>[]
def Nf(T:List Pl)(live:List av)(x:av):List UInt8:=qH (KY T live x)
abbrev It:=av×List UInt8×Bool×Bool
def ky(T:List Pl)(live:List av)(p:Pl):It:=(p.1,Nf T live p.1,p.2.2.2,!decide (p.1∈live))
abbrev Ic(a b:It):Bool:=Op.bytesLess a.2.1 b.2.1
def iu(T:List Pl)(live:List av):List It:=cm Ic ((a8 T live).map (ky T live))
section
variable{T:List Pl}{live:List av}
theorem qfg{p:Pl}(h:zY p=true):(lO p.2.2.1 p.1.1 p.1.2.1 p.1.2.2).1=p.2.2.1++126::C1 p.1.1 p.1.2.1 p.1.2.2:=by simp only[zY,zab] at h;rw[lO,zap h.2,zap h.1]
theorem TR{x:av}{p:Pl}(h:marked T live x=true)(hp:er T x=some p):p∈a8 T live:=by obtain⟨h1,h2⟩:=jK hp;exact zbv.2 ⟨h1,by rw[h2];exact h⟩
theorem TS{x:av}{w:List av}(h:Up T x w):KY T live x=w.reverse.map (Nd T live):=by unfold KY;rw[KU.2 h]
theorem qa0{p:Pl}(h:p∈a8 T live):p∈T/\marked T live p.1=true:=by unfold a8 at h;rw[zbv] at h;exact h
theorem Ie:(iu T live).Perm ((a8 T live).map (ky T live)):=bU _
end
noncomputable def fb(H HN:List (FuncId×bg))(hk:List (Nat×(S->K (PX×S))))(f id:Nat)(s:S):K (PX×S):=
 yz (dy PR (runK PR zN q8 H 60 60) HN (aK f) hk (q8 f) (bw PR f id)) (aK f id) s
noncomputable def sM(H HN:List (FuncId×bg))(hk:List (Nat×(S->K (PX×S))))(f:Nat)(ps:List P)(R:List (Nat×En)):K (P×List (Nat×En)):=
 CW PR (runK PR zN q8 H 60 60) HN zN hk q8 f ps R
def ND(w0:World)(f:Nat)(h:bg):Prop:=S5 PR w0 f h
def LN(w0:World)(f id:Nat)(g:S->K (PX×S)):Prop:= ∀(val:Nat->Value) (lo:Nat) (mk:Bool) s ae,g s ae->TW PR ⟨val,w0,lo,mk⟩ (.loop (bw PR f id)) s ae
def LNT(w0:World)(f id:Nat)(g:S->K (PX×S)):Prop:= ∀(val:Nat->Value) (lo:Nat) s ae,g s ae->TW PR ⟨val,w0,lo,true⟩ (.loop (bw PR f id)) s ae
def FN(w0:World)(f id:Nat)(g:S->K (PX×S)):Prop:= ∀(val:Nat->Value) (lo:Nat) s ae,g s ae->TW PR ⟨val,w0,lo,true⟩ (nL PR f id).code s ae
theorem LN.T{w0:World}{f id:Nat}{g:S->K (PX×S)}(h:LN w0 f id g):LNT w0 f id g:=λval lo s ae hp=>h val lo true s ae hp
inductive Ng(w0:World):List (FuncId×bg)->Prop
 |nil:Ng w0 []
 |cons {f:Nat} {h:bg} {r:List (FuncId×bg)} (hf:ND w0 f h) (hr:Ng w0 r):Ng w0 ((f,h)::r)
theorem Ng.get{w0:World}{HN:List (FuncId×bg)}(h:Ng w0 HN): ∀f g,lk HN f=some g->S5 PR w0 f g:=by
 induction h with
 |nil=>intro f g h;cases h
 | @cons f' h' r hf hr ih=>
  intro f g h;unfold lk at h;split at h
  next he=>cases h;rw[<-zag he];exact hf
  exact ih f g h
inductive LNs(w0:World)(f:Nat):List (Nat×(S->K (PX×S)))->Prop
 |nil:LNs w0 f []
 |cons {id:Nat} {g:S->K (PX×S)} {r:List (Nat×(S->K (PX×S)))} (h:LN w0 f id g) (hr:LNs w0 f r):LNs w0 f ((id,g)::r)
theorem LNs.get{w0:World}{f:Nat}{hk:List (Nat×(S->K (PX×S)))}(h:LNs w0 f hk): ∀id g,lk hk id=some g->LN w0 f id g:=by
 induction h with
 |nil=>intro f g h;cases h
 | @cons f' h' r hf hr ih=>
  intro f g h;unfold lk at h;split at h
  next he=>cases h;rw[<-zag he];exact hf
  exact ih f g h
inductive Yn(w0:World)(f:Nat):List (Nat×(S->K (PX×S)))->Prop
 |nil:Yn w0 f []
 |loop {id:Nat} {g:S->K (PX×S)} {r:List (Nat×(S->K (PX×S)))} (hid:id<500000) (h:LNT w0 f id g) (hr:Yn w0 f r):Yn w0 f ((id,g)::r)
 |range {id:Nat} {g:S->K (PX×S)} {r:List (Nat×(S->K (PX×S)))} (h:FN w0 f id g) (hr:Yn w0 f r):Yn w0 f ((500000+id,g)::r)
theorem Yn.loops{w0:World}{f:Nat}{hk:List (Nat×(S->K (PX×S)))}(h:Yn w0 f hk): ∀id g,id<500000->lk hk id=some g->LNT w0 f id g:=by
 induction h with
 |nil=>intro id g _ h;cases h
 | @loop qi g' r qlf h hr ih=>
  intro id g hid hg;unfold lk at hg;split at hg
  next he=>cases hg;rw[<-zag he];exact h
  exact ih id g hid hg
 | @range qi g' r h hr ih=>
  intro id g hid hg;unfold lk at hg;split at hg
  next he=>have:=zag he;omega
  exact ih id g hid hg
theorem Yn.ranges{w0:World}{f:Nat}{hk:List (Nat×(S->K (PX×S)))}(h:Yn w0 f hk): ∀id g,lk hk (500000+id)=some g->FN w0 f id g:=by
 induction h with
 |nil=>intro id g h;cases h
 | @loop qi g' r qlf h hr ih=>
  intro id g hg;unfold lk at hg;split at hg
  next he=>have:=zag he;omega
  exact ih id g hg
 | @range qi g' r h hr ih=>
  intro id g hg;unfold lk at hg;split at hg
  next he=>
   cases hg;have:=zag he;have e:qi=id:=by omega
   rw[<-e];exact h
  exact ih id g hg
theorem Ae{X:XF}{H:List (FuncId×bg)}(hH:HD X H):BN (runK PR zN q8 H 60 60) (fJ PR (MT X)):=by have:=xT (lf:=60) (k7 Po) hH 60;rw[EA PR aK xsT X.cf (λ_ _ _=>none) q8 H 60 60] at this;exact this
theorem ND.mk{X:XF}{w0:World}(hX:dw PR w0 X.cf){H HN:List (FuncId×bg)}{hk:List (Nat×(S->K (PX×S)))}{f:Nat}{h:bg}(hdr:PR.follows .mixedOrders=true)(hu:uniq PR f=true)(huR:CU PR f=true)(hH:HD X H)(pq:Ng w0 HN)(hl:Yn w0 f hk)
  (hb: ∀ps R ae,h ps R ae->sM H HN hk f ps R ae):ND w0 f h:=
 S5.mk (kp:=MT X) pq.get (Ae hH) hX hdr Po hu huR hl.loops hl.ranges (λps R ae hp=>hb ps R ae hp)
theorem LN.par{X:XF}{w0:World}(hX:dw PR w0 X.cf){H HN:List (FuncId×bg)}{hk:List (Nat×(S->K (PX×S)))}{f id:Nat}{g:S->K (PX×S)}(hdr:PR.follows .mixedOrders=true)(hu:uniq PR f=true)(hc:cc (q8 f) (bw PR f id)=true)(hnr:(bY (bw PR f id)).isEmpty=true)(hH:HD X H)(pq:Ng w0 HN)(hl:LNs w0 f hk)
  {A B:Type} (hd:A->B->S) (Inv:A->B->Prop) (mu:A->B->Nat) (Out:A->PX×S->Prop)
  (hr: ∀a b,Inv a b->fb H HN hk f id (hd a b) (roundPost (mu a b) (λm s=> ∃b',s=hd a b'/\Inv a b'/\m=mu a b') (Out a)))
  (hg: ∀s ae,g s ae-> ∃a b,s=hd a b/\Inv a b/\ ∀x,Out a x->ae x):LN w0 f id (ah (aK f id) g):=by
 intro val lo mk s ae hp;unfold ah at hp;cases hh:cz (aK f id) s with
 |none=>simp only[hh] at hp
 |some s0=>
  simp only[hh] at hp;obtain⟨a,b,rfl,h1,h2⟩:=hg s0 ae hp;refine TW.mono (TW.loop (keep:=aK f id) (I:=λm s=> ∃b',s=hd a b'/\Inv a b'/\m=mu a b') (O:=Out a) (λn s hs=> ?_) hh ⟨b,rfl,h1,rfl⟩) h2;obtain⟨b',rfl,h3,rfl⟩:=hs;have:=hr a b' h3;unfold fb at this;refine TW.mono (eo (kp:=MT X) (T:=⟨val,w0,lo,mk⟩) pq.get (Ae hH) hX hdr (kp1:=aK f) (bw PR f id) hc (λd hd h hh s ae hp=>by have:=hl.get _ _ hh val lo mk s ae hp;rwa [vB hu hd] at this) (λx hx=>by rw[zbW.1 hnr] at hx;cases hx) _ _ this) ?_;rintro⟨e,s1⟩ hx;cases e with
  |normal=>obtain⟨s2,h4,m,h5,h6⟩:=KW.dR (p:=λs2=>cz (aK f id) s1=some s2) (λ_ h=>h) _ hx;exact⟨s2,h4,m,h5,h6⟩
  |exit i=>obtain⟨s2,h4,h5⟩:=KW.dR (p:=λs2=>dG (aK f id) s1=some s2) (λ_ h=>h) _ hx;exact⟨s2,h4,h5⟩
  |ret=>obtain⟨s2,h4,h5⟩:=KW.dR (p:=λs2=>dG (aK f id) s1=some s2) (λ_ h=>h) _ hx;exact⟨s2,h4,h5⟩
def TT(g:FuncId)(cf:D->D->Int)(ty:TypeId):bg:=λps R ae=> ∃es,ps=[.sl 0 0 es.length,.fn g []]/\R=[(0,⟨0,some 0,.arr ty false es⟩)]/\ua PR zN g es cf/\
 ∀fG:List D,fG.Perm es->fG.Pairwise (λa b=> ¬cf b a<0)->ae (.cH [],[(0,⟨0,some 0,.arr ty false fG⟩)])
theorem EP{g:FuncId}{cf:D->D->Int}{ty:TypeId}{ps:List P}{R:List (Nat×En)}{ae:P×List (Nat×En)->Prop}(h:TT g cf ty ps R ae):qdg PR zN ty ps R ae:=by obtain⟨es,rfl,rfl,hc,hp⟩:=h;exact⟨0,g,⟨0,some 0,.arr ty false es⟩,es,cf,rfl,rfl,rfl,hc,λfG h1 h2=>hp fG h1 h2⟩
def ew(x:It):D:=itD x.1.1 x.1.2.1 x.1.2.2 x.2.1 x.2.2.1 x.2.2.2
theorem qfh(x:It):cw PR 72 (ew x)=true:=by obtain⟨⟨a,b,c⟩,d,e,f⟩:=x;kernel_rfl
theorem x9(L:List Pl){p:Pl}(h:zY p=true):(PA L p).length<=200:=by
 have h':=h;simp only[zY,zab] at h';have hn:p.2.2.1.length<=32:=by have:=h'.2;simp only[dO,zai] at this;exact this.2.1
 unfold PA;split
 ·rw[qfg h];have hr:=h'.1;simp only[cx,zai] at hr;have l1:=gH (n:=p.1.1) (by omega) (by omega);have l2:=gH (n:=p.1.2.1) (by omega) (by omega);have l3:=gH (n:=p.1.2.2) (by omega) (by omega);simp[C1];omega
 omega
theorem TU: ∀(l:List (List UInt8)),(∀s∈l,s.length<=200)->qaT l<=201*l.length
 | [],_=>by simp[qaT,qH]
 |s::r,h=>by have h1:=TU r λx hx=>h x (by simp[hx]);have h2:=h s (by simp);simp only[qaT,qH,zbA,zah,zao] at h1⊢;omega
theorem PB{T:List Pl}{V:List av}(hT:Rt T){x:av}{w:List av}(hw:Up T x w):qaT (w.reverse.map (Nd T V))<=201*T.length:=by
 have:=TU (w.reverse.map (Nd T V)) λs hs=>by obtain⟨u,hu,rfl⟩:=zaB.1 hs;obtain⟨w',h1,_⟩:=hw.sub u (by simpa using hu);obtain⟨p,hp⟩:=h1.at;unfold Nd;rw[hp];exact x9 _ (hT.2 p (jK hp).1)
 have hl:=hw.len;simp only[zaa,List.length_reverse] at this;omega
section
variable{X:XF}{w0:World}(hX:dw PR w0 X.cf)
include hX
end
def rC{α:Type}(f:α->Bool)(l:List α):Int:=match l.findIdx? f with |some i=>(i:Int)|none=> -1
abbrev bxI(n:Nat)(x:av):List (Nat×En):=[(n,⟨0,none,.box 50 [.d (.int .i64 x.1),.d (.int .i64 x.2.1),.d (.int .i64 x.2.2)]⟩)]
abbrev qfi(l:List Pl)(x:av)(k:Int):S:=⟨20,[(0,eL l),(3,.ref 0 0 0),(5,iD k)],bxI 0 x⟩
def eR(l:List Pl)(x:av):Int:=rC (λp:Pl=>p.1==x) l
def qfj:S->K (PX×S):=λs ae=> ∃l x,s=qfi l x 0/\l.length<=1000000/\(∀i:Int,i=eR l x->0<=i->ae (.ret,⟨20,[(0,eL l),(4,iD i)],[]⟩))/\(eR l x= -1->ae (.exit 0,⟨20,[(0,eL l)],[]⟩))
def eX(x:av):Int:=Prod.snd (Prod.snd x)
def eY(x:av):D:=D.int .i64 (eX x)
def e7(x:av):Int:=Prod.fst (Prod.snd x)
def eN(x:av):D:=D.int .i64 (e7 x)
def eO(x:av):D:=D.int .i64 (Prod.fst x)
def mH(x:av):En:=En.mk 0 none (Obj.box (50:TypeId) [P.d (eO x),P.d (eN x),P.d (eY x)])
def nt(x:av):Nat×En:=(0,mH x)
def KZ(x:av):List (Nat×En):=[nt x]
def bP:P:=P.ref 0 0 0
def cE:Nat×P:=(3,bP)
def og(k:Int):Nat×P:=(4,Zm k)
def BV(k:Int):List (Nat×P):=[og k]
def gh(l:List Pl):List D:=List.map eB l
def iG(l:List Pl):P:=P.d (D.sl 8 (gh l))
def uY(l:List Pl):Nat×P:=(0,iG l)
def oh(l:List Pl)(k:Int):D:=D.nth (gh l) (Zt k)
def Z1C(l:List Pl)(k:Int)(x:av):Bool:=D.aj (D.ar (oh l k) 0)==Prod.fst x&&(D.aj (D.ar (oh l k) 1)==e7 x&&true)&&(D.aj (D.ar (oh l k) 2)==eX x&&true)
noncomputable def pV(l:List Pl)(k:Int):Bool:=cw PR (104:TypeId) (oh l k)
def rb(l:List Pl):Nat:=List.length (gh l)
def C9(k:Int)(l:List Pl):Bool:=decide ((0:Int)<=k/\k<(↑(rb l):Int))
def Nh(k:Int)(l:List Pl):Bool:=decide (k<(↑(rb l):Int))
theorem qdn(l:List Pl)(x:av)(k:Int)(ae:PX×S->Prop):(bif Nh k l then ob (C9 k l) (ob (pV l k) (bif Z1C l k x then ae (PX.ret,S.mk 20 (uY l::BV k) []) else ob (Zw k) (ae (PX.normal,S.mk 20 (uY l::cE::ZB k) (KZ x))))) else ae (PX.exit 0,S.mk 20 [uY l] []))=(aD [] [] 87 2 (qfi l x k)) ae:=by kernel_rfl
def jR(au:List Pl):Nat:=List.length au
def o4(au:List Pl):Prop:=jR au<=1000000
theorem qfk(l:List Pl)(x:av)(ae:P×List (Nat×En)->Prop):(∃(au:List Pl) (aX:av),S.mk 20 (uY l::cE::ZV) (KZ x)=S.mk 20 (uY au::cE::ZV) (KZ aX)/\o4 au/\(∀(i:Int),i=eR au aX->(0:Int)<=i->ae (Zm i,[]))/\(eR au aX=(-1:Int)->Zf ae))=(aJ [] [(2,ah (aK 87 2) qfj)] 87 [eL l,.d (bV x)] []) ae:=by kernel_rfl
def TV:bg:=λps R ae=> ∃l x,ps=[eL l,.d (bV x)]/\R=[]/\l.length<=1000000/\ae (iD (eR l x),[])
abbrev Da(z:Bool)(l:List Pl):List (Nat×En):=[(0,⟨0,some 0,.arr 104 z (l.map eB)⟩)]
abbrev qfl(z:Bool)(l:List Pl)(n:Nat)(x:av)(k:Int):S:=⟨20,[(0,.sl 0 0 n),(3,.ref 1 0 0),(5,iD k)],Da z l++bxI 1 x⟩
def TX:S->K (PX×S):=λs ae=> ∃z l x,s=qfl z l l.length x 0/\l.length<=1000000/\(∀i:Int,i=eR l x->0<=i->ae (.ret,⟨20,[(0,.sl 0 0 l.length),(4,iD i)],Da z l⟩))/\(eR l x= -1->ae (.exit 0,⟨20,[(0,.sl 0 0 l.length)],Da z l⟩))
def TY(x:av):List (Nat×En):=[(1,mH x)]
def PC(z:Bool)(l:List Pl):Nat×En:=(0,En.mk 0 (some 0) (Obj.arr (104:TypeId) z (gh l)))
def iN:P:=P.ref 1 0 0
def ti:Nat×P:=(3,iN)
def FR(z:Bool)(l:List Pl):List (Nat×En):=[PC z l]
def r4(n:Nat):Nat×P:=(0,ZM n)
def Jy(k:Int)(l:List Pl):Bool:=decide (Zt k<rb l)
def l8(k:Int)(n:Nat):Bool:=decide ((0:Int)<=k/\k<(↑n:Int))
def T0(k:Int)(n:Nat):Bool:=decide (k<(↑n:Int))
theorem T1(z:Bool)(l:List Pl)(n:Nat)(x:av)(k:Int)(ae:PX×S->Prop):(bif T0 k n then ob (l8 k n) (ob (Jy k l) (ob (pV l k) (bif Z1C l k x then ae (PX.ret,S.mk 20 (r4 n::BV k) (FR z l)) else ob (Zw k) (ae (PX.normal,S.mk 20 (r4 n::ti::ZB k) (PC z l::TY x)))))) else ae (PX.exit 0,S.mk 20 [r4 n] (FR z l)))=(aD [] [] 87 2 (qfl z l n x k)) ae:=by kernel_rfl
def r5(au:List Pl):P:=P.sl 0 0 (jR au)
theorem qa1(z:Bool)(l:List Pl)(n:Nat)(x:av)(ae:P×List (Nat×En)->Prop):(∃(PD:Bool) (au:List Pl) (aX:av),S.mk 20 (r4 n::ti::ZV) (PC z l::TY x)=S.mk 20 ((0,r5 au)::ti::ZV) (PC PD au::TY aX)/\o4 au/\(∀(i:Int),i=eR au aX->(0:Int)<=i->ae (Zm i,FR PD au))/\(eR au aX=(-1:Int)->ae (Ze,FR PD au)))=(aJ [] [(2,ah (aK 87 2) TX)] 87 [.sl 0 0 n,.d (bV x)] (Da z l)) ae:=by kernel_rfl
def T2:bg:=λps R ae=> ∃z l x,ps=[.sl 0 0 l.length,.d (bV x)]/\R=Da z l/\l.length<=1000000/\ae (iD (eR l x),Da z l)
abbrev hsH(l:List av)(x:av)(k:Int):S:=⟨18,[(0,cI l),(3,.ref 0 0 0),(5,iD k)],bxI 0 x⟩
def qfm:S->K (PX×S):=λs ae=> ∃l x,s=hsH l x 0/\l.length<=1000000/\(x∈l->ae (.ret,⟨18,[(0,cI l),(4,.d (.bool true))],[]⟩))/\(x∉l->ae (.exit 0,⟨18,[(0,cI l)],[]⟩))
def Ig:List (Nat×P):=[(4,ZW)]
def fg(l:List av):List D:=List.map bV l
def gJ(l:List av):P:=P.d (D.sl 3 (fg l))
def wV(l:List av):Nat×P:=(0,gJ l)
def FT(l:List av)(k:Int):Int:=D.aj (D.ar (D.nth (fg l) (Zt k)) 2)
def FU(l:List av)(k:Int):Int:=D.aj (D.ar (D.nth (fg l) (Zt k)) 1)
def FV(l:List av)(k:Int):Int:=D.aj (D.ar (D.nth (fg l) (Zt k)) 0)
def Z2a(l:List av)(k:Int)(x:av):Bool:=FV l k==Prod.fst x&&(FU l k==e7 x&&true)&&(FT l k==eX x&&true)
noncomputable def vN(l:List av)(k:Int):Bool:=cw PR (50:TypeId) (D.nth (fg l) (Zt k))
def oi(l:List av):Nat:=List.length (fg l)
def wW(l:List av):Int:=(↑(oi l):Int)
def Jz(k:Int)(l:List av):Bool:=decide ((0:Int)<=k/\k<wW l)
def QU(k:Int)(l:List av):Bool:=decide (k<wW l)
theorem qdo(l:List av)(x:av)(k:Int)(ae:PX×S->Prop):(bif QU k l then ob (Jz k l) (ob (vN l k) (bif Z2a l k x then ae (PX.ret,S.mk 18 (wV l::Ig) []) else ob (Zw k) (ae (PX.normal,S.mk 18 (wV l::cE::ZB k) (KZ x))))) else ae (PX.exit 0,S.mk 18 [wV l] []))=(aD [] [] 91 2 (hsH l x k)) ae:=by kernel_rfl
def fF(au:List av):Nat:=List.length au
def nu(au:List av):Prop:=fF au<=1000000
theorem qfn(l:List av)(x:av)(ae:P×List (Nat×En)->Prop):(∃(au:List av) (aX:av),S.mk 18 (wV l::cE::ZV) (KZ x)=S.mk 18 (wV au::cE::ZV) (KZ aX)/\nu au/\(aX∈au->ZX ae)/\(¬aX∈au->Z4 ae))=(aJ [] [(2,ah (aK 91 2) qfm)] 91 [cI l,.d (bV x)] []) ae:=by kernel_rfl
def K0:bg:=λps R ae=> ∃l x,ps=[cI l,.d (bV x)]/\R=[]/\l.length<=1000000/\ae (.d (.bool (decide (x∈l))),[])
theorem Ih{α:Type}{f:α->Bool}{l:List α}{i:Nat}{x:α}(h:l[i]?=some x)(hf:f x=true)(hb: ∀y∈l.take i,f y=false):rC f l=(i:Int):=by
 have hi:i<l.length:=(zaf.1 h).1;have:l.findIdx? f=some i:=by rw[zbP];refine⟨hi,by rw[(zaf.1 h).2];exact hf,λj hj=> ?_⟩;rw[hb _ (zcB.2 ⟨j,by omega,rfl⟩)];simp
 unfold rC;rw[this]
theorem Ni{α:Type}{f:α->Bool}{l:List α}(h: ∀x∈l,f x=false):rC f l= -1:=by
 have:l.findIdx? f=none:=by rw[zb7];exact h
 unfold rC;rw[this]
theorem sN{α:Type}(f:α->Bool)(l:List α):(∃(i:Nat) (x:α),l[i]?=some x/\f x=true/\rC f l=(i:Int))\/(rC f l= -1/\ ∀x∈l,f x=false):=by
 cases h:l.findIdx? f with
 |some i=>obtain⟨hi,hf,_⟩:=zbP.1 h;exact .inl ⟨i,l[i],zac hi,hf,by unfold rC;rw[h]⟩
 |none=>exact .inr ⟨by unfold rC;rw[h],zb7.1 h⟩
theorem getD_some{α:Type}{l:List α}{k:Nat}(h:k<l.length)(d:α):l[k]?=some (l.getD k d):=by rw[zad,zac h];rfl
section
variable{X:XF}
theorem LD.scan{H:List (FuncId×bg)}{hk:List (Nat×(S->K (PX×S)))}{f id:Nat}{g:S->K (PX×S)}(hu:uniq PR f=true)(hc:cc (q8 f) (bw PR f id)=true)(hH:HD X H)(hl:Tc X f hk)
  {A α:Type} (hd:A->Int->S) (pN:A->List α) (d:α) (t:A->α->Bool) (C:A->Prop) (rt:A->Int->S) (ex:A->S)
  (hr: ∀a (k:Int) ae,C a->(pN a).length<=1000000->0<=k->(k<(pN a).length->k.toNat<(pN a).length->(t a ((pN a).getD k.toNat d)=true->ae (.ret,rt a k))->(t a ((pN a).getD k.toNat d)=false->ae (.normal,hd a (k+1)))->aD H hk f id (hd a k) ae))
  (hx: ∀a (k:Int) ae,C a-> ¬k<(pN a).length->ae (.exit 0,ex a)->aD H hk f id (hd a k) ae)
  (hg: ∀s ae,g s ae-> ∃a,s=hd a 0/\C a/\(pN a).length<=1000000/\(∀i:Int,i=rC (t a) (pN a)->0<=i->ae (.ret,rt a i))/\(rC (t a) (pN a)= -1->ae (.exit 0,ex a))):LD X f id (ah (aK f id) g):=
 LD.par hu hc hH hl (A:=A) (B:=Int) hd (λa k=>C a/\(pN a).length<=1000000/\0<=k/\k.toNat<=(pN a).length/\ ∀y∈(pN a).take k.toNat,t a y=false) (λa k=>((pN a).length-k).toNat)
  (λa x=>(∃i:Int,i=rC (t a) (pN a)/\0<=i/\x=(.ret,rt a i))\/(rC (t a) (pN a)= -1/\x=(.exit 0,ex a)))
  (by
   rintro a k ⟨h1,h2,h3,h4,h5⟩;by_cases hk:k<(pN a).length
   ·have du:k.toNat<(pN a).length:=by omega
    refine hr a k _ h1 h2 h3 hk du (λht=> .inl ⟨k,?_,h3,rfl⟩) λht=>⟨((pN a).length-(k+1)).toNat,by omega,k+1,rfl,⟨h1,h2,by omega,by omega,λy hy=> ?_⟩,rfl⟩
    ·rw[Ih (getD_some du d) ht h5];omega
    rw[show(k+1).toNat=k.toNat+1 by omega,zbS,getD_some du d] at hy;rcases zay.1 hy with hy |hy
    ·exact h5 y hy
    simp at hy;rw[hy];simpa using ht
   refine hx a k _ h1 hk (.inr ⟨Ni λy hy=>h5 y ?_,rfl⟩);rw[zal (by omega)];exact hy)
  (by
   intro s ae h;obtain⟨a,rfl,h1,h2,h3,h4⟩:=hg s ae h;refine⟨a,0,rfl,⟨h1,h2,by simp,by simp,by simp⟩,?_⟩;rintro x (⟨i,h5,h6,rfl⟩| ⟨h5,rfl⟩)
   ·exact h3 i h5 h6
   exact h4 h5)
theorem qfo{l:List It}{i:Nat}(h:i<l.length)(d:It):D.nth (l.map ew) i=ew (l.getD i d):=by rw[ax ew l i h];simp[zad,h]
def it0:It:=((0,0,0),[],false,false)
theorem Nj{α:Type}(f:α->Bool)(l:List α):decide (rC f l>=0)=l.any f:=by
 rcases sN f l with⟨i,x,h1,h2,h3⟩| ⟨h1,h2⟩
 ·rw[h3,zbo.2 ⟨x,zaC h1,h2⟩];simp
 rw[h1];cases h:l.any f with
 |false=>rfl
 |true=>obtain⟨x,hx,hf⟩:=zbo.1 h;rw[h2 x hx] at hf;cases hf
theorem rD(x y:av):(x.1==y.1&&(x.2.1==y.2.1&&true)&&(x.2.2==y.2.2&&true))=(x==y):=by rw[zaH];obtain⟨a,b,c⟩:=x;obtain⟨d,e,f⟩:=y;simp[and_assoc]
theorem qa2:LD X 87 2 (ah (aK 87 2) qfj):=
 LD.scan (H:=[]) (hk:=[]) (by kernel_rfl) (by kernel_rfl) .nil .nil
  (A:=List Pl×av) (λa k=>qfi a.1 a.2 k) (·.1) uh (λa p=>p.1==a.2) (λ_=>True)
  (λa i=>⟨20,[(0,eL a.1),(4,iD i)],[]⟩) (λa=>⟨20,[(0,eL a.1)],[]⟩)
  (by
   rintro⟨l,x⟩ k ae _ hm h0 hk du ht hf;dsimp only at*
   (rw[<-qdn];delta eX eY e7 eN eO mH nt KZ ZA ZB bP cE Za Z9 Zw Zk Zm og BV gh iG uY Zt oh Z1C pV rb C9 Nh)
   simp only[zaa];rw[jf du];refine ie (lL hk) (bm ⟨h0,hk⟩ (aq (ij _) (aA (λh=>ht ?_) λh=>aq (pM (by omega) (by omega)) (hf ?_))))
   ·rw[<-rD];exact h
   rw[<-rD];exact h)
  (by
   rintro⟨l,p⟩ k ae _ hk hp;dsimp only at*
   (rw[<-qdn];delta eX eY e7 eN eO mH nt KZ ZA ZB bP cE Za Z9 Zw Zk Zm og BV gh iG uY Zt oh Z1C pV rb C9 Nh)
   simp only[zaa];exact iK (lM hk) hp)
  (by rintro s ae ⟨l,p,rfl,hm,h1,h2⟩;exact⟨(l,p),rfl,trivial,hm,h1,h2⟩)
theorem qdp:FD X 87 TV:=FD.mk (H:=[]) (hk:=[(2,ah (aK 87 2) qfj)]) (by kernel_rfl) .nil (.cons qa2 .nil) (by
 intro ps R ae hh;obtain⟨l,x,rfl,rfl,hm,hp⟩:=hh
 (rw[<-qfk];delta Ze Zf Zk Zm jR o4 eX eY e7 eN eO mH nt KZ Z7 ZV bP cE gh iG uY)
 refine⟨l,x,rfl,hm,λi hi h0=> ?_,λh=> ?_⟩
 ·rw[hi];exact hp
 rw[h] at hp;exact hp)
theorem T3:LD X 87 2 (ah (aK 87 2) TX):=
 LD.scan (H:=[]) (hk:=[]) (by kernel_rfl) (by kernel_rfl) .nil .nil
  (A:=List Pl×av×Bool) (λa k=>qfl a.2.2 a.1 a.1.length a.2.1 k) (·.1) uh (λa p=>p.1==a.2.1) (λ_=>True)
  (λa i=>⟨20,[(0,.sl 0 0 a.1.length),(4,iD i)],Da a.2.2 a.1⟩) (λa=>⟨20,[(0,.sl 0 0 a.1.length)],Da a.2.2 a.1⟩)
  (by
   rintro⟨l,x,z⟩ k ae _ hm h0 hk du ht hf;dsimp only at*
   (rw[<-T1];delta eX eY e7 eN eO mH TY gh PC ZA ZB iN ti Za Z9 Zw FR Zk Zm og BV ZM r4 Zt oh Z1C pV rb Jy l8 T0)
   rw[jf du];refine ie (lL hk) (bm ⟨h0,hk⟩ (aq (lL (by rw[zaa];exact du)) (aq (ij _) (aA (λh=>ht ?_) λh=>aq (pM (by omega) (by omega)) (hf ?_)))))
   ·rw[<-rD];exact h
   rw[<-rD];exact h)
  (by
   rintro⟨l,p,z⟩ k ae _ hk hp;dsimp only at*
   (rw[<-T1];delta eX eY e7 eN eO mH TY gh PC ZA ZB iN ti Za Z9 Zw FR Zk Zm og BV ZM r4 Zt oh Z1C pV rb Jy l8 T0)
   exact iK (lM hk) hp)
  (by rintro s ae ⟨z,l,p,rfl,hm,h1,h2⟩;exact⟨(l,p,z),rfl,trivial,hm,h1,h2⟩)
theorem T4:FD X 87 T2:=FD.mk (H:=[]) (hk:=[(2,ah (aK 87 2) TX)]) (by kernel_rfl) .nil (.cons T3 .nil) (by
 intro ps R ae hh;obtain⟨z,l,x,rfl,rfl,hm,hp⟩:=hh
 (rw[<-qa1];delta Ze gh PC FR Zk Zm jR o4 r5 eX eY e7 eN eO mH TY Z7 ZV iN ti ZM r4)
 refine⟨z,l,x,rfl,hm,λi hi h0=> ?_,λh=> ?_⟩
 ·rw[hi];exact hp
 rw[h] at hp;exact hp)
theorem Nk{α:Type}{f:α->Bool}{l:List α}:0<=rC f l↔ ∃x∈l,f x=true:=by
 rcases sN f l with⟨i,x,h1,h2,h3⟩| ⟨h1,h2⟩
 ·rw[h3];exact⟨λ_=>⟨x,zaC h1,h2⟩,λ_=>by omega⟩
 rw[h1];exact⟨λh=>by omega,λ⟨x,hx,hf⟩=>by rw[h2 x hx] at hf;cases hf⟩
theorem qa3:LD X 91 2 (ah (aK 91 2) qfm):=
 LD.scan (H:=[]) (hk:=[]) (by kernel_rfl) (by kernel_rfl) .nil .nil
  (A:=List av×av) (λa k=>hsH a.1 a.2 k) (·.1) (0,0,0) (λa p=>p==a.2) (λ_=>True)
  (λa i=>⟨18,[(0,cI a.1),(4,.d (.bool true))],[]⟩) (λa=>⟨18,[(0,cI a.1)],[]⟩)
  (by
   rintro⟨l,x⟩ k ae _ hm h0 hk du ht hf;dsimp only at*
   (rw[<-qdo];delta eX eY e7 eN eO mH nt KZ ZA ZB bP cE Za Z9 Zw ZW Ig fg gJ wV Zt FT FU FV Z2a vN oi wW Jz QU)
   simp only[zaa];rw[qfc du];refine ie (lL hk) (bm ⟨h0,hk⟩ (aq (mg _) (aA (λh=>ht ?_) λh=>aq (pM (by omega) (by omega)) (hf ?_))))
   ·rw[<-rD];exact h
   rw[<-rD];exact h)
  (by
   rintro⟨l,p⟩ k ae _ hk hp;dsimp only at*
   (rw[<-qdo];delta eX eY e7 eN eO mH nt KZ ZA ZB bP cE Za Z9 Zw ZW Ig fg gJ wV Zt FT FU FV Z2a vN oi wW Jz QU)
   simp only[zaa];exact iK (lM hk) hp)
  (by
   rintro s ae ⟨l,x,rfl,hm,h1,h2⟩;refine⟨(l,x),rfl,trivial,hm,λi hi h0=>h1 ?_,λh=>h2 λhx=> ?_⟩
   ·rw[hi] at h0;obtain⟨y,hy,he⟩:=Nk.1 h0;have:y=x:=by simpa using he
    exact this▸hy
   have:0<=rC (λp=>p==x) l:=Nk.2 ⟨x,hx,by simp⟩;dsimp only at h;omega)
theorem T5:FD X 91 K0:=FD.mk (H:=[]) (hk:=[(2,ah (aK 91 2) qfm)]) (by kernel_rfl) .nil (.cons qa3 .nil) (by
 intro ps R ae hh;obtain⟨l,x,rfl,rfl,hm,hp⟩:=hh
 (rw[<-qfn];delta Z3 Z4 ZW ZX fF nu eX eY e7 eN eO mH nt KZ Z7 ZV bP cE fg gJ wV)
 exact⟨l,x,rfl,hm,λh=>zS hp (by simp[h]),λh=>zS hp (by simp[h])⟩)
end
def AX(l:List Pl)(au:List Pl)(aX:av):D:=D.nth (gh l) (Int.toNat (eR au aX))
def Z2r(l:List Pl)(au:List Pl)(aX:av):D:=D.int .i64 (D.aj (D.ar (AX l au aX) 5))
def Z2q(l:List Pl)(au:List Pl)(aX:av):D:=D.int .i64 (D.aj (D.ar (AX l au aX) 4))
def Z2p(l:List Pl)(au:List Pl)(aX:av):D:=D.int .i64 (D.aj (D.ar (AX l au aX) 3))
def Z2s(l:List Pl)(au:List Pl)(aX:av):Nat×En:=(0,En.mk 0 none (Obj.box (50:TypeId) [P.d (Z2p l au aX),P.d (Z2q l au aX),P.d (Z2r l au aX)]))
def K1:Nat×P:=(5,iN)
def BW:Nat×P:=(4,bP)
def Z2l(au:List Pl)(aX:av)(l:List Pl):Bool:=decide ((0:Int)<=eR au aX/\eR au aX<(↑(rb l):Int))
def Z2k:List (Nat×P):=[(6,P.d Z3)]
def Z2j(au:List Pl)(aX:av):Bool:=decide (eR au aX<(0:Int))
def l9(aX:av):P:=P.d (D.agg [eO aX,eN aX,eY aX])
def e8(aX:av):List P:=[l9 aX]
def Z2g(x:av)(y:av):Bool:=Prod.fst x==Prod.fst y&&(e7 x==e7 y&&true)&&(eX x==eX y&&true)
def dV(b:Bool):P:=P.d (D.bool b)
abbrev wiL(z:Bool)(l:List Pl)(n:Nat)(x y:av)(k:Int):S:=⟨28,[(0,.sl 0 0 n),(4,.ref 1 0 0),(5,.ref 2 0 0),(7,iD k)],Da z l++bxI 1 x++bxI 2 y⟩
def qfp:S->K (PX×S):=λs ae=> ∃z l x y,s=wiL z l l.length x y 0/\l.length<=1000000/\(∀b,b=within l x y->ae (.ret,⟨28,[(0,.sl 0 0 l.length),(6,.d (.bool b))],Da z l⟩))/\(within l x y=true->ae (.exit 0,⟨28,[(0,.sl 0 0 l.length)],Da z l⟩))
def Z2y(y:av):List (Nat×En):=[(2,mH y)]
def tj:P:=P.ref 2 0 0
def Z2w:Nat×P:=(4,iN)
def FW(au:List Pl)(aX:av):D:=D.nth (gh au) (Int.toNat (eR au aX))
def Z2u(au:List Pl)(aX:av):Bool:=decide (Int.toNat (eR au aX)<rb au)
theorem qiQ(z:Bool)(l:List Pl)(n:Nat)(x y:av)(k:Int)(ae:PX×S->Prop):(bif decide (k<=(↑n:Int)) then bif Z2g x y then ae (PX.ret,S.mk 28 [r4 n,(6,ZW)] (FR z l)) else∃(PD:Bool) (au:List Pl) (aX:av),ZM n::e8 x=r5 au::e8 aX/\FR z l=FR PD au/\o4 au/\bif Z2j au aX then ae (PX.ret,S.mk 28 (r4 n::Z2k) (FR PD au)) else ob (decide ((0:Int)<=eR au aX/\eR au aX<(↑n:Int))) (ob (Z2u au aX) (ob (cw PR (104:TypeId) (FW au aX)) (ob (Zw k) (ae (PX.normal,S.mk 28 (r4 n::Z2w::(5,tj)::ZT k) (PC PD au::(1,En.mk 0 none (Obj.box (50:TypeId) [P.d (D.int .i64 (D.aj (D.ar (FW au aX) 3))),P.d (D.int .i64 (D.aj (D.ar (FW au aX) 4))),P.d (D.int .i64 (D.aj (D.ar (FW au aX) 5)))]))::Z2y y)))))) else ae (PX.exit 0,S.mk 28 [r4 n] (FR z l)))=(aD [(87,T2)] [] 86 2 (wiL z l n x y k)) ae:=by kernel_rfl
theorem qfq(z:Bool)(l:List Pl)(n:Nat)(x y:av)(ae:P×List (Nat×En)->Prop):(∃(PD:Bool) (au:List Pl) (aX:av) (Ju:av),S.mk 28 (r4 n::Z2w::(5,tj)::pU) (PC z l::(1,mH x)::Z2y y)=S.mk 28 ((0,r5 au)::Z2w::(5,tj)::pU) (PC PD au::(1,mH aX)::Z2y Ju)/\o4 au/\(∀(b:Bool),b=within au aX Ju->ae (dV b,FR PD au))/\(within au aX Ju=true->ae (ZW,FR PD au)))=(aJ [] [(2,ah (aK 86 2) qfp)] 86 [.sl 0 0 n,.d (bV x),.d (bV y)] (Da z l)) ae:=by kernel_rfl
def qfr:bg:=λps R ae=> ∃z l x y,ps=[.sl 0 0 l.length,.d (bV x),.d (bV y)]/\R=Da z l/\l.length<=1000000/\ ∀b,b=within l x y->ae (.d (.bool b),Da z l)
abbrev qfs(l:List Pl)(x:av)(k:Int):S:=⟨39,[(0,eL l),(3,.ref 0 0 0),(5,iD k)],bxI 0 x⟩
def gRo:S->K (PX×S):=λs ae=> ∃l x,s=qfs l x 0/\l.length<=1000000/\(∀b,b=lP l x->ae (.ret,⟨39,[(4,.d (.bool b))],[]⟩))/\(lP l x=false->ae (.exit 0,⟨39,[],[]⟩))
def Z2z(ae:PX×S->Prop):Prop:=ae (PX.ret,S.mk 39 Zv [])
theorem qiR(l:List Pl)(x:av)(k:Int)(ae:PX×S->Prop):(bif decide (k<=(↑(rb l):Int)) then∃(au:List Pl) (aX:av),iG l::e8 x=iG au::e8 aX/\Zo/\o4 au/\bif Z2j au aX then Z2z ae else ob (Z2l au aX l) (ob (cw PR (104:TypeId) (AX l au aX)) (bif D.aj (D.ar (AX l au aX) 3)==(0:Int)&&(D.aj (D.ar (AX l au aX) 4)==(0:Int)&&true)&&(D.aj (D.ar (AX l au aX) 5)==(0:Int)&&true) then ae (PX.ret,S.mk 39 Ig []) else∃(eD:List Pl) (x:av),[iG l,P.d (D.agg [Z2p l au aX,Z2q l au aX,Z2r l au aX])]=iG eD::e8 x/\Zo/\o4 eD/\bif Z2j eD x then Z2z ae else ob (Z2l eD x l) (ob (cw PR (104:TypeId) (AX l eD x)) (bif !D.eG (D.ar (AX l eD x) 7) then Z2z ae else ob (Zw k) (ae (PX.normal,S.mk 39 (uY l::cE::ZB k) [Z2s l au aX])))))) else ae (PX.exit 0,S.mk 39 [] []))=(aD [(87,TV)] [] 119 2 (qfs l x k)) ae:=by kernel_rfl
theorem qiS(l:List Pl)(x:av)(ae:P×List (Nat×En)->Prop):(∃(au:List Pl) (aX:av),S.mk 39 (uY l::cE::ZV) (KZ x)=S.mk 39 (uY au::cE::ZV) (KZ aX)/\o4 au/\(∀(b:Bool),b=lP au aX->ae (dV b,[]))/\(lP au aX=false->Z4 ae))=(aJ [] [(2,ah (aK 119 2) gRo)] 119 [eL l,.d (bV x)] []) ae:=by kernel_rfl
def qft:bg:=λps R ae=> ∃l x,ps=[eL l,.d (bV x)]/\R=[]/\l.length<=1000000/\ ∀b,b=lP l x->ae (.d (.bool b),[])
def Ii:bg:=λps R ae=> ∃l x,ps=[.sl 0 0 l.length,.d (bV x)]/\R=Da false l/\l.length<=1000000/\ae (iD (eR l x),Da false l)
abbrev riH(l o:List Pl)(n:Nat)(k:Int):S:=⟨43,[(0,eL l),(3,.sl 0 0 n),(4,iD k)],[(0,⟨0,none,.arr 104 false (o.map eB)⟩)]⟩
def gRi:S->K (PX×S):=λs ae=> ∃l,s=riH l [] 0 0/\l.length<=1000000/\ae (.exit 0,⟨43,[(3,.sl 0 0 (pw l).length)],[(0,⟨0,none,.arr 104 false ((pw l).map eB)⟩)]⟩)
def JA(au:List Pl):En:=En.mk 0 none (Obj.arr (104:TypeId) false (gh au))
def ux(au:List Pl):List (Nat×En):=[(0,JA au)]
def tq(k:Int):List (Nat×P):=[(4,P.d (ZA k))]
def Z2K(k:Int)(ae:PX×S->Prop)(l:List Pl)(n:Nat)(au:List Pl):Prop:=ob (Zw k) (ae (PX.normal,S.mk 43 (uY l::(3,ZM n)::tq k) (ux au)))
def K2(l:List Pl)(k:Int):D:=D.int .i64 (D.aj (D.ar (oh l k) 2))
def K3(l:List Pl)(k:Int):D:=D.int .i64 (D.aj (D.ar (oh l k) 1))
def K4(l:List Pl)(k:Int):D:=D.int .i64 (D.aj (D.ar (oh l k) 0))
def QV(l:List Pl)(k:Int):List D:=[K4 l k,K3 l k,K2 l k,D.int .i64 (D.aj (D.ar (oh l k) 3)),D.int .i64 (D.aj (D.ar (oh l k) 4)),D.int .i64 (D.aj (D.ar (oh l k) 5)),D.str (D.cK (D.ar (oh l k) 6)),D.bool (D.eG (D.ar (oh l k) 7))]
def Z2H(n:Nat)(au:List Pl)(l:List Pl)(k:Int):En:=En.mk 0 none (Obj.arr (104:TypeId) false (List.take n (gh au)++[D.agg (QV l k)]))
def Z2F(n:Nat)(l:List Pl)(k:Int):Nat:=n+List.length [D.agg (QV l k)]
def Z2A(au:List Pl):List (Nat×En):=[(0,En.mk 0 (some 0) (Obj.arr (104:TypeId) false (gh au)))]
def K5(l:List Pl)(k:Int):P:=P.d (D.agg [K4 l k,K3 l k,K2 l k])
theorem qlg(l o:List Pl)(n:Nat)(k:Int)(ae:PX×S->Prop):(bif Nh k l then ob (C9 k l) (ob (pV l k) (∃(t:Int) (r:Int) (i:Int),[K5 l k]=AV t r i/\Zo/\bif cx t r i then ob (C9 k l) (ob (pV l k) (∃(s:List UInt8),[P.d (D.str (D.cK (D.ar (oh l k) 6)))]=ug s/\Zo/\bif dO s then ob (C9 k l) (ob (pV l k) (∃(au:List Pl) (x:av),[ZM n,K5 l k]=r5 au::e8 x/\Z2A o=Z2A au/\o4 au/\bif Z2j au x then ob (C9 k l) (ob (pV l k) (ob (Nat.ble n (rb au)&&aI (Z2F n l k) 72) (ob (Zw k) (ae (PX.normal,S.mk 43 (uY l::(3,P.sl 0 0 (Z2F n l k))::tq k) [(0,Z2H n au l k)]))))) else Z2K k ae l n au)) else Z2K k ae l n o)) else Z2K k ae l n o)) else ae (PX.exit 0,S.mk 43 [(3,ZM n)] (ux o)))=(aD [(151,nM),(138,C2),(87,Ii)] [] 118 3 (riH l o n k)) ae:=by kernel_rfl
def Z2Q(au:List Pl):Nat×En:=(0,En.mk 0 none (Obj.arr (104:TypeId) false (List.map eB (pw au))))
def ya:En:=En.mk 0 none (Obj.arr (104:TypeId) false [])
def K6:List (Nat×P):=[(4,P.d Z7)]
def T6:List (Nat×P):=(3,ZY)::K6
def Z2P(au:List Pl):S:=S.mk 43 (uY au::T6) [(0,ya)]
theorem qiT(l:List Pl)(ae:P×List (Nat×En)->Prop):(∃(au:List Pl),Z2P l=Z2P au/\o4 au/\ae (P.sl 0 0 (List.length (pw au)),[Z2Q au]))=(aJ [] [(3,ah (aK 118 3) gRi)] 118 [eL l] []) ae:=by kernel_rfl
def hRi:bg:=λps R ae=> ∃l,ps=[eL l]/\R=[]/\l.length<=1000000/\ae (.sl 0 0 (pw l).length,[(0,⟨0,none,.arr 104 false ((pw l).map eB)⟩)])
abbrev bxP(n:Nat)(p:Pl):List (Nat×En):=[(n,⟨0,none,.box 104 [.d (.int .i64 p.1.1),.d (.int .i64 p.1.2.1),.d (.int .i64 p.1.2.2),.d (.int .i64 p.2.1.1),.d (.int .i64 p.2.1.2.1),.d (.int .i64 p.2.1.2.2),.d (.str p.2.2.1),.d (.bool p.2.2.2)]⟩)]
abbrev naH(l:List Pl)(p:Pl)(k:Int):S:=⟨54,[(0,eL l),(3,.ref 0 0 0),(5,iD k)],bxP 0 p⟩
def QW(p q:Pl):Bool:=decide (q.2.1=p.2.1)&&(q.2.2.1==p.2.2.1)&&mh q.1 p.1
def gNa:S->K (PX×S):=λs ae=> ∃l p,s=naH l p 0/\l.length<=1000000/\(l.any (QW p)=true->ae (.ret,⟨54,[(3,.ref 0 0 0),(4,sD (lO p.2.2.1 p.1.1 p.1.2.1 p.1.2.2).1)],bxP 0 p⟩))/\(l.any (QW p)=false->ae (.exit 0,⟨54,[(3,.ref 0 0 0)],bxP 0 p⟩))
def JB:List (Nat×P):=[cE]
def QX(p:Pl):List UInt8:=Prod.fst (Prod.snd (Prod.snd p))
def T7(p:Pl):Int:=Prod.snd (Prod.snd (Prod.fst (Prod.snd p)))
def T8(p:Pl):Int:=Prod.fst (Prod.snd (Prod.fst (Prod.snd p)))
def T9(p:Pl):Int:=Prod.fst (Prod.fst (Prod.snd p))
def Z2Z(p:Pl):D:=D.int .i64 (Prod.snd (Prod.snd (Prod.fst p)))
def Z2Y(p:Pl):D:=D.int .i64 (Prod.fst (Prod.snd (Prod.fst p)))
def Z2X(p:Pl):D:=D.int .i64 (Prod.fst (Prod.fst p))
def Ua(p:Pl):List (Nat×En):=[(0,En.mk 0 none (Obj.box (104:TypeId) [P.d (Z2X p),P.d (Z2Y p),P.d (Z2Z p),P.d (D.int .i64 (T9 p)),P.d (D.int .i64 (T8 p)),P.d (D.int .i64 (T7 p)),P.d (D.str (QX p)),P.d (D.bool (Prod.snd (Prod.snd (Prod.snd p))))]))]
def Z32(k:Int)(ae:PX×S->Prop)(l:List Pl)(p:Pl):Prop:=ob (Zw k) (ae (PX.normal,S.mk 54 (uY l::cE::ZB k) (Ua p)))
def Ub(t:Int)(r:Int)(i:Int)(t':Int)(r':Int)(i':Int):Bool:=decide (r3 t r i t' r' i'<(0:Int))
def Z31(p:Pl):List P:=[P.d (D.agg [Z2X p,Z2Y p,Z2Z p])]
theorem qiU(l:List Pl)(p:Pl)(k:Int)(ae:PX×S->Prop):(bif Nh k l then ob (C9 k l) (ob (pV l k) (bif D.aj (D.ar (oh l k) 3)==T9 p&&(D.aj (D.ar (oh l k) 4)==T8 p&&true)&&(D.aj (D.ar (oh l k) 5)==T7 p&&true) then ob (C9 k l) (ob (pV l k) (bif D.cK (D.ar (oh l k) 6)==QX p then ob (C9 k l) (ob (pV l k) (∃(t:Int) (r:Int) (i:Int) (t':Int) (r':Int) (i':Int),K5 l k::Z31 p=P.d (D.agg (Zk t::Zk r::Zl i))::AV t' r' i'/\Zo/\bif Ub t r i t' r' i' then∃(s:List UInt8) (t:Int) (r:Int) (i:Int),P.d (D.str (QX p))::Z31 p=P.d (D.str s)::AV t r i/\Zo/\ae (PX.ret,S.mk 54 [cE,(4,P.d (D.str (Prod.fst (lO s t r i))))] (Ua p)) else Z32 k ae l p)) else Z32 k ae l p)) else Z32 k ae l p)) else ae (PX.exit 0,S.mk 54 JB (Ua p)))=(aD [(88,gG),(152,KR)] [] 120 2 (naH l p k)) ae:=by kernel_rfl
theorem qiV(l:List Pl)(p:Pl)(ae:P×List (Nat×En)->Prop):(∃(au:List Pl) (k8:Pl),S.mk 54 (uY l::cE::ZV) (Ua p)=S.mk 54 (uY au::cE::ZV) (Ua k8)/\o4 au/\(List.any au (QW k8)=true->ae (P.d (D.str (Prod.fst (lO (QX k8) (Prod.fst (Prod.fst k8)) (Prod.fst (Prod.snd (Prod.fst k8))) (Prod.snd (Prod.snd (Prod.fst k8)))))),[]))/\(List.any au (QW k8)=false->ae (P.d (D.str (QX k8)),[])))=(aJ [] [(2,ah (aK 120 2) gNa)] 120 [eL l,.d (eB p)] []) ae:=by kernel_rfl
def hNa:bg:=λps R ae=> ∃l p,ps=[eL l,.d (eB p)]/\R=[]/\l.length<=1000000/\ ∀s,s=PA l p->ae (sD s,[])
abbrev paH(l:List Pl)(p:Pl)(s:List UInt8):S:=⟨28,[(0,eL l),(3,.ref 0 0 0),(5,sD s)],bxP 0 p⟩
inductive Uc(T:List Pl)(V:List av)(x:av)(p:Pl):Prop
 |mk (h1:marked T V x=true) (h2:er T x=some p)
def gPa:S->K (PX×S):=λs ae=> ∃T V x p w,s=paH (a8 T V) p ([47]++PA (a8 T V) p)/\(T.length<=1000/\Rt T/\Uc T V x p/\Up T x w)/\ae (.exit 0,⟨28,[(5,sD (qH (w.reverse.map (Nd T V))))],[]⟩)
def Z35(gR:List UInt8):List UInt8:=[(47:UInt8)]++gR
def Z34(p:Pl):List P:=[P.d (D.agg [Z2X p,Z2Y p,Z2Z p,D.int .i64 (T9 p),D.int .i64 (T8 p),D.int .i64 (T7 p),D.str (QX p),D.bool (Prod.snd (Prod.snd (Prod.snd p)))])]
theorem qlh(l:List Pl)(p:Pl)(s:List UInt8)(ae:PX×S->Prop):(bif !(T9 p==(0:Int)&&(T8 p==(0:Int)&&true)&&(T7 p==(0:Int)&&true)) then∃(au:List Pl) (x:av),[iG l,P.d (D.agg [D.int .i64 (T9 p),D.int .i64 (T8 p),D.int .i64 (T7 p)])]=iG au::e8 x/\Zo/\o4 au/\ob (Z2l au x l) (ob (cw PR (104:TypeId) (AX l au x)) (∃(eD:List Pl) (p:Pl),[iG l,P.d (D.agg [D.int .i64 (D.aj (D.ar (AX l au x) 0)),D.int .i64 (D.aj (D.ar (AX l au x) 1)),D.int .i64 (D.aj (D.ar (AX l au x) 2)),Z2p l au x,Z2q l au x,Z2r l au x,D.str (D.cK (D.ar (AX l au x) 6)),D.bool (D.eG (D.ar (AX l au x) 7))])]=iG eD::Z34 p/\Zo/\o4 eD/\ ∀(gR:List UInt8),gR=PA eD p->ob (decide (1+q9 gR<=ZJ)) (ob (decide (List.length (Z35 gR)+q9 s<=ZJ)) (ae (PX.normal,S.mk 28 [uY l,cE,(5,P.d (D.str (Z35 gR++s)))] [(0,En.mk 0 none (Obj.box (104:TypeId) [P.d (D.int .i64 (D.aj (D.ar (AX l au x) 0))),P.d (D.int .i64 (D.aj (D.ar (AX l au x) 1))),P.d (D.int .i64 (D.aj (D.ar (AX l au x) 2))),P.d (Z2p l au x),P.d (Z2q l au x),P.d (Z2r l au x),P.d (D.str (D.cK (D.ar (AX l au x) 6))),P.d (D.bool (D.eG (D.ar (AX l au x) 7)))]))]))))) else ae (PX.exit 0,S.mk 28 [(5,P.d (D.str s))] []))=(aD [(120,hNa),(87,TV)] [] 90 2 (paH l p s)) ae:=by kernel_rfl
def Ij(T:List Pl):Prop:=jR T<=1000
theorem qiW(l:List Pl)(p:Pl)(ae:P×List (Nat×En)->Prop):(∃(au:List Pl) (k8:Pl),iG l::Z34 p=iG au::Z34 k8/\Zo/\o4 au/\ ∀(s:List UInt8),s=PA au k8->ob (decide (1+q9 s<=ZJ)) (∃(T:List Pl) (V:List av) (x:av) (p_2:Pl) (w:List av),S.mk 28 [uY l,cE,(5,P.d (D.str (Z35 s)))] (Ua p)=S.mk 28 [(0,P.d (D.sl 8 (List.map eB (a8 T V)))),cE,(5,P.d (D.str ([(47:UInt8)]++PA (a8 T V) p_2)))] (Ua p_2)/\(Ij T/\Rt T/\Uc T V x p_2/\Up T x w)/\ae (P.d (D.str (qH (List.map (Nd T V) (List.reverse w)))),[])))=(aJ [(120,hNa)] [(2,ah (aK 90 2) gPa)] 90 [eL l,.d (eB p)] []) ae:=by kernel_rfl
def hPa:bg:=λps R ae=> ∃T V p,ps=[eL (a8 T V),.d (eB p)]/\R=[]/\(T.length<=1000/\Rt T/\p∈a8 T V)/\ae (sD (Nf T V p.1),[])
theorem re{l:List Pl}{x:av}(h:er l x=none):eR l x= -1:=by refine Ni λp hp=> ?_;unfold er at h;simpa using zch.1 h p hp
theorem nT{l:List Pl}{x:av}{p:Pl}(h:er l x=some p): ∃i:Nat,eR l x=(i:Int)/\i<l.length/\l.getD i uh=p:=by
 unfold er at h;obtain⟨h1,i,hi,h2,h3⟩:=List.find?_eq_some_iff_getElem.1 h;refine⟨i,Ih (x:=p) (by rw[zac hi,h2]) h1 λy hy=> ?_,hi,?_⟩
 ·obtain⟨j,hj,rfl⟩:=zaT hy;rw[List.getElem_take];rw[zas] at hj;simpa using h3 j (by omega)
 rw[zad,zac hi];exact h2
section
variable{X:XF}
theorem qfu{x y:av}(h:(x.1==y.1&&(x.2.1==y.2.1&&true)&&(x.2.2==y.2.2&&true))=true):x=y:=by rw[rD] at h;simpa using h
theorem qfv{x y:av}(h:(x.1==y.1&&(x.2.1==y.2.1&&true)&&(x.2.2==y.2.2&&true))=false):x≠y:=by rw[rD] at h;simpa using h
theorem qa4:LD X 86 2 (ah (aK 86 2) qfp):=LD.par (H:=[(87,T2)]) (hk:=[]) (by kernel_rfl) (by kernel_rfl) (.cons T4 .nil) .nil
 (A:=List Pl×av×av×Bool) (B:=av×Int) (λa b=>wiL a.2.2.2 a.1 a.1.length b.1 a.2.2.1 b.2)
 (λa b=>a.1.length<=1000000/\0<=b.2/\b.2<=a.1.length+1/\mE a.1 (a.1.length+1-b.2.toNat) b.1 a.2.2.1=within a.1 a.2.1 a.2.2.1)
 (λa b=>a.1.length+1-b.2.toNat)
 (λa r=>(r=(.ret,⟨28,[(0,.sl 0 0 a.1.length),(6,.d (.bool (within a.1 a.2.1 a.2.2.1)))],Da a.2.2.2 a.1⟩))\/(within a.1 a.2.1 a.2.2.1=true/\r=(.exit 0,⟨28,[(0,.sl 0 0 a.1.length)],Da a.2.2.2 a.1⟩)))
 (by
  rintro⟨l,x0,y,z⟩ ⟨x,k⟩ ⟨hm,h0,hk,hw⟩;dsimp only at*
  (rw[<-qiQ];delta eX eY e7 eN eO mH Z2y gh PC ZA ZT tj iN Z2w Za Z9 Zw FW rb Z2u Z3 Z2k Z2j jR o4 r5 l9 e8 ZM FR ZW r4 Z2g)
  refine bf (λh=> ?_) λh=> ?_
  ·obtain⟨n,hn⟩: ∃n,l.length+1-k.toNat=n+1:=⟨l.length-k.toNat,by omega⟩
   rw[hn] at hw;simp only[mE] at hw;refine aA (λhe=> ?_) λhe=>⟨z,l,x,rfl,rfl,hm,?_⟩
   ·rw[zap (qfu he)] at hw;left;rw[<-hw]
   rw[zan (qfv he)] at hw;cases hp:er l x with
   |none=>rw[hp] at hw;rw[re hp];refine ie (lL (by decide)) (.inl ?_);simp only at hw;rw[<-hw]
   |some p=>rw[hp] at hw;obtain⟨i,hi,bK,hip⟩:=nT hp;rw[hi];simp only[zcl];rw[jf bK,hip];refine iK (lM (by omega)) (bm ⟨by omega,by omega⟩ (aq (lL (by rw[zaa];exact bK)) (aq (ij p) (aq (pM (by omega) (by omega)) ⟨l.length+1-(k+1).toNat,by omega,(p.2.1,k+1),rfl,⟨hm,by simp only;omega,by simp only;omega,?_⟩,rfl⟩))));simp only;rw[show l.length+1-(k+1).toNat=n by omega];exact hw
  have:l.length+1-k.toNat=0:=by omega
  rw[this] at hw;exact .inr ⟨hw.symm,rfl⟩)
 (by
  rintro s ae ⟨z,l,x,y,rfl,hm,h1,h2⟩;refine⟨(l,x,y,z),(x,0),rfl,⟨hm,by simp,by simp only;omega,rfl⟩,?_⟩;rintro r (rfl | ⟨h3,rfl⟩)
  ·exact h1 _ rfl
  exact h2 h3)
theorem qdq:FD X 86 qfr:=FD.mk (H:=[]) (hk:=[(2,ah (aK 86 2) qfp)]) (by kernel_rfl) .nil (.cons qa4 .nil) (by
 intro ps R ae hh;obtain⟨z,l,x,y,rfl,rfl,hm,hp⟩:=hh
 (rw[<-qfq];delta ZW gh PC FR dV jR o4 r5 eX eY e7 eN eO mH Z2y Z7 pU tj iN Z2w ZM r4)
 exact⟨z,l,x,y,rfl,hm,λb hb=>hp b hb,λh=>hp true h.symm⟩)
theorem qfw:LD X 119 2 (ah (aK 119 2) gRo):=LD.par (H:=[(87,TV)]) (hk:=[]) (by kernel_rfl) (by kernel_rfl) (.cons qdp .nil) .nil
 (A:=List Pl×av) (B:=av×Int) (λa b=>qfs a.1 b.1 b.2)
 (λa b=>a.1.length<=1000000/\0<=b.2/\b.2<=a.1.length+1/\ui a.1 (a.1.length+1-b.2.toNat) b.1=lP a.1 a.2)
 (λa b=>a.1.length+1-b.2.toNat)
 (λa r=>(r=(.ret,⟨39,[(4,.d (.bool (lP a.1 a.2)))],[]⟩))\/(lP a.1 a.2=false/\r=(.exit 0,⟨39,[],[]⟩)))
 (by
  rintro⟨l,x0⟩ ⟨x,k⟩ ⟨hm,h0,hk,hw⟩;dsimp only at*
  (rw[<-qiR];delta gh AX Z2r Z2q Z2p Z2s ZA ZB bP cE iG uY Za Z9 Zw ZW Ig rb Z2l Z3 Zv Z2z Z2j jR o4 Zo eX eY e7 eN eO l9 e8)
  simp only[zaa];refine bf (λh=> ?_) λh=> ?_
  ·obtain⟨n,hn⟩: ∃n,l.length+1-k.toNat=n+1:=⟨l.length-k.toNat,by omega⟩
   rw[hn] at hw;simp only[ui] at hw;refine⟨l,x,rfl,rfl,hm,?_⟩;cases hp:er l x with
   |none=>rw[hp] at hw;rw[re hp];refine ie (lL (by decide)) (.inl ?_);simp only at hw;rw[<-hw]
   |some p=>
    rw[hp] at hw;simp only at hw;obtain⟨i,hi,bK,hip⟩:=nT hp;rw[hi];simp only[zcl];rw[jf bK,hip];refine iK (lM (by omega)) (bm ⟨by omega,by omega⟩ (aq (ij p) (aA (λhe=> ?_) λhe=>⟨l,p.2.1,rfl,rfl,hm,?_⟩)))
    ·rw[zap (qfu (y:=aB) he)] at hw;left;rw[<-hw]
    rw[zan (qfv (y:=aB) he)] at hw;cases hq:er l p.2.1 with
    |none=>rw[hq] at hw;rw[re hq];refine ie (lL (by decide)) (.inl ?_);simp only at hw;rw[<-hw]
    |some q=>
     rw[hq] at hw;simp only at hw;obtain⟨j,hj,GG,hjq⟩:=nT hq;rw[hj];simp only[zcl];rw[jf GG,hjq];refine iK (lM (by omega)) (bm ⟨by omega,by omega⟩ (aq (ij q) (aA (λhd=> ?_) λhd=>aq (pM (by omega) (by omega)) ⟨l.length+1-(k+1).toNat,by omega,(p.2.1,k+1),rfl,⟨hm,by simp only;omega,by simp only;omega,?_⟩,rfl⟩)))
     ·have hd':(!q.2.2.2)=true:=hd;rw[zap (by simpa using hd')] at hw;left;rw[<-hw]
     have hd':(!q.2.2.2)=false:=hd;rw[zan (by simpa using hd')] at hw;simp only;rw[show l.length+1-(k+1).toNat=n by omega];exact hw
  have:l.length+1-k.toNat=0:=by omega
  rw[this] at hw;exact .inr ⟨hw.symm,rfl⟩)
 (by
  rintro s ae ⟨l,x,rfl,hm,h1,h2⟩;refine⟨(l,x),(x,0),rfl,⟨hm,by simp,by simp only;omega,rfl⟩,?_⟩;rintro r (rfl | ⟨h3,rfl⟩)
  ·exact h1 _ rfl
  exact h2 h3)
theorem qiX:FD X 119 qft:=FD.mk (H:=[]) (hk:=[(2,ah (aK 119 2) gRo)]) (by kernel_rfl) .nil (.cons qfw .nil) (by
 intro ps R ae hh;obtain⟨l,x,rfl,rfl,hm,hp⟩:=hh
 (rw[<-qiS];delta Z3 Z4 dV jR o4 eX eY e7 eN eO mH nt KZ Z7 ZV bP cE gh iG uY)
 exact⟨l,x,rfl,hm,λb hb=>hp b hb,λh=>hp false h.symm⟩)
theorem Ud:FD X 87 Ii:=T4.weaken λps R ae h=>by obtain⟨l,x,h1,h2,h3,h4⟩:=h;exact⟨false,l,x,h1,h2,h3,h4⟩
theorem Ik{l:List Pl}{x:av}:eR l x<0↔(er l x).isSome=false:=by
 cases h:er l x with
 |none=>rw[re h];simp
 |some p=>obtain⟨i,hi,_⟩:=nT h;rw[hi];simp
theorem yb(l:List Pl):(l.map eB).take l.length=l.map eB:=zal (by simp)
theorem qfx:LD X 118 3 (ah (aK 118 3) gRi):=LD.par (H:=[(151,nM),(138,C2),(87,Ii)]) (hk:=[]) (by kernel_rfl) (by kernel_rfl) (.cons sH (.cons EJ (.cons Ud .nil))) .nil
 (A:=List Pl) (B:=Int) (λa k=>riH a (pw (a.take k.toNat)) (pw (a.take k.toNat)).length k)
 (λa k=>a.length<=1000000/\0<=k/\k.toNat<=a.length)
 (λa k=>(a.length-k).toNat)
 (λa x=>x=(.exit 0,⟨43,[(3,.sl 0 0 (pw a).length)],[(0,⟨0,none,.arr 104 false ((pw a).map eB)⟩)]⟩))
 (by
  rintro l k ⟨hm,h0,h1⟩
  (rw[<-qlg];delta gh JA ux ZA tq ZM iG uY Za Z9 Zw Z2K Zt oh K2 K3 K4 QV Z2H Z2F rb Z2j jR o4 Z2A eX eY e7 eN eO l9 e8 r5 ug Zo Zk Zl AV K5 pV C9 Nh)
  simp only[zaa];refine bf (λh=> ?_) λh=> ?_
  ·have hk:k.toNat<l.length:=by omega
   rw[jf hk];have e:pw (l.take (k+1).toNat)=KS (pw (l.take k.toNat)) (l.getD k.toNat uh):=by rw[show(k+1).toNat=k.toNat+1 by omega];exact KT KS [] l _ k.toNat hk
   have htl:=uw (l.take k.toNat);rw[zas] at htl;generalize l.getD k.toNat uh=p at e;generalize pw (l.take k.toNat)=T at e htl;have go: ∀T',KS T p=T'-> ∃m,m<((l.length:Int)-k).toNat/\ ∃b,(riH l T' T'.length (k+1):S)=riH l (pw (l.take b.toNat)) (pw (l.take b.toNat)).length b/\(l.length<=1000000/\0<=b/\b.toNat<=l.length)/\m=((l.length:Int)-b).toNat:=λT' hT=>⟨((l.length:Int)-(k+1)).toNat,by omega,k+1,by rw[e,hT],⟨hm,by omega,by omega⟩,rfl⟩
   have fit:decide ((-9223372036854775808:Int)<=k+(1:Int)/\k+(1:Int)<=(9223372036854775807:Int))=true:=pM (by omega) (by omega);refine bm ⟨h0,by omega⟩ (aq (ij _) ⟨p.1.1,p.1.2.1,p.1.2.2,rfl,rfl,aA (λh3=>bm ⟨h0,by omega⟩ (aq (ij _) ⟨p.2.2.1,rfl,rfl,aA (λh4=>bm ⟨h0,by omega⟩ (aq (ij _) ⟨T,p.1,rfl,rfl,by omega,aA (λh5=>bm ⟨h0,by omega⟩ (aq (ij _) (aq ?_ (aq fit ?_)))) λh5=>aq fit ?_⟩)) λh4=>aq fit ?_⟩)) λh3=>aq fit ?_⟩)
   ·simp[aI];omega
   ·have hs:(er T p.1).isSome=false:=Ik.1 (zbJ h5);have:=go (T++[p]) (by unfold KS;simp[hs,zY,h3,h4]);rw[yb];have e1:(T++[p]).length=T.length+1:=by simp
    have e2:(T++[p]).map eB=T.map eB++[eB p]:=by simp
    simp only[riH,e1,e2] at this;exact this
   ·have hs:(er T p.1).isSome=true:=by
     cases hs:(er T p.1).isSome with
     |true=>rfl
     |false=>exact absurd (Ik.2 hs) (zcx h5)
    exact go T (by unfold KS;simp[hs])
   ·refine go T ?_;unfold KS;split
    ·rfl
    rw[zan (by simp[zY,h4])]
   refine go T ?_;unfold KS;split
   ·rfl
   rw[zan (by simp[zY,h3])]
  rw[zal (by omega)];rfl)
 (by rintro s ae ⟨l,rfl,hm,hp⟩;refine⟨l,0,rfl,⟨hm,by decide,by simp⟩,?_⟩;rintro x rfl;exact hp)
theorem qli:FD X 118 hRi:=FD.mk (H:=[]) (hk:=[(3,ah (aK 118 3) gRi)]) (by kernel_rfl) .nil (.cons qfx .nil) (by
 intro ps R ae hh;obtain⟨l,rfl,rfl,hm,hp⟩:=hh
 (rw[<-qiT];delta Z2Q jR o4 ya Z7 K6 ZY T6 gh iG uY Z2P)
 exact⟨l,rfl,hm,hp⟩)
theorem qfy:LD X 120 2 (ah (aK 120 2) gNa):=
 LD.scan (H:=[(88,gG),(152,KR)]) (hk:=[]) (by kernel_rfl) (by kernel_rfl) (.cons lK (.cons TA .nil)) .nil
  (A:=List Pl×Pl) (λa k=>naH a.1 a.2 k) (·.1) uh (λa q=>QW a.2 q) (λ_=>True)
  (λa _=>⟨54,[(3,.ref 0 0 0),(4,sD (lO a.2.2.2.1 a.2.1.1 a.2.1.2.1 a.2.1.2.2).1)],bxP 0 a.2⟩) (λa=>⟨54,[(3,.ref 0 0 0)],bxP 0 a.2⟩)
  (by
   rintro⟨l,p⟩ k ae _ hm h0 hk du ht hf;dsimp only at*
   (rw[<-qiU];delta bP cE JB QX T7 T8 T9 Z2Z Z2Y Z2X Ua ZA ZB gh iG uY Za Z9 Zw Z32 Ub Zo Zk Zl AV Z31 Zt oh K2 K3 K4 K5 pV rb C9 Nh)
   simp only[zaa];rw[jf du];generalize l.getD k.toNat uh=q at ht hf;have fit:decide ((-9223372036854775808:Int)<=k+(1:Int)/\k+(1:Int)<=(9223372036854775807:Int))=true:=pM (by omega) (by omega);refine ie (lL hk) (bm ⟨h0,hk⟩ (aq (ij _) (aA (λh1=>bm ⟨h0,hk⟩ (aq (ij _) (aA (λh2=>bm ⟨h0,hk⟩ (aq (ij _) ⟨_,_,_,_,_,_,rfl,rfl,aA (λh3=>⟨_,_,_,_,rfl,rfl,ht ?_⟩) λh3=>aq fit (hf ?_)⟩)) λh2=>aq fit (hf ?_)))) λh1=>aq fit (hf ?_))))
   ·have QL:q.2.1=p.2.1:=qfu h1;have h3':=(il q.1 p.1).1 (zbJ h3);have h2':(q.2.2.1==p.2.2.1)=true:=h2;simp[QW,QL,h2',h3']
   ·have h3': ¬mh q.1 p.1=true:=λh=>zcx h3 ((il q.1 p.1).2 h);simp[QW,h3']
   ·have h2':(q.2.2.1==p.2.2.1)=false:=h2;simp[QW,h2']
   have QL:q.2.1≠p.2.1:=qfv h1;simp[QW,QL])
  (by
   rintro⟨l,p⟩ k ae _ hk hp;dsimp only at*
   (rw[<-qiU];delta bP cE JB QX T7 T8 T9 Z2Z Z2Y Z2X Ua ZA ZB gh iG uY Za Z9 Zw Z32 Ub Zo Zk Zl AV Z31 Zt oh K2 K3 K4 K5 pV rb C9 Nh)
   simp only[zaa];exact iK (lM hk) hp)
  (by
   rintro s ae ⟨l,p,rfl,hm,h1,h2⟩;refine⟨(l,p),rfl,trivial,hm,λi hi h0=>h1 ?_,λh=>h2 ?_⟩
   ·rw[<-Nj (QW p) l,<-hi];exact lL h0
   rw[<-Nj (QW p) l];dsimp only at h;rw[h];rfl)
theorem qiY:FD X 120 hNa:=FD.mk (H:=[]) (hk:=[(2,ah (aK 120 2) gNa)]) (by kernel_rfl) .nil (.cons qfy .nil) (by
 intro ps R ae hh;obtain⟨l,p,rfl,rfl,hm,hp⟩:=hh
 (rw[<-qiV];delta QX jR o4 T7 T8 T9 Z2Z Z2Y Z2X Ua Z7 ZV bP cE gh iG uY)
 have e:PA l p=if l.any (QW p)=true then(lO p.2.2.1 p.1.1 p.1.2.1 p.1.2.2).1 else p.2.2.1:=rfl
 exact⟨l,p,rfl,hm,λh=>hp _ (by rw[e,zap h]),λh=>hp _ (by rw[e,h];rfl)⟩)
theorem Ue{T:List Pl}{V:List av}(hu:Uq T):Uq (a8 T V):=by unfold Uq;exact H3 hu V
theorem PE{T:List Pl}{V:List av}(hu:Uq T){x:av}{p:Pl}(h:marked T V x=true)(hp:er T x=some p):er (a8 T V) x=some p:=by have:=M4 (Ue (V:=V) hu) (TR h hp);rwa [(jK hp).2] at this
theorem qfz:LD X 90 2 (ah (aK 90 2) gPa):=LD.par (H:=[(120,hNa),(87,TV)]) (hk:=[]) (by kernel_rfl) (by kernel_rfl) (.cons qiY (.cons qdp .nil)) .nil
 (A:=List Pl×List av×List av) (B:=Pl×List UInt8×av×List av×List av) (λa b=>paH (a8 a.1 a.2.1) b.1 b.2.1)
 (λ⟨T,V,w0⟩ ⟨p,s,x,v,w⟩=>T.length<=1000/\Rt T/\w0.length<=T.length/\marked T V x=true/\er T x=some p/\Up T x w/\w0=v++w/\s=qH ((v++[x]).reverse.map (Nd T V))/\(∀u∈w,marked T V u=true)/\(qH (w0.reverse.map (Nd T V))).length<=201*T.length/\s.length<=201*(v.length+1))
 (λ_ b=>b.2.2.2.2.length)
 (λ⟨T,V,w0⟩ r=>r=(.exit 0,⟨28,[(5,sD (qH (w0.reverse.map (Nd T V))))],[]⟩))
 (by
  rintro⟨T,V,w0⟩ ⟨p,s,x,v,w⟩ ⟨hm,hT,hw0,hmx,hpx,hw,DW,hs,hmw,hlen,Mz⟩;dsimp only at*
  have hsL:(a8 T V).length<=T.length:=zaG _ _
  (rw[<-qlh];delta bP cE gh iG uY Z35 ZJ q9 QX T7 T8 T9 Z2Z Z2Y Z2X Z34 AX Z2r Z2q Z2p rb Z2l jR o4 Zo eX eY e7 eN eO l9 e8)
  simp only[zaa];cases hw with
  |top h h0=>
   rw[hpx] at h;cases h;refine iK ?_ ?_
   ·rw[h0];rfl
   show _=_;rw[DW,hs]
  | @step _ p' q w' h h0 hq hd Hx=>
   rw[hpx] at h;cases h;obtain⟨r,hr⟩:=Hx.hd;have hmq:marked T V p.2.1=true:=hmw _ (by rw[hr];simp);have hqs:=PE hT.1 hmq hq;obtain⟨i,hi,bK,PF⟩:=nT hqs;have tf:=x9 (a8 T V) (hT.2 q (jK hq).1);have hnx:Nd T V p.2.1=PA (a8 T V) q:=by unfold Nd;rw[hq]
   have hvl:v.length+1<=T.length:=by have:=congrArg List.length DW;simp at this;omega
   refine ie ?_ ⟨a8 T V,p.2.1,rfl,rfl,by omega,?_⟩
   ·have:=rD p.2.1 (0,0,0);rw[show(p.2.1==(0,0,0))=false by simpa using h0] at this;simp only at this;show(!_)=true;rw[this];rfl
   rw[hi];simp only[zcl];rw[jf bK,PF];refine bm ⟨by omega,by omega⟩ (aq (ij q) ⟨a8 T V,q,rfl,rfl,by omega,λs1 rV=> ?_⟩);subst rV;refine bm (by omega) (bm (by simp;omega) ⟨w'.length,by simp,(q,[47]++PA (a8 T V) q++s,p.2.1,v++[x],w'),rfl,⟨hm,hT,hw0,hmq,hq,Hx,by rw[DW];simp,?_,λu hu=>hmw u (by simp[hu]),hlen,?_⟩,rfl⟩)
   ·simp only;rw[hs,<-hnx];simp[qH]
   simp only;simp;omega)
 (by
  rintro s ae ⟨T,V,x,p,w,rfl,⟨hm,hT,⟨hmx,hpx⟩,hw⟩,hp⟩;obtain⟨w2,hw2,mw⟩:=C4 hmx;have:=hw.one hw2;subst this;have hnx:Nd T V x=PA (a8 T V) p:=by unfold Nd;rw[hpx]
  have tf:=x9 (a8 T V) (hT.2 p (jK hpx).1);refine⟨(T,V,w),(p,[47]++PA (a8 T V) p,x,[],w),rfl,⟨hm,hT,hw.len,hmx,hpx,hw,rfl,by rw[<-hnx];simp[qH],mw,PB hT hw,by simp;omega⟩,?_⟩;rintro r rfl;exact hp)
theorem qlj:FD X 90 hPa:=FD.mk (H:=[(120,hNa)]) (hk:=[(2,ah (aK 90 2) gPa)]) (by kernel_rfl) (.cons qiY .nil) (.cons qfz .nil) (by
 intro ps R ae hh;obtain⟨T,V,p,rfl,rfl,⟨hm,hT,hp0⟩,hp⟩:=hh;obtain⟨hpT,Il⟩:=qa0 hp0;have GJ:=M4 hT.1 hpT;obtain⟨w,hw,_⟩:=C4 Il;have hsL:(a8 T V).length<=T.length:=zaG _ _;have tf:=x9 (a8 T V) (hT.2 p hpT)
 (rw[<-qiW];delta jR Ij QX T7 T8 T9 Z2Z Z2Y Z2X Ua Z35 bP cE gh iG uY ZJ q9 o4 Zo Z34)
 refine⟨a8 T V,p,rfl,rfl,by omega,λs hs=> ?_⟩;subst hs;refine bm (by omega) ⟨T,V,p.1,p,w,rfl,⟨hm,hT,⟨Il,GJ⟩,hw⟩,?_⟩;unfold Nf at hp;rw[TS hw] at hp;exact hp)
end
abbrev Nl(n:Nat)(z:Bool)(l:List Pl):List (Nat×En):=[(n,⟨0,none,.arr 104 z (l.map eB)⟩)]
abbrev PG(n:Nat)(l:List It):List (Nat×En):=[(n,⟨0,none,.arr 72 false (l.map ew)⟩)]
abbrev skH(z:Bool)(l:List Pl)(n:Nat)(v:List av)(o:List Pl)(m:Nat)(i:Int):S:=⟨62,[(0,.sl 0 0 n),(1,cI v),(5,.sl 1 0 m),(6,iD i)],Nl 0 z l++Nl 1 false o⟩
abbrev skI(z:Bool)(l:List Pl)(n:Nat)(v:List av)(o:List Pl)(m:Nat)(i:Int)(b:Bool)(k:Int):S:=⟨62,[(0,.sl 0 0 n),(1,cI v),(5,.sl 1 0 m),(6,iD i),(7,.d (.bool b)),(8,iD k)],Nl 0 z l++Nl 1 false o⟩
def Nn(l:List Pl)(v:List av)(p q:Pl):Bool:=decide (q.1∈v)&&lP l q.1&&within l q.1 p.1
def qfA:S->K (PX×S):=λs ae=> ∃z l v o m i b,s=skI z l l.length v o m i b 0/\(l.length<=1000000/\v.length<=1000000/\0<=i/\i<l.length)/\
 ∀z' b',b'=(b ||l.any (Nn l v (l.getD i.toNat uh)))->ae (.exit 2,⟨62,[(0,.sl 0 0 l.length),(1,cI v),(5,.sl 1 0 m),(6,iD i),(7,.d (.bool b'))],Nl 0 z' l++Nl 1 false o⟩)
def Z3d(l:List Pl):Nat×En:=(0,En.mk 0 none (Obj.arr (104:TypeId) true (gh l)))
def uy(b:Bool):Nat×P:=(7,dV b)
def Im(o:List Pl):List (Nat×En):=[(1,JA o)]
def JC(z:Bool)(mI:List Pl):Nat×En:=(0,En.mk 0 none (Obj.arr (104:TypeId) z (gh mI)))
def pW(k:Int):List (Nat×P):=[(8,P.d (ZA k))]
def JD(m:Nat):Nat×P:=(5,P.sl 1 0 m)
def oo(v:List av):Nat×P:=(1,gJ v)
theorem qiZ(z:Bool)(l:List Pl)(n:Nat)(v:List av)(o:List Pl)(m:Nat)(i:Int)(b:Bool)(k:Int)(ae:PX×S->Prop):(bif T0 k n then ob (l8 k n) (ob (Jy k l) (ob (pV l k) (∃(au:List av) (x:av),[gJ v,K5 l k]=gJ au::e8 x/\Zo/\nu au/\bif decide (x∈au) then ob (l8 k n) (ob (Jy k l) (ob (pV l k) (∃(eD:List Pl) (x:av),[P.d (D.sl 8 (List.take n (gh l))),K5 l k]=iG eD::e8 x/\Zo/\o4 eD/\ ∀(K7:Bool),K7=lP eD x->bif K7 then ob (l8 k n) (ob (Jy k l) (ob (pV l k) (ob (l8 i n) (ob (Jy i l) (ob (pV l i) (∃(z:Bool) (mI:List Pl) (x:av) (y:av),[ZM n,K5 l k,K5 l i]=r5 mI::l9 x::e8 y/\[(0,En.mk 0 (some 0) (Obj.arr (104:TypeId) true (gh l)))]=FR z mI/\o4 mI/\ ∀(b_2:Bool),b_2=within mI x y->bif b_2 then ob (Zw k) (ae (PX.normal,S.mk 62 (r4 n::oo v::JD m::ZS i::(7,ZW)::pW k) (JC z mI::Im o))) else ob (Zw k) (ae (PX.normal,S.mk 62 (r4 n::oo v::JD m::ZS i::uy b::pW k) (JC z mI::Im o))))))))) else ob (Zw k) (ae (PX.normal,S.mk 62 (r4 n::oo v::JD m::ZS i::uy b::pW k) (Z3d l::Im o)))))) else ob (Zw k) (ae (PX.normal,S.mk 62 (r4 n::oo v::JD m::ZS i::uy b::pW k) (JC z l::Im o)))))) else ae (PX.exit 2,S.mk 62 [r4 n,oo v,JD m,ZS i,uy b] (JC z l::Im o)))=(aD [(91,K0),(119,qft),(86,qfr)] [] 89 8 (skI z l n v o m i b k)) ae:=by kernel_rfl
def tu:List (Nat×P):=[(8,P.d Z7)]
theorem qi0(z:Bool)(l:List Pl)(n:Nat)(v:List av)(o:List Pl)(m:Nat)(i:Int)(ae:PX×S->Prop):(bif T0 i n then∃(PD:Bool) (au:List Pl) (cT:List av) (aU:List Pl) (bz:Nat) (bb:Int) (b:Bool),S.mk 62 (r4 n::oo v::JD m::ZS i::(7,P.d Z3)::tu) (JC z l::Im o)=S.mk 62 ((0,r5 au)::oo cT::JD bz::ZS bb::uy b::tu) (JC PD au::Im aU)/\(o4 au/\nu cT/\(0:Int)<=bb/\bb<(↑(jR au):Int))/\ ∀(z' b':Bool),b'=(b ||List.any au (Nn au cT (List.getD au (Zt bb) uh)))->bif b' then ob (decide ((0:Int)<=bb/\bb<(↑(jR au):Int))) (ob (Jy bb au) (ob (pV au bb) (ob (Nat.ble bz (rb aU)&&aI (Z2F bz au bb) 72) (ob (Zw bb) (ae (PX.normal,S.mk 62 ((0,r5 au)::oo cT::(5,P.sl 1 0 (Z2F bz au bb))::ZL bb) [JC z' au,(1,Z2H bz aU au bb)])))))) else ob (Zw bb) (ae (PX.normal,S.mk 62 ((0,r5 au)::oo cT::JD bz::ZL bb) (JC z' au::Im aU))) else ae (PX.exit 0,S.mk 62 [ZN m] (ux o)))=(aD [] [(8,ah (aK 89 8) qfA)] 89 4 (skH z l n v o m i)) ae:=by kernel_rfl
def qfB:S->K (PX×S):=λs ae=> ∃l v,s=skH false (pw l) (pw l).length v [] 0 0/\(l.length<=1000000/\v.length<=1000000)/\ae (.exit 0,⟨62,[(5,.sl 0 0 (a8 (pw l) v).length)],Nl 0 false (a8 (pw l) v)⟩)
def Z3j(l:List Pl)(cT:List av):Nat×En:=(0,En.mk 0 none (Obj.arr (104:TypeId) false (List.map eB (a8 (pw l) cT))))
def JE:List (Nat×P):=[(6,P.d Z7)]
def rE:P:=P.sl 1 0 0
def Z3h:List (Nat×P):=(5,rE)::JE
def Z3i(l:List Pl)(cT:List av):S:=S.mk 62 ((0,P.sl 0 0 (List.length (pw l)))::oo cT::Z3h) [Z2Q l,(1,ya)]
theorem qlk(l:List Pl)(v:List av)(ae:P×List (Nat×En)->Prop):(∃(au:List Pl),[iG l]=[iG au]/\Zo/\o4 au/\ ∃(l:List Pl) (cT:List av),Z3i au v=Z3i l cT/\(o4 l/\nu cT)/\ae (P.sl 0 0 (List.length (a8 (pw l) cT)),[Z3j l cT]))=(aJ [(118,hRi)] [(4,ah (aK 89 4) qfB)] 89 [eL l,cI v] []) ae:=by kernel_rfl
def K8:bg:=λps R ae=> ∃l v,ps=[eL l,cI v]/\R=[]/\(l.length<=1000000/\v.length<=1000000)/\ae (.sl 0 0 (a8 (pw l) v).length,Nl 0 false (a8 (pw l) v))
abbrev imH(z:Bool)(l:List Pl)(n:Nat)(v:List av)(o:List It)(m:Nat)(i:Int):S:=⟨77,[(1,cI v),(5,.sl 0 0 n),(6,.sl 1 0 m),(7,iD i)],Nl 0 z l++PG 1 o⟩
abbrev imI(z:Bool)(l:List Pl)(n:Nat)(v:List av)(o:List It)(m:Nat)(i k:Int):S:=⟨77,[(1,cI v),(5,.sl 0 0 n),(6,.sl 1 0 m),(7,iD i),(9,iD k)],Nl 0 z l++PG 1 o⟩
def qfC:S->K (PX×S):=λs ae=> ∃z l n v o a i k,s=imI z l n v (o++[a]) (o.length+1) i k/\(k=(o.length:Int)/\o.length<=1000000)/\ae (.exit 2,imH z l n v (cD Ic o a) (o.length+1) i)
def Z3u(o:List It):En:=En.mk 0 none (Obj.arr (72:TypeId) false (List.map ew o))
def o5(i:Int):Nat×P:=(7,Zm i)
def K9(m:Nat):Nat×P:=(6,P.sl 1 0 m)
def Z3v(ae:PX×S->Prop)(v:List av)(n:Nat)(m:Nat)(i:Int)(z:Bool)(l:List Pl)(o:List It):Prop:=ae (PX.exit 2,S.mk 77 [oo v,ZN n,K9 m,o5 i] [JC z l,(1,Z3u o)])
def AY(o:List It)(k:Int):D:=D.nth (List.map ew o) (Zt k)
def Z3o(o:List It)(k:Int):List D:=[D.int .i64 (D.aj (D.ar (AY o k) 0)),D.int .i64 (D.aj (D.ar (AY o k) 1)),D.int .i64 (D.aj (D.ar (AY o k) 2)),D.str (D.cK (D.ar (AY o k) 3)),D.bool (D.eG (D.ar (AY o k) 4)),D.bool (D.eG (D.ar (AY o k) 5))]
def Z3t(k:Int):List (Nat×P):=[(9,ZG k)]
def Yo(o:List It)(k:Int):D:=D.nth (List.map ew o) (Zc k)
def Z3p(o:List It)(k:Int):List D:=List.set (List.map ew o) (Zt k) (D.aP (D.agg (Z3o o k)) [D.int .i64 (D.aj (D.ar (Yo o k) 0)),D.int .i64 (D.aj (D.ar (Yo o k) 1)),D.int .i64 (D.aj (D.ar (Yo o k) 2)),D.str (D.cK (D.ar (Yo o k) 3)),D.bool (D.eG (D.ar (Yo o k) 4)),D.bool (D.eG (D.ar (Yo o k) 5))])
def Z3q(o:List It)(k:Int):D:=D.nth (Z3p o k) (Zc k)
def uZ(k:Int)(m:Nat):Bool:=decide ((0:Int)<=k-(1:Int)/\k-(1:Int)<(↑m:Int))
def QY(o:List It):Nat:=List.length (List.map ew o)
theorem qi1(z:Bool)(l:List Pl)(n:Nat)(v:List av)(o:List It)(m:Nat)(i k:Int)(ae:PX×S->Prop):(bif ZF k then ob (l8 k m) (ob (decide (Zt k<QY o)) (ob (cw PR (72:TypeId) (AY o k)) (ob (Zb k) (ob (uZ k m) (ob (decide (Zc k<QY o)) (ob (cw PR (72:TypeId) (Yo o k)) (bif Op.bytesLess (D.cK (D.ar (AY o k) 3)) (D.cK (D.ar (Yo o k) 3)) then ob (Zb k) (ob (Zb k) (ob (uZ k m) (ob (decide (Zc k<QY o)) (ob (cw PR (72:TypeId) (Yo o k)) (ob (l8 k m) (ob (decide (Zt k<QY o)) (ob (cw PR (72:TypeId) (AY o k)) (ob (l8 k m) (ob (decide (Zt k<QY o)) (ob (cw PR (72:TypeId) (AY o k)) (ob (uZ k m) (ob (decide (Zc k<List.length (Z3p o k))) (ob (cw PR (72:TypeId) (Z3q o k)) (ob (Zb k) (ae (PX.normal,S.mk 77 (oo v::ZN n::K9 m::o5 i::Z3t k) [JC z l,(1,En.mk 0 none (Obj.arr (72:TypeId) false (List.set (Z3p o k) (Zc k) (D.aP (D.agg [D.int .i64 (D.aj (D.ar (Z3q o k) 0)),D.int .i64 (D.aj (D.ar (Z3q o k) 1)),D.int .i64 (D.aj (D.ar (Z3q o k) 2)),D.str (D.cK (D.ar (Z3q o k) 3)),D.bool (D.eG (D.ar (Z3q o k) 4)),D.bool (D.eG (D.ar (Z3q o k) 5))]) (Z3o o k)))))])))))))))))))))) else Z3v ae v n m i z l o))))))) else Z3v ae v n m i z l o)=(aD [] [] 56 9 (imI z l n v o m i k)) ae:=by kernel_rfl
def Yp(k:Int):List (Nat×P):=[(9,Zm k)]
def Z3w(l:List Pl)(i:Int)(T:List Pl)(V:List av)(p:Pl)(au:List av)(x:av):List D:=[D.agg [K4 l i,K3 l i,K2 l i,D.str (Nf T V (Prod.fst p)),D.bool (D.eG (D.ar (oh l i) 7)),D.bool !decide (x∈au)]]
theorem qi2(z:Bool)(l:List Pl)(n:Nat)(v:List av)(o:List It)(m:Nat)(i:Int)(ae:PX×S->Prop):(bif T0 i n then ob (l8 i n) (ob (Jy i l) (ob (pV l i) (∃(T:List Pl) (V:List av) (p:Pl),[P.d (D.sl 8 (List.take n (gh l))),P.d (D.agg (QV l i))]=P.d (D.sl 8 (List.map eB (a8 T V)))::Z34 p/\Zo/\(Ij T/\Rt T/\p∈a8 T V)/\ ∃(au:List av) (x:av),[gJ v,K5 l i]=gJ au::e8 x/\Zo/\nu au/\ob (Nat.ble m (QY o)&&aI (m+List.length (Z3w l i T V p au x)) 48) (ob (decide (Z9<=(↑(m+List.length (Z3w l i T V p au x)):Int)-(1:Int)/\(↑(m+List.length (Z3w l i T V p au x)):Int)-(1:Int)<=Za)) (∃(z:Bool) (eD:List Pl) (mf:Nat) (cT:List av) (aU:List It) (a:It) (bb:Int) (k:Int),S.mk 77 [oo v,ZN n,(6,P.sl 1 0 (m+List.length (Z3w l i T V p au x))),o5 i,(9,P.d (D.int .i64 ((↑(m+List.length (Z3w l i T V p au x)):Int)-(1:Int))))] [Z3d l,(1,En.mk 0 none (Obj.arr (72:TypeId) false (List.take m (List.map ew o)++Z3w l i T V p au x)))]=S.mk 77 (oo cT::ZN mf::(6,P.sl 1 0 (List.length aU+1))::o5 bb::Yp k) [JC z eD,(1,En.mk 0 none (Obj.arr (72:TypeId) false (List.map ew (aU++[a]))))]/\(k=(↑(List.length aU):Int)/\List.length aU<=1000000)/\ob (Zw bb) (ae (PX.normal,S.mk 77 (oo cT::ZN mf::(6,P.sl 1 0 (List.length aU+1))::ZT bb) [JC z eD,(1,En.mk 0 none (Obj.arr (72:TypeId) false (List.map ew (cD Ic aU a))))]))))))) else ae (PX.exit 0,S.mk 77 [(6,ZM m)] [(0,Z3u o)]))=(aD [(90,hPa),(91,K0)] [(9,ah (aK 56 9) qfC)] 56 4 (imH z l n v o m i)) ae:=by kernel_rfl
def qfD:S->K (PX×S):=λs ae=> ∃T v,s=imH false (a8 T v) (a8 T v).length v [] 0 0/\(T.length<=1000/\Rt T/\v.length<=1000000)/\ae (.exit 0,⟨77,[(6,.sl 0 0 (iu T v).length)],PG 0 (iu T v)⟩)
def QZ:En:=En.mk 0 none (Obj.arr (72:TypeId) false [])
def Z3y:List (Nat×P):=(6,rE)::pU
theorem qll(l:List Pl)(v:List av)(ae:P×List (Nat×En)->Prop):(∃(au:List Pl) (cT:List av),[iG l,gJ v]=[iG au,gJ cT]/\Zo/\(o4 au/\nu cT)/\ ∃(T:List Pl) (QT:List av),S.mk 77 (oo v::(5,P.sl 0 0 (List.length (a8 (pw au) cT)))::Z3y) [Z3j au cT,(1,QZ)]=S.mk 77 (oo QT::(5,P.sl 0 0 (List.length (a8 T QT)))::Z3y) [(0,En.mk 0 none (Obj.arr (104:TypeId) false (List.map eB (a8 T QT)))),(1,QZ)]/\(Ij T/\Rt T/\nu QT)/\ae (P.sl 0 0 (List.length (iu T QT)),[(0,En.mk 0 none (Obj.arr (72:TypeId) false (List.map ew (iu T QT))))]))=(aJ [(89,K8)] [(4,ah (aK 56 4) qfD)] 56 [eL l,cI v] []) ae:=by kernel_rfl
def ER:bg:=λps R ae=> ∃l v,ps=[eL l,cI v]/\R=[]/\(l.length<=1000/\v.length<=1000000)/\ae (.sl 0 0 (iu (pw l) v).length,PG 0 (iu (pw l) v))
theorem qa5{T:List Pl}(hT:Rt T):er T aB=none:=by
 cases h:er T aB with
 |none=>rfl
 |some p=>obtain⟨h1,h2⟩:=jK h;have:=hT.2 p h1;simp[zY,h2,cx] at this
theorem La{T:List Pl}{V:List av}(hT:Rt T){p:Pl}(hp:p∈T):T.any (Nn T V p)=marked T V p.1:=by
 have dQ:p.1≠aB:=λe=>by have:=hT.2 p hp;simp[zY,e,cx] at this
 have hw: ∀{x w},Up T x w->within T x p.1=decide (p.1∈w):=λ{x w} h=>KV h dQ (qa5 hT) _ (by have:=h.len;omega);rw[zaH,zbo,sJ];constructor
 ·rintro⟨q,hq,h⟩;simp only[Nn,zab,zai] at h;obtain⟨⟨h1,h2⟩,h3⟩:=h;obtain⟨w,Hx⟩:=z7.1 h2;rw[hw Hx] at h3;exact⟨q.1,h1,w,Hx,by simpa using h3⟩
 rintro⟨x,hx,w,Hx,hm⟩;obtain⟨q,hq⟩:=Hx.at;obtain⟨q1,q2⟩:=jK hq;refine⟨q,q1,?_⟩;simp only[Nn,zab,zai,q2];exact⟨⟨hx,z7.2 ⟨w,Hx⟩⟩,by rw[hw Hx];simpa using hm⟩
theorem PH{α:Type}(f:α->Bool)(l:List α)(d:α){k:Nat}(h:k<l.length):(l.take (k+1)).any f=((l.take k).any f ||f (l.getD k d)):=by rw[zbS,getD_some h d];simp
theorem ES{α:Type}(f:α->Bool)(l:List α)(d:α){k:Nat}(h:k<l.length):(l.take (k+1)).filter f=(l.take k).filter f++(if f (l.getD k d) then [l.getD k d] else []):=by rw[zbS,getD_some h d,zbw];simp only[Option.toList_some,List.filter_cons,zcs]
theorem Uf{α β:Type}(f:α->β)(pre o6:List α)(b a:α)(u v:β)(hu:u=f b)(hv:v=f a):(((pre++b::a::o6).map f).set (pre.length+1) u).set pre.length v=(pre++a::b::o6).map f:=by subst hu;subst hv;simp
section
variable{X:XF}
theorem qa6:LD X 89 8 (ah (aK 89 8) qfA):=LD.par (H:=[(91,K0),(119,qft),(86,qfr)]) (hk:=[]) (by kernel_rfl) (by kernel_rfl) (.cons T5 (.cons qiX (.cons qdq .nil))) .nil
 (A:=List Pl×List av×List Pl×Nat×Int×Bool) (B:=Bool×Bool×Int) (λ⟨l,v,o,m,i,_⟩ ⟨z,b,k⟩=>skI z l l.length v o m i b k)
 (λ⟨l,v,_,_,i,b0⟩ ⟨_,b,k⟩=>l.length<=1000000/\v.length<=1000000/\0<=i/\i<l.length/\0<=k/\k<=l.length/\b=(b0 || (l.take k.toNat).any (Nn l v (l.getD i.toNat uh))))
 (λ⟨l,_⟩ ⟨_,_,k⟩=>(l.length-k).toNat)
 (λ⟨l,v,o,m,i,b0⟩ x=> ∃z' b',b'=(b0 ||l.any (Nn l v (l.getD i.toNat uh)))/\x=(.exit 2,⟨62,[(0,.sl 0 0 l.length),(1,cI v),(5,.sl 1 0 m),(6,iD i),(7,.d (.bool b'))],Nl 0 z' l++Nl 1 false o⟩))
 (by
  rintro⟨l,v,o,m,i,b0⟩ ⟨z,b,k⟩ ⟨hm,hv,pT,hi,h0,hk,hb⟩;dsimp only at*
  (rw[<-qiZ];delta gh Z3d dV uy JA Im JC ZA pW ZW Zk Zm ZS JD fg gJ oo ZM r4 Za Z9 Zw PC FR eX eY e7 eN eO l9 jR r5 o4 iG fF nu Zo e8 Zt oh K2 K3 K4 K5 pV rb Jy l8 T0)
  refine bf (λh=> ?_) λh=> ?_
  ·have du:k.toNat<l.length:=by omega
   have aQ:i.toNat<l.length:=by omega
   have Lb:=PH (Nn l v (l.getD i.toNat uh)) l uh du;rw[jf du,jf aQ];generalize l.getD k.toNat uh=q at Lb;generalize l.getD i.toNat uh=p at Lb hb;have fit:decide ((-9223372036854775808:Int)<=k+(1:Int)/\k+(1:Int)<=(9223372036854775807:Int))=true:=pM (by omega) (by omega);have go: ∀z' b',b'=(b ||Nn l v p q)-> ∃m',m'<((l.length:Int)-k).toNat/\ ∃b2:Bool×Bool×Int,(skI z' l l.length v o m i b' (k+1):S)=skI b2.1 l l.length v o m i b2.2.1 b2.2.2/\
     (l.length<=1000000/\v.length<=1000000/\0<=i/\i<l.length/\0<=b2.2.2/\b2.2.2<=l.length/\b2.2.1=(b0 || (l.take b2.2.2.toNat).any (Nn l v p)))/\m'=((l.length:Int)-b2.2.2).toNat:=λz' b' dm=>⟨((l.length:Int)-(k+1)).toNat,by omega,(z',b',k+1),rfl,⟨hm,hv,pT,hi,by simp only;omega,by simp only;omega,by simp only;rw[show(k+1).toNat=k.toNat+1 by omega,Lb,dm,hb,zdu]⟩,rfl⟩
   have dl:decide (k.toNat<(l.map eB).length)=true:=lL (by rw[zaa];exact du);have di:decide (i.toNat<(l.map eB).length)=true:=lL (by rw[zaa];exact aQ);refine bm ⟨h0,h⟩ (aq dl (aq (ij q) ⟨v,q.1,rfl,rfl,hv,aA (λh1=>bm ⟨h0,h⟩ (aq dl (aq (ij q) ⟨l,q.1,by rw[yb];rfl,rfl,hm,λb1 j7=>aA (λh2=>bm ⟨h0,h⟩ (aq dl (aq (ij q) (bm ⟨pT,hi⟩ (aq di (aq (ij p) ⟨true,l,q.1,p.1,rfl,rfl,hm,λb2 cu=>aA (λh3=>aq fit (go _ _ ?_)) λh3=>aq fit (go _ _ ?_)⟩)))))) λh2=>aq fit (go _ _ ?_)⟩))) λh1=>aq fit (go _ _ ?_)⟩))
   ·unfold Nn;rw[h1,<-j7,h2,<-cu,h3];simp
   ·unfold Nn;rw[h1,<-j7,h2,<-cu,h3];simp
   ·unfold Nn;rw[h1,<-j7,h2];simp
   unfold Nn;rw[h1];simp
  refine⟨z,b,?_,rfl⟩;rw[hb,zal (by omega)])
 (by rintro s ae ⟨z,l,v,o,m,i,b,rfl,⟨hm,hv,pT,hi⟩,hp⟩;refine⟨(l,v,o,m,i,b),(z,b,0),rfl,⟨hm,hv,pT,hi,by simp,by simp,by simp⟩,?_⟩;rintro x ⟨z',b',h1,rfl⟩;exact hp z' b' h1)
theorem qa7:LD X 89 4 (ah (aK 89 4) qfB):=LD.par (H:=[]) (hk:=[(8,ah (aK 89 8) qfA)]) (by kernel_rfl) (by kernel_rfl) .nil (.cons qa6 .nil)
 (A:=List Pl×List av) (B:=Bool×Int) (λa b=>skH b.1 a.1 a.1.length a.2 ((a.1.take b.2.toNat).filter λp=>marked a.1 a.2 p.1) ((a.1.take b.2.toNat).filter λp=>marked a.1 a.2 p.1).length b.2)
 (λa b=>a.1.length<=1000000/\a.2.length<=1000000/\Rt a.1/\0<=b.2/\b.2<=a.1.length)
 (λa b=>(a.1.length-b.2).toNat)
 (λa x=>x=(.exit 0,⟨62,[(5,.sl 0 0 (a8 a.1 a.2).length)],Nl 0 false (a8 a.1 a.2)⟩))
 (by
  rintro⟨l,v⟩ ⟨z,i⟩ ⟨hm,hv,hT,h0,hi⟩;dsimp only at*
  (rw[<-qi0];delta gh JA ux ZM ZN Zt oh K2 K3 K4 QV Z2H ZA ZL Za Z9 Zw Z2F rb pV Jy jR fF nu o4 dV uy r5 Im JC Z7 tu Z3 Zk Zm ZS JD fg gJ oo r4 T0)
  refine bf (λh=> ?_) λh=> ?_
  ·have aQ:i.toNat<l.length:=by omega
   have iv:=ES (λp:Pl=>marked l v p.1) l uh aQ;have Il:l.getD i.toNat uh∈l:=zaC (getD_some aQ uh);have xg:((l.take i.toNat).filter λp=>marked l v p.1).length<=l.length:=zaE (zaG _ _) (by rw[zas];omega);refine⟨z,l,v,_,_,i,false,rfl,⟨hm,hv,h0,h⟩,λz' b' dm=> ?_⟩;rw[La hT Il] at dm;rw[jf aQ];generalize l.getD i.toNat uh=p at iv dm;generalize hoo:((l.take i.toNat).filter λp=>marked l v p.1)=o at iv xg;have fit:decide ((-9223372036854775808:Int)<=i+(1:Int)/\i+(1:Int)<=(9223372036854775807:Int))=true:=pM (by omega) (by omega);have go: ∀o',((l.take (i+1).toNat).filter λp=>marked l v p.1)=o'-> ∃m',m'<((l.length:Int)-i).toNat/\ ∃b2:Bool×Int,(skH z' l l.length v o' o'.length (i+1):S)=skH b2.1 l l.length v ((l.take b2.2.toNat).filter λp=>marked l v p.1) ((l.take b2.2.toNat).filter λp=>marked l v p.1).length b2.2/\
     (l.length<=1000000/\v.length<=1000000/\Rt l/\0<=b2.2/\b2.2<=l.length)/\m'=((l.length:Int)-b2.2).toNat:=λo' ff=>⟨((l.length:Int)-(i+1)).toNat,by omega,(z',i+1),by simp only;rw[ff],⟨hm,hv,hT,by simp only;omega,by simp only;omega⟩,rfl⟩
   have hs:(i+1).toNat=i.toNat+1:=by omega
   refine aA (λhb=>bm ⟨h0,h⟩ (aq (lL (by rw[zaa];exact aQ)) (aq (ij p) (aq ?_ (aq fit ?_))))) λhb=>aq fit ?_
   ·simp[aI];omega
   ·have:=go (o++[p]) (by rw[hs,iv,zap (by rw[<-hb,dm];rfl)]);rw[yb];have e1:(o++[p]).length=o.length+1:=by simp
    have e2:(o++[p]).map eB=o.map eB++[eB p]:=by simp
    simp only[skH,Nl,e1,e2] at this;exact this
   exact go o (by
    have:marked l v p.1=false:=by rw[<-hb,dm];rfl
    rw[hs,iv,this];simp)
  rw[zal (by omega)];rfl)
 (by rintro s ae ⟨l,v,rfl,⟨hm,hv⟩,hp⟩;have htl:=uw l;refine⟨(pw l,v),(false,0),rfl,⟨by simp only;omega,hv,TQ l,by simp,by simp⟩,?_⟩;rintro x rfl;exact hp)
theorem Ug:FD X 89 K8:=FD.mk (H:=[(118,hRi)]) (hk:=[(4,ah (aK 89 4) qfB)]) (by kernel_rfl) (.cons qli .nil) (.cons qa7 .nil) (by
 intro ps R ae hh;obtain⟨l,v,rfl,rfl,⟨hm,hv⟩,hp⟩:=hh
 (rw[<-qlk];delta Z3j fF nu ya Z2Q Z7 JE rE Z3h fg gJ oo Z3i jR o4 Zo gh iG)
 exact⟨l,rfl,rfl,hm,l,v,rfl,⟨hm,hv⟩,hp⟩)
theorem Np{l:List It}{i:Nat}(h:i<l.length)(x:It)(hx:l[i]?=some x):D.nth (l.map ew) i=ew x:=by rw[qfo h it0];congr 1;rw[zad,hx];rfl
theorem qa8:LD X 56 9 (ah (aK 56 9) qfC):=LD.par (H:=[]) (hk:=[]) (by kernel_rfl) (by kernel_rfl) .nil .nil
 (A:=Bool×List Pl×Nat×List av×List It×It×Int) (B:=List It×List It) (λ⟨z,l,n,v,o,a,i⟩ ⟨pre,o6⟩=>imI z l n v (pre++a::o6) (o.length+1) i (pre.length:Int))
 (λ⟨_,_,_,_,o,a,_⟩ ⟨pre,o6⟩=>o.length<=1000000/\pre.length+o6.length=o.length/\(oY Ic a pre.reverse).reverse++o6=cD Ic o a)
 (λ_ ⟨pre,_⟩=>pre.length)
 (λ⟨z,l,n,v,o,a,i⟩ x=>x=(.exit 2,imH z l n v (cD Ic o a) (o.length+1) i))
 (by
  rintro⟨z,l,n,v,o,a,i⟩ ⟨pre,o6⟩ ⟨hm,hl,hr⟩;dsimp only at*
  (rw[<-qi1];delta Z3u gh JC Zk Zm o5 K9 ZM ZN fg gJ oo Z3v Zt AY Z3o ZG Z3t Zc Yo Z3p Z3q uZ Za Z9 Zb QY l8 ZF)
  rcases zcT pre with rfl | ⟨pre,b,rfl⟩
  ·refine iK (lM (by simp)) ?_;show _=_;rw[<-hr];rfl
  simp only[List.concat_eq_append] at*
  rw[zah,zbl] at hl;have ft:(((pre++[b]).length:Int)).toNat=pre.length+1:=by simp
  have qY:(((pre++[b]).length:Int)-1).toNat=pre.length:=by simp
  rw[ft,qY];have hlen:(((pre++[b])++a::o6).map ew).length=pre.length+o6.length+2:=by simp;omega
  have n1:D.nth (((pre++[b])++a::o6).map ew) (pre.length+1)=ew a:=Np (by simp) _ (by simp);have n2:D.nth (((pre++[b])++a::o6).map ew) pre.length=ew b:=Np (by simp) _ (by simp);have n3: ∀u,D.nth ((((pre++[b])++a::o6).map ew).set (pre.length+1) u) pre.length=ew b:=λu=>by rw[<-n2];simp only[D.nth,zad];rw[za3 (by omega)]
  have hc:(((pre++[b]).length:Nat):Int)=(pre.length:Int)+1:=by simp
  rw[hc];rw[n1,n2];simp only[zbj,hlen,n3];have dl: ∀x,x<pre.length+o6.length+2->decide (x<pre.length+o6.length+2)=true:=λx h=>lL h;refine ie (lL (by omega)) ?_
  repeat (first
   |refine aq (lL (show _/\_ from⟨by omega,by omega⟩)) ?_
   |refine aq (lL (show _<_ by omega)) ?_
   |refine aq (qfh _) ?_)
  refine aA (λbJ=> ?_) λbJ=> ?_
  ·repeat (first
    |refine aq (lL (show _/\_ from⟨by omega,by omega⟩)) ?_
    |refine aq (lL (show _<_ by omega)) ?_
    |refine aq (qfh _) ?_)
   have R9:Ic a b=true:=bJ;refine⟨pre.length,by simp,(pre,b::o6),?_,⟨hm,by simp only[zao];omega,?_⟩,rfl⟩
   ·have hsw:=Uf ew pre o6 b a (ew b) (ew a) rfl rfl;show _=imI z l n v (pre++a::b::o6) (o.length+1) i (pre.length:Int);have hk3:(pre.length:Int)+1-1=(pre.length:Int):=by omega
    rw[hk3];simp only[imI,PG];rw[<-hsw];simp only[zaM,zcn];rfl
   simp only;rw[<-hr,zct,List.reverse_singleton,zcn,oY,zap R9];simp
  have R9: ¬Ic a b=true:=by rw[show Ic a b=false from bJ];simp
  show _=_;rw[zct,List.reverse_singleton,zcn,oY,zan R9] at hr;rw[<-hr];simp)
 (by rintro s ae ⟨z,l,n,v,o,a,i,k,rfl,⟨hk,hm⟩,hp⟩;subst hk;refine⟨(z,l,n,v,o,a,i),(o,[]),rfl,⟨hm,by simp,by simp[cD]⟩,?_⟩;rintro x rfl;exact hp)
theorem qa9:LD X 56 4 (ah (aK 56 4) qfD):=LD.par (H:=[(90,hPa),(91,K0)]) (hk:=[(9,ah (aK 56 9) qfC)]) (by kernel_rfl) (by kernel_rfl) (.cons qlj (.cons T5 .nil)) (.cons qa8 .nil)
 (A:=List Pl×List av) (B:=Bool×Int) (λ⟨T,v⟩ ⟨z,i⟩=>imH z (a8 T v) (a8 T v).length v (cm Ic (((a8 T v).take i.toNat).map (ky T v))) (cm Ic (((a8 T v).take i.toNat).map (ky T v))).length i)
 (λ⟨T,v⟩ ⟨_,i⟩=>T.length<=1000/\Rt T/\v.length<=1000000/\0<=i/\i<=(a8 T v).length)
 (λ⟨T,v⟩ ⟨_,i⟩=>((a8 T v).length-i).toNat)
 (λ⟨T,v⟩ x=>x=(.exit 0,⟨77,[(6,.sl 0 0 (iu T v).length)],PG 0 (iu T v)⟩))
 (by
  rintro⟨T,v⟩ ⟨z,i⟩ ⟨hm,hT,hv,h0,hi⟩;dsimp only at*
  have hsL:(a8 T v).length<=T.length:=zaG _ _
  (rw[<-qi2];delta Z3u ZM ZA ZT Za Z9 Zw gh JC Zk Zm Yp Z3d o5 ZN fg gJ oo Zt oh K2 K3 K4 Z3w QY fF nu eX eY e7 eN eO l9 e8 K5 jR Ij Zo QX T7 T8 T9 Z2Z Z2Y Z2X Z34 QV pV rb Jy l8 T0)
  refine bf (λh=> ?_) λh=> ?_
  ·have aQ:i.toNat<(a8 T v).length:=by omega
   have Il:(a8 T v).getD i.toNat uh∈a8 T v:=zaC (getD_some aQ uh);have jS:((a8 T v).take (i+1).toNat).map (ky T v)=((a8 T v).take i.toNat).map (ky T v)++[ky T v ((a8 T v).getD i.toNat uh)]:=by rw[show(i+1).toNat=i.toNat+1 by omega,zbS,getD_some aQ uh];simp
   have k9:(cm Ic (((a8 T v).take i.toNat).map (ky T v))).length=i.toNat:=by rw[(bU _).length_eq,zaa,zas];omega
   have Q0:cm Ic (((a8 T v).take (i+1).toNat).map (ky T v))=cD Ic (cm Ic (((a8 T v).take i.toNat).map (ky T v))) (ky T v ((a8 T v).getD i.toNat uh)):=by rw[jS];unfold cm;rw[za7];rfl
   rw[jf aQ];generalize (a8 T v).getD i.toNat uh=p at Il Q0;generalize cm Ic (((a8 T v).take i.toNat).map (ky T v))=o at k9 Q0;have qi3:(cm Ic (((a8 T v).take (i+1).toNat).map (ky T v))).length=o.length+1:=by rw[Q0,(gS _ _).length_eq];simp
   have fit:decide ((-9223372036854775808:Int)<=i+(1:Int)/\i+(1:Int)<=(9223372036854775807:Int))=true:=pM (by omega) (by omega);refine bm ⟨h0,h⟩ (aq (lL (by rw[zaa];exact aQ)) (aq (ij p) ⟨T,v,p,by rw[yb];rfl,rfl,⟨hm,hT,Il⟩,v,p.1,rfl,rfl,hv,aq ?_ (aq ?_ ⟨true,a8 T v,(a8 T v).length,v,o,ky T v p,i,((o.length+1:Nat):Int)-1,?_,⟨by omega,by omega⟩,aq fit ⟨((a8 T v).length-(i+1)).toNat,by omega,(true,i+1),?_,⟨hm,hT,hv,by simp only;omega,by simp only;omega⟩,rfl⟩⟩)⟩))
   ·simp[aI];omega
   ·refine lL (show(-9223372036854775808:Int)<=((o.length+1:Nat):Int)-1/\((o.length+1:Nat):Int)-1<=9223372036854775807 from⟨by omega,by omega⟩)
   ·have e2:(o++[ky T v p]).map ew=(o.map ew).take o.length++[ew (ky T v p)]:=by rw[zal (by simp)];simp
    rw[e2];rfl
   simp only;rw[qi3,Q0];rfl
  have qi4:(a8 T v).take i.toNat=a8 T v:=zal (by omega);rw[qi4];rfl)
 (by rintro s ae ⟨T,v,rfl,⟨hm,hT,hv⟩,hp⟩;refine⟨(T,v),(false,0),rfl,⟨hm,hT,hv,by simp,by simp⟩,?_⟩;rintro x rfl;exact hp)
theorem Uh:FD X 56 ER:=FD.mk (H:=[(89,K8)]) (hk:=[(4,ah (aK 56 4) qfD)]) (by kernel_rfl) (.cons Ug .nil) (.cons qa9 .nil) (by
 intro ps R ae hh;obtain⟨l,v,rfl,rfl,⟨hm,hv⟩,hp⟩:=hh
 (rw[<-qll];delta jR Ij QZ Z3j Z7 pU rE Z3y fg gJ oo fF nu o4 Zo gh iG)
 have htl:=uw l;exact⟨l,v,rfl,rfl,⟨by omega,hv⟩,pw l,v,rfl,⟨by omega,TQ l,hv⟩,hp⟩)
end
abbrev Td:=av×Pl
def ltT(a b:Td):Bool:=mh a.1 b.1
def ltN(a b:Pl):Bool:=mh a.1 b.1
def Yq(o:List Td)(t:Td):List Td:=if(o.any λx=>x.1==t.1)=true then o else cD ltT o t
def ET(a:List av)(p:List Pl):List Td:=(a.zip p).foldl Yq []
def Ui(o:List Pl)(t:Td):List Pl:=
 if t.2.1=aB\/within o t.2.2.1 t.2.1=true then o
 else if 0<=eR o t.2.1 then o.set (eR o t.2.1).toNat (t.2.1,t.2.2.1,t.2.2.2.1,(o.getD (eR o t.2.1).toNat uh).2.2.2) else cD ltN o t.2
def Lc(l:List Td):List Pl:=l.foldl Ui []
def BX(x:Pl)(o:bc):List Pl:=if o.kind=0/\o.node=x.1 then [(x.1,x.2.1,x.2.2.1,o.dir)] else []
def mdG(x:Pl)(g:ak):List Pl:=g.ops.flatMap (BX x)
def Af(l:List ak)(x:Pl):List Pl:=l.flatMap (mdG x)
def Io(l:List ak)(p:List Pl):List Pl:=p.flatMap (Af l)
def Uj(gone:List aZ)(o:List av)(d:aZ):List av:=if d∈gone\/d.1∈o then o else cD mh o d.1
def Ld(hv gone:List aZ):List av:=hv.foldl (Uj gone) []
theorem qba(o:List Td)(t:Td):(Yq o t).length<=o.length+1:=by
 unfold Yq;split
 ·omega
 rw[(gS _ _).length_eq];simp
theorem Nq: ∀(l o:List Td),(l.foldl Yq o).length<=o.length+l.length
 | [],_=>by simp
 |x::r,o=>by have:=Nq r (Yq o x);have:=qba o x;simp only[zaU,zao];omega
theorem rf(a:List av)(p:List Pl):(ET a p).length<=a.length:=by have:=Nq (a.zip p) [];simp only[List.length_zip,zat] at this;unfold ET;omega
theorem qbb(o:List Pl)(t:Td):(Ui o t).length<=o.length+1:=by
 unfold Ui;split
 ·omega
 split
 ·simp
 rw[(gS _ _).length_eq];simp
theorem Nr: ∀(l:List Td) (o:List Pl),(l.foldl Ui o).length<=o.length+l.length
 | [],_=>by simp
 |x::r,o=>by have:=Nr r (Ui o x);have:=qbb o x;simp only[zaU,zao];omega
theorem uz(l:List Td):(Lc l).length<=l.length:=by simpa [Lc] using Nr l []
theorem qbc(g:List aZ)(o:List av)(d:aZ):(Uj g o d).length<=o.length+1:=by
 unfold Uj;split
 ·omega
 rw[(gS _ _).length_eq];simp
theorem Ip(g:List aZ): ∀(l:List aZ) (o:List av),(l.foldl (Uj g) o).length<=o.length+l.length
 | [],_=>by simp
 |x::r,o=>by have:=Ip g r (Uj g o x);have:=qbc g o x;simp only[zaU,zao];omega
theorem Ns(hv g:List aZ):(Ld hv g).length<=hv.length:=by simpa [Ld] using Ip g hv []
theorem qbd{s:ay}{k n:Int}{o:bc}(h:kN s k o=some n):0<=n:=by
 unfold kN at h;split at h
 ·cases h
 split at h
 ·split at h<;>cases h;decide
 split at h
 ·split at h<;>cases h;decide
 split at h
 ·split at h<;>cases h;decide
 split at h
 ·split at h
  next hh=>cases h;have:=hh.2.2.2;unfold nP at this;rw[zab,zai] at this;omega
  cases h
 split at h
 ·split at h<;>cases h;decide
 cases h
theorem Iq{s:ay}{k n:Int}{o:bc}(h:kN s k o=some n)(h0:o.kind=0):o.node=(s.1,s.2,k)/\n=1:=by
 unfold kN at h;rw[zap h0] at h;split at h
 ·cases h
 split at h
 next hh=>cases h;exact⟨hh.1,rfl⟩
 cases h
theorem Nt(x:Pl)(o:bc):(BX x o).length<=1:=by unfold BX;split<;>simp
theorem Nu{s:ay}(x:Pl): ∀(l:List bc) (k:Int),jg s k l=true->(l.flatMap (BX x)).length<=1/\(l.flatMap (BX x)≠[]-> ∃j,k<=j/\x.1=(s.1,s.2,j))
 | [],_,_=>⟨by simp,λh=>absurd rfl h⟩
 |o::r,k,h=>by
  unfold jg at h;split at h
  next n hn=>
   obtain⟨h1,h2⟩:=Nu x r _ h;have h3:=qbd hn;rw[zbA];by_cases ho:o.kind=0/\o.node=x.1
   ·obtain⟨h4,h5⟩:=Iq hn ho.1;have hx:x.1=(s.1,s.2,k):=by rw[<-ho.2,h4]
    have hr:r.flatMap (BX x)=[]:=zaN λhr=>by
     obtain⟨j,h6,h7⟩:=h2 hr;rw[hx] at h7;injection h7 with _ h7
     injection h7 with _ h7
     omega
    rw[hr,zaV];exact⟨Nt x o,λ_=>⟨k,zbF _,hx⟩⟩
   have:BX x o=[]:=by unfold BX;rw[zan ho]
   rw[this,zbk];exact⟨h1,λhr=>by obtain⟨j,h6,h7⟩:=h2 hr;exact⟨j,by omega,h7⟩⟩
  cases h
theorem Nv{l:List ak}(x:Pl):(∀g∈l,cy g=true)->(l.map (·.s)).Nodup->(Af l x).length<=1/\(Af l x≠[]-> ∃g∈l,g.s=BT x.1):=by
 induction l with
 |nil=>exact λ_ _=>⟨by simp[Af],λh=>absurd rfl h⟩
 |cons g r ih=>
  intro hc hn;rw[zbg,zbd] at hn;obtain⟨h1,h2⟩:=ih (λy hy=>hc y (.tail _ hy)) hn.2;obtain⟨h3,h4⟩:=Nu x g.ops 0 (EO (hc g (.head _)));have e:Af (g::r) x=g.ops.flatMap (BX x)++Af r x:=rfl;rw[e];by_cases hg:g.ops.flatMap (BX x)=[]
  ·rw[hg,zbk];exact⟨h1,λh=>by obtain⟨y,hy,e⟩:=h2 h;exact⟨y,.tail _ hy,e⟩⟩
  obtain⟨j,_,hx⟩:=h4 hg;have hs:g.s=BT x.1:=by rw[hx]
  have hr:Af r x=[]:=zaN λhr=>by obtain⟨y,hy,e⟩:=h2 hr;exact hn.1 (zaB.2 ⟨y,hy,by rw[e,hs]⟩)
  rw[hr,zaV];exact⟨h3,λ_=>⟨g,.head _,hs⟩⟩
theorem uA{l:List ak}(hc: ∀g∈l,cy g=true)(hn:(l.map (·.s)).Nodup): ∀p:List Pl,(Io l p).length<=p.length
 | []=>by simp[Io]
 |x::r=>by have h1:=uA hc hn r;have h2:=(Nv x hc hn).1;have e:Io l (x::r)=Af l x++Io l r:=rfl;rw[e,zah,zao];omega
structure bH(i:Int)(l:List ak):Prop where
 AZ: ∀g∈l,cy g=true
 nd:(l.map (·.s)).Nodup
 sm: ∀g∈l,(1<=g.s.2/\g.s.2<=3)/\(g.s.1<=i/\g.n<=i)/\g.ops.length<=1/\ ∀o∈g.ops,o.text.length<=2/\o.elems.length<=3
 len:(l.length:Int)<=i
structure py(i:Int)(l:List ak)(K:List (List Int)):Prop where
 len:K.length=3
 vec: ∀v∈K,cO v=true/\ ∀r,eK v r<=i
 own: ∀g∈l,g.n<=eK (K.getD (g.s.2-1).toNat []) g.s.2
 top: ∀v∈K,∀r,1<=r->r<=3->eK v r<=eK (K.getD (r-1).toNat []) r
structure jL(i:Int)(K:List (List Int))(r:Int)(v:List Int):Prop where
 vec:cO v=true/\ ∀q,eK v q<=i
 own:eK v r=eK (K.getD (r-1).toNat []) r
 top: ∀q,1<=q->q<=3->eK v q<=eK (K.getD (q-1).toNat []) q
def aO(l:List ak)(v:List Int):List ak:=l.filter λg=>decide (g.n<=eK v g.s.2)
theorem Ag{v:List Int}(h:cO v=true)(r:Int):0<=eK v r:=by
 unfold cO at h;rw[zai] at h;unfold eK;split
 ·exact zbF _
 rw[zad];cases hk:v[(r-1).toNat]? with
 |none=>exact zbF _
 |some x=>exact h.1 x (zaC hk)
theorem mJ{v:List Int}(h:cO v=true):v.length<=16:=by unfold cO at h;rw[zai] at h;exact h.2.1
theorem rh{v:List Int}(h1: ∀n∈v,0<=n)(h2:v.length<=16):cO (bk v)=true:=by unfold cO;rw[zai];refine⟨λn hn=>h1 n (zba hn),?_,by rw[HR]⟩;rw[oV];have:=qE v v.length;omega
theorem Db(v:List Int)(r:Int):eK (bk v) r=eK v r:=by
 by_cases h:1<=r
 ·rw[mD _ h,mD _ h,zP]
 unfold eK;rw[zap (by omega),zap (by omega)]
theorem qbe{n:Nat}{f:Nat->Int}{r:Int}(h:1<=r):eK (pK n f) r=if(r-1).toNat<n then f (r-1).toNat else 0:=by rw[mD _ h,ud]
theorem o7{n:Nat}{f:Nat->Int}(h: ∀i,0<=f i): ∀x∈pK n f,0<=x:=by intro x hx;unfold pK at hx;obtain⟨i,_,rfl⟩:=zaB.1 hx;exact h i
theorem qbf{v:List Int}{r n:Int}(h1:1<=r)(q:Int)(hq:1<=q):eK (bk (gQ v r n)) q=if q=r then n else eK v q:=by
 rw[Db];unfold gQ;rw[qbe hq];have e:(((q-1).toNat:Nat):Int)+1=q:=by omega
 simp only[e];split
 ·rfl
 rename_i h;rw[zan (by omega),mD _ hq,oW (by omega)]
theorem Nw{v:List Int}{q:Int}(h:q<1):eK v q=0:=by unfold eK;rw[zap (by omega)]
theorem Uk{v:List Int}{r n:Int}(hv:cO v=true)(h1:1<=r)(h2:r<=16)(hn:0<=n):cO (bk (gQ v r n))=true:=by
 refine rh (o7 λi=> ?_) ?_
 ·split
  ·exact hn
  exact Ag hv _
 unfold gQ;rw[HM];have:=mJ hv;omega
theorem Ah(v w:List Int)(q:Int)(hq:1<=q):eK (mZ v w) q=max (eK v q) (eK w q):=by unfold mZ;rw[Db,mD _ hq,Te,<-mD _ hq,<-mD _ hq]
theorem Dc{v w:List Int}(hv:cO v=true)(hw:cO w=true):cO (mZ v w)=true:=by
 refine rh (o7 λi=> ?_) ?_
 ·have:=Ag hv ((i:Int)+1);omega
 unfold qaA;rw[HM];have:=mJ hv;have:=mJ hw;omega
theorem jL.start{i:Int}{l:List ak}{K:List (List Int)}(h:py i l K){r:Int}(h1:1<=r)(h2:r<=3):jL i K r (K.getD (r-1).toNat []):=by
 have hm:K.getD (r-1).toNat []∈K:=by rw[zad,zac (by rw[h.len];omega)];exact zaq _
 exact⟨h.vec _ hm,rfl,λq h3 h4=>h.top _ hm q h3 h4⟩
theorem jL.merge{i:Int}{l:List ak}{K:List (List Int)}(h:py i l K){r:Int}(h1:1<=r)(h2:r<=3){v w:List Int}(hv:jL i K r v)(hw:w∈K):jL i K r (mZ v w):=by
 have hww:=h.vec _ hw;refine⟨⟨Dc hv.vec.1 hww.1,λq=> ?_⟩,?_,λq h3 h4=> ?_⟩
 ·by_cases hq:1<=q
  ·rw[Ah _ _ _ hq];have:=hv.vec.2 q;have:=hww.2 q;omega
  have:=hww.2 q;rw[Nw (by omega)] at this⊢;exact this
 ·rw[Ah _ _ _ h1,<-hv.own];have:=h.top _ hw r h1 h2;rw[<-hv.own] at this;omega
 rw[Ah _ _ _ h3];have:=h.top _ hw q h3 h4;have:=hv.top q h3 h4;omega
def fc(l:List ak)(v:List Int)(r:Int):ay:=(fj (aO l v)+1,r)
structure Ai(l:List ak)(v:List Int)(r:Int)(g:ak):Prop where
 s:g.s=fc l v r
 n:g.n=eK v r+1
 deps:g.deps=v
 body:(∃x∈aO l v,g.bs=x.s/\g.ops=[])\/(g.bs=(0,0)/\ ∃o m,g.ops=[o]/\kN g.s 0 o=some m/\o.text.length<=2/\o.elems.length<=3)
theorem o8{s:ay}:EK s=true↔1<=s.1/\s.1<=1099511627776/\1<=s.2/\s.2<=16:=by show vF s.1 s.2=true↔_;unfold vF;rw[zai]
theorem kP{a b:ay}:jP a b=true↔a.1<b.1\/a.1=b.1/\a.2<b.2:=by show sI a.1 a.2 b.1 b.2=true↔_;unfold sI;rw[zai]
theorem sO{g:ak}(h:cy g=true):EK g.s=true/\(1<=g.n/\g.n<=1099511627776)/\cO g.deps=true/\eK g.deps g.s.2=g.n-1:=by unfold cy TE at h;simp only[zab,zai,zaW] at h;exact⟨h.1.1.1.1,h.1.1.1.2,h.1.1.2,h.1.2⟩
theorem jh{l:List ak}{v:List Int}{g:ak}:g∈aO l v↔g∈l/\g.n<=eK v g.s.2:=by unfold aO;rw[zbv,zai]
theorem bH.fj{i:Int}{l:List ak}(h:bH i l)(hi:0<=i)(v:List Int):0<=fj (aO l v)/\fj (aO l v)<=i:=
 ⟨(gf _).1,Ac hi _ λg hg=>(h.sm g (jh.1 hg).1).2.1.1⟩
theorem Ai.AZ{i:Int}{l:List ak}{K:List (List Int)}{v:List Int}{r:Int}{g:ak}(hl:bH i l)(hi:0<=i/\i<=1000)(h1:1<=r)(h2:r<=3)(hv:jL i K r v)(h:Ai l v r g):cy g=true:=by
 have hm:=hl.fj hi.1 v;have ha:=Ag hv.vec.1 r;have hb:=hv.vec.2 r;have hs:g.s.1=fj (aO l v)+1/\g.s.2=r:=by rw[h.s];exact⟨rfl,rfl⟩
 unfold cy TE;have hh:(EK g.s&&decide (1<=g.n/\g.n<=1099511627776)&&cO g.deps&&(eK g.deps g.s.2==g.n-1))=true:=by rw[h.deps,h.n,hv.vec.1,hs.2];simp only[zab,zai,zaW,zdj];refine⟨⟨o8.2 (by omega),by omega⟩,by omega⟩
 rw[hh,zaS];rcases h.body with⟨x,hx,hu,ho⟩| ⟨hu,o,m,ho,D4,_⟩
 ·have uX:=jh.1 hx;have hr:=(sO (hl.AZ x uX.1)).1;have hr2:=o8.1 hr;have hx3:=(gf (aO l v)).2 x hx;rw[hu,zap (λe=>by have:=congrArg Prod.fst e;simp only at this;omega),hr,ho];simp only[zaS,zat,zbE,zbx];exact kP.2 (.inl (by omega))
 rw[hu,zan (by simp),ho];simp only[zao,zat,jg,D4,zbx,zai];omega
theorem Ai.new{i:Int}{l:List ak}{K:List (List Int)}{v:List Int}{r:Int}{g:ak}(_:bH i l)(hK:py i l K)(hv:jL i K r v)(_:Ai l v r g): ∀x∈l,x.s.2=r->x∈aO l v:=by intro x hx hr;refine jh.2 ⟨hx,?_⟩;have:=hK.own x hx;rw[hr] at this⊢;rw[hv.own];exact this
theorem Ai.qfE{i:Int}{l:List ak}{K:List (List Int)}{v:List Int}{r:Int}{g:ak}(hl:bH i l)(hK:py i l K)(hi:0<=i/\i<=1000)(h1:1<=r)(h2:r<=3)(hv:jL i K r v)(h:Ai l v r g):
  bH (i+1) (l++[g])/\py (i+1) (l++[g]) (K.set (r-1).toNat (bk (gQ v r (eK v r+1)))):=by
 have hm:=hl.fj hi.1 v;have ha:=Ag hv.vec.1 r;have hb:=hv.vec.2 r;have hs:g.s.1=fj (aO l v)+1/\g.s.2=r:=by rw[h.s];exact⟨rfl,rfl⟩
 have hgn:=h.n;have hc:=h.AZ hl hi h1 h2 hv;have hw:cO (bk (gQ v r (eK v r+1)))=true:=Uk hv.vec.1 h1 (by omega) (by omega);have hwa:=λq hq=>qbf (v:=v) (n:=eK v r+1) h1 q hq;have hlen:=hK.len;have oE: ∀q:Int,1<=q->q<=3->(K.set (r-1).toNat (bk (gQ v r (eK v r+1)))).getD (q-1).toNat []=if q=r then bk (gQ v r (eK v r+1)) else K.getD (q-1).toNat []:=by
  intro q h3 h4;rw[zad];split
  next e=>rw[e,zbX (by omega)];rfl
  rename_i e;rw[za3 (by omega),zad]
 refine⟨⟨?_,?_,?_,?_⟩,⟨by simp[hlen],?_,?_,?_⟩⟩
 ·intro x hx;rcases zay.1 hx with hx |hx
  ·exact hl.AZ x hx
  rw[za0.1 hx];exact hc
 ·rw[zau,za6];refine⟨hl.nd,by simp,λa ha2 b cu e=> ?_⟩;simp only[zbg,zdd,za0] at cu;subst cu;obtain⟨x,hx,hxe⟩:=zaB.1 ha2;have YU:x.s=g.s:=hxe.trans e;have hk:=h.new hl hK hv x hx (by rw[YU];exact hs.2);have:=(gf (aO l v)).2 x hk;rw[YU] at this;omega
 ·intro x hx;rcases zay.1 hx with hx |hx
  ·obtain⟨a,b,c⟩:=hl.sm x hx;exact⟨a,by omega,c⟩
  rw[za0.1 hx];refine⟨by omega,by omega,?_⟩;rcases h.body with⟨y,_,_,ho⟩| ⟨_,o,m,ho,_,h5,h6⟩
  ·rw[ho];exact⟨by simp,λo ho=>by cases ho⟩
  rw[ho];exact⟨by simp,λo' ff=>by rw[za0.1 ff];exact⟨h5,h6⟩⟩
 ·have:=hl.len;rw[zah,zbl];omega
 ·intro u hu;rcases zdo hu with hu |rfl
  ·exact⟨(hK.vec u hu).1,λq=>by have:=(hK.vec u hu).2 q;omega⟩
  refine⟨hw,λq=> ?_⟩;by_cases hq:1<=q
  ·rw[hwa q hq];have:=hv.vec.2 q;split<;>omega
  rw[Nw (by omega)];omega
 ·intro x hx;rcases zay.1 hx with hx |hx
  ·obtain⟨a,_,_⟩:=hl.sm x hx;rw[oE _ a.1 a.2];have h3:=hK.own x hx;split
   next e=>rw[e,hwa r h1,zap rfl];rw[e,<-hv.own] at h3;omega
   exact h3
  rw[za0.1 hx,hs.2,oE r h1 h2,zap rfl,hwa r h1,zap rfl];omega
 intro u hu q h3 h4;rw[oE q h3 h4];rcases zdo hu with hu |rfl
 ·have h5:=hK.top u hu q h3 h4;split
  next e=>rw[hwa q h3,zap e];rw[e] at h5⊢;rw[<-hv.own] at h5;omega
  exact h5
 split
 ·exact zbF _
 rename_i e;rw[hwa q h3,zan e];exact hv.top q h3 h4
theorem Ul:bH 0 []/\py 0 [] [[],[],[]]:=by
 refine⟨⟨(λ_ h=>by cases h),by simp,(λ_ h=>by cases h),by simp⟩,⟨rfl,?_,(λ_ h=>by cases h),?_⟩⟩
 ·intro v hv;have:v=[]:=by simpa using hv
  subst this;refine⟨by decide,λr=> ?_⟩;unfold eK;split<;>simp
 intro v hv r h1 h2;have:v=[]:=by simpa using hv
 subst this;have e:eK [] r=0:=by unfold eK;split<;>simp
 have h3:([[],[],[]]:List (List Int)).getD (r-1).toNat []=[]:=by
  have key: ∀n:Nat,([[],[],[]]:List (List Int)).getD n []=[]:=λn=>by
   match n with
   |0=>rfl
   |1=>rfl
   |2=>rfl
   |_+3=>rfl
  exact key _
 rw[h3];exact zbF _
theorem op1{i:Int}{l:List ak}(hl:bH i l){g:ak}(hg:g∈l){o:bc}(ho:o∈g.ops): ∃m,kN g.s 0 o=some m:=by
 have h1:=(hl.sm g hg).2.2.1;have h2:=EO (hl.AZ g hg);cases lW:g.ops with
 |nil=>rw[lW] at ho;cases ho
 |cons a r=>
  rw[lW] at h1 ho h2;have hr:r=[]:=by simpa using h1
  subst hr;rw[za0.1 ho];unfold jg at h2;split at h2
  ·exact⟨_,by assumption⟩
  cases h2
theorem Um{s t:ay}{k:Int}(ht:EK t=true)(bJ:t.1<s.1)(h0:0<=k)(hk:k<=400000):cZ s 0 (t.1,t.2,k)=true:=by have:=o8.1 ht;unfold cZ;rw[zab,zbh];refine⟨?_,.inl (kP.2 (.inl bJ))⟩;show cx t.1 t.2 k=true;unfold cx;rw[zai];omega
def iw(l:List ak)(x:av):Prop:= ∃g∈l,BT x=g.s/\0<=x.2.2/\x.2.2<=1000
theorem iw.ahead{i:Int}{l:List ak}(hl:bH i l){v:List Int}{r:Int}{x:av}(h:iw (aO l v) x):cZ (fc l v r) 0 x=true:=by obtain⟨g,hg,hs,h0,h1⟩:=h;have hg2:=jh.1 hg;have:=(gf (aO l v)).2 g hg;have hrg:=(sO (hl.AZ g hg2.1)).1;have DZ:x.1=g.s.1:=congrArg Prod.fst hs;have uX:x.2.1=g.s.2:=congrArg Prod.snd hs;have hh:=Um (s:=fc l v r) hrg (show g.s.1<fj (aO l v)+1 by omega) h0 (by omega);obtain⟨a,b,c⟩:=x;simp only at DZ uX;rw[DZ,uX];exact hh
theorem iw.par{i:Int}{l:List ak}(hl:bH i l){v:List Int}{r:Int}{x:av}(h:x=aB\/iw (aO l v) x):mj (fc l v r) 0 x=true:=by
 unfold mj;rcases h with rfl |h
 ·simp
 rw[h.ahead hl,Bool.or_true]
theorem Un{i:Int}{l:List ak}(hl:bH i l){g:ak}(hg:g∈l){o:bc}(ho:o∈g.ops)(hk:o.kind=0):iw l o.node:=by obtain⟨m,hm⟩:=op1 hl hg ho;obtain⟨h1,_⟩:=Iq hm hk;exact⟨g,hg,by rw[h1],by rw[h1];exact zbF _,by rw[h1];show(0:Int)<=1000;decide⟩
theorem Nx{s:ay}{k n:Int}{o:bc}(h:kN s k o=some n)(h0:o.kind=3):o.elem=(s.1,s.2,k):=by
 unfold kN at h;rw[zan (by omega: ¬o.kind=0),zan (by omega: ¬o.kind=1),zan (by omega: ¬o.kind=2),zap h0] at h;split at h
 ·cases h
 split at h
 next hh=>exact hh.2.2.1
 cases h
theorem Uo{i:Int}{l:List ak}(hl:bH i l){g:ak}(hg:g∈l){o:bc}(ho:o∈g.ops)(hk:o.kind=3){k:Int}(h0:0<=k)(h1:k<=1000):iw l (o.elem.1,o.elem.2.1,o.elem.2.2+k):=by obtain⟨m,hm⟩:=op1 hl hg ho;have h2:=Nx hm hk;rw[h2];exact⟨g,hg,rfl,by show 0<=0+k;omega,by show 0+k<=1000;omega⟩
def Ir(s:ay)(p:av)(nm:List UInt8)(d:Bool):bc:=⟨0,(s.1,s.2,0),p,nm,d,[],aB,aB,[],[]⟩
def Ur(x p:av)(nm:List UInt8):bc:=⟨1,x,p,nm,false,[],aB,aB,[],[]⟩
def Us(x:av)(d:List ay):bc:=⟨2,x,aB,[],false,d,aB,aB,[],[]⟩
def qbg(s:ay)(x a:av)(t:List UInt8):bc:=⟨3,x,aB,[],false,[],a,(s.1,s.2,0),t,[]⟩
def qbh(x:av)(e:List av):bc:=⟨4,x,aB,[],false,[],aB,aB,[],e⟩
section
variable{i:Int}{l:List ak}(hl:bH i l){v:List Int}{r:Int}
include hl
theorem Ny{p:av}(hp:p=aB\/iw (aO l v) p){nm:List UInt8}(hn:dO nm=true)(d:Bool):kN (fc l v r) 0 (Ir (fc l v r) p nm d)=some 1:=by have h1:=iw.par hl (r:=r) hp;simp[kN,Ir,fE,mF,h1,hn]
theorem qbi{x p:av}(hx:iw (aO l v) x)(hp:p=aB\/iw (aO l v) p){nm:List UInt8}(hn:dO nm=true):kN (fc l v r) 0 (Ur x p nm)=some 0:=by have h1:=iw.par hl (r:=r) hp;have h2:=hx.ahead hl (r:=r);simp[kN,Ur,fE,mF,h1,h2,hn]
theorem qbj{x:av}(hx:iw (aO l v) x){d:List ay}(hd: ∀s∈d,∃g∈aO l v,g.s=s)(hs:d.Pairwise λa b=>jP a b=true)(hln:d.length<=200):kN (fc l v r) 0 (Us x d)=some 0:=by
 have h2:=hx.ahead hl (r:=r);have h3:nO (fc l v r) d=true:=by
  unfold nO;rw[zab,zai];refine⟨vL λk hk=> ?_,hln⟩;unfold ml;have hg:d.getD k (0,0)=d[k]:=by rw[zad,zac hk];rfl
  obtain⟨g,Dd,hgs⟩:=hd _ (zaq hk);have hg2:=jh.1 Dd;have h4:=(gf (aO l v)).2 g Dd;rw[hg,<-hgs];rw[zab,zab,zbh];refine⟨⟨(sO (hl.AZ g hg2.1)).1,?_⟩,?_⟩
  ·rw[zbz,<-zaQ,kP];show ¬(fj (aO l v)+1<g.s.1\/fj (aO l v)+1=g.s.1/\r<g.s.2);omega
  by_cases h0:k=0
  ·exact .inl (by simp[h0])
  refine .inr ?_;have Jr:d.getD (k-1) (0,0)=d[k-1]:=by rw[zad,zac (by omega)];rfl
  rw[Jr,hgs];exact zbf.1 hs (k-1) k (by omega) hk (by omega)
 simp[kN,Us,fE,mF,h2,h3]
theorem qbk{x a:av}(hx:iw (aO l v) x)(ha:a=aB\/iw (aO l v) a){t:List UInt8}(ht:nP t=true):kN (fc l v r) 0 (qbg (fc l v r) x a t)=some (BU t):=by have h1:=iw.par hl (r:=r) ha;have h2:=hx.ahead hl (r:=r);simp[kN,qbg,fE,mF,h1,h2,ht]
theorem qbl{x:av}(hx:iw (aO l v) x){e:List av}(he: ∀y∈e,iw (aO l v) y)(hs:e.Pairwise λa b=>mh a b=true)(h1:1<=e.length)(h3:e.length<=3):kN (fc l v r) 0 (qbh x e)=some 0:=by
 have h2:=hx.ahead hl (r:=r);have h4:uj (fc l v r) 0 e=true:=by
  unfold uj;rw[zab,zai];refine⟨vL λk hk=> ?_,by omega⟩;unfold C5;have hg:e.getD k aB=e[k]:=by rw[zad,zac hk];rfl
  rw[hg,zab,zbh];refine⟨(he _ (zaq hk)).ahead hl,?_⟩;by_cases h0:k=0
  ·exact .inl (by simp[h0])
  refine .inr ?_;have Jr:e.getD (k-1) aB=e[k-1]:=by rw[zad,zac (by omega)];rfl
  rw[Jr];exact zbf.1 hs (k-1) k (by omega) hk (by omega)
 simp[kN,qbh,fE,mF,h2,h4]
end
section
variable{i:Int}{l:List ak}(h:bH i l)(hi:0<=i/\i<=1000)
theorem bH.right{i:Int}{l:List ak}(h:bH i l):aw l=l:=Aa h.AZ h.nd
include h hi
theorem bH.time:0<=Pi.fj l/\Pi.fj l<=i:=⟨(gf _).1,Ac hi.1 _ λg hg=>(h.sm g hg).2.1.1⟩
theorem bH.qlm(r:Int):0<=x8 l r/\x8 l r<=i:=⟨lT l r,Ab l 0 hi.1 λg hg=>(h.sm g hg).2.1.2⟩
theorem bH.next{r:Int}(h1:1<=r)(h2:r<=16):lU l r=0:=by have:=h.time hi;have:=h.qlm hi r;unfold lU;rw[zan (by omega),zan (by omega)]
theorem bH.xr:cO (Pi.xr l)=true:=by
 have:=h;have:=hi;refine rh (o7 λj=>lT l _) ?_;rw[iq]
 decide
end
theorem Aj: ∀(l on:List Hd) (x:Hd),x∈on->x∈x7 l on
 | [],_,_,h=>h
 |a::r,on,x,h=>by
  refine Aj r (x6 on a) x ?_;unfold x6;split
  ·exact h
  exact zbn _ h
theorem EU{on:List Hd}{a x:Hd}(h:x∈x6 on a):x∈on\/x=a:=by
 unfold x6 at h;split at h
 ·exact .inl h
 rcases zay.1 h with h |h
 ·exact .inl h
 exact .inr (za0.1 h)
theorem yc: ∀(f on:List Hd) (x:Hd),x∈x7 f on->x∈on\/x∈f
 | [],_,_,h=> .inl h
 |a::r,on,x,h=>by
  rcases yc r _ x h with h |h
  ·rcases EU h with h |rfl
   ·exact .inl h
   exact .inr (.head _)
  exact .inr (.tail _ h)
theorem qbm(a:ay):jP a a=false:=iM.Jt a
theorem Le{a b:ay}(h:jP a b=true):a≠b:=λe=>by rw[e,qbm] at h;cases h
theorem Nz: ∀(f on:List Hd),f.Pairwise (λa b=>jP b.1 a.1=true)->(∀x∈f,jP x.2 x.1=true)->(∀x∈on,x∉f)-> ∀h∈f,(h∈x7 f on↔ ¬ ∃x∈x7 f on,x.2=h.1)
 | [],_,_,_,_,h,hh=>by cases hh
 |a::r,on,hp,hu,ho,h,hh=>by
  rw[zcz] at hp;have hr: ∀x∈x6 on a,x∉r:=by
   intro x hx hxr;rcases EU hx with hx |rfl
   ·exact ho x hx (.tail _ hxr)
   exact Le (hp.1 _ hxr) rfl
  rcases zav.1 hh with rfl |hh
  ·have key:(∃x∈x7 r (x6 on h),x.2=h.1)↔(∃x∈on,x.2=h.1):=by
    constructor
    ·rintro⟨x,hx,e⟩;rcases yc _ _ _ hx with hx |hx
     ·rcases EU hx with hx |rfl
      ·exact⟨x,hx,e⟩
      exact absurd e (Le (hu _ (.head _)))
     have h1:=hu x (.tail _ hx);rw[e] at h1;exact absurd (iM.tr _ _ _ h1 (hp.1 _ hx)) (by rw[iM.Jt];simp)
    rintro⟨x,hx,e⟩;refine⟨x,Aj _ _ _ ?_,e⟩;unfold x6;split
    ·exact hx
    exact zbn _ hx
   show h∈x7 r (x6 on h)↔ ¬ ∃x∈x7 r (x6 on h),x.2=h.1;rw[key];constructor
   ·rintro hm ⟨x,hx,e⟩;have hs:x6 on h=on:=by unfold x6;rw[zap (zbo.2 ⟨x,hx,by simpa using e⟩)]
    rw[hs] at hm;rcases yc _ _ _ hm with hm |hm
    ·exact ho _ hm (.head _)
    exact Le (hp.1 _ hm) rfl
   intro hn;refine Aj _ _ _ ?_;unfold x6;rw[zan]
   ·exact zbc _ (.head _)
   intro hx;obtain⟨x,hx,e⟩:=zbo.1 hx;exact hn ⟨x,hx,by simpa using e⟩
  exact Nz r (x6 on a) hp.2 (λx hx=>hu x (.tail _ hx)) hr h hh
theorem uB{l:List Hd}(hn:(l.map (·.1)).Nodup){x:Hd}:x∈lR l↔x∈l:=by unfold lR;have:=(bU (lt:=ltH) (rB l)).mem_iff (a:=x);rwa [M7 hn] at this⊢
theorem Lf{l:List Hd}:((lR l).map (·.1)).Nodup:=((bU (lt:=ltH) (rB l)).map (·.1)).nodup_iff.2 (C7 l)
theorem PI{l:List Hd}:(lR l).Pairwise λa b=>jP a.1 b.1=true:=by
 have h1:(lR l).Pairwise λa b=>ltH b a=false:=nN iM (λa:Hd=>a.1) _;have h2:(lR l).Pairwise λa b=>a.1≠b.1:=zck.1 Lf;refine(h1.and h2).imp λ{a b} h=> ?_;cases h3:jP a.1 b.1 with
 |true=>rfl
 |false=>exact absurd (iM.nx _ _ h3 h.1) h.2
theorem qfF{l:List Hd}(hn:(l.map (·.1)).Nodup)(hu: ∀x∈l,jP x.2 x.1=true){s:ay}:s∈AW l↔(∃h∈l,h.1=s)/\ ∀x∈l,x.2=s->x.1∉AW l:=by
 have bZ: ∀x:ay,x∈AW l↔ ∃h∈x7 (lR l).reverse [],h.1=x:=by intro x;unfold AW;rw[zbM,zaB]
 have hf:(lR l).reverse.Pairwise λa b=>jP b.1 a.1=true:=zb2.2 PI;have gV: ∀x∈x7 (lR l).reverse [],x∈l:=by
  intro x hx;rcases yc _ _ _ hx with hx |hx
  ·cases hx
  exact(uB hn).1 (zbM.1 hx)
 have nG:=Nz (lR l).reverse [] hf (λx hx=>hu x ((uB hn).1 (zbM.1 hx))) (λx hx=>by cases hx);have aQ: ∀h∈l,(h∈x7 (lR l).reverse []↔h.1∈AW l):=by
  intro h hh;rw[bZ];constructor
  ·exact λhx=>⟨h,hx,rfl⟩
  rintro⟨y,hy,e⟩;have:=lS hn y (gV y hy) h hh e;rwa [this] at hy
 constructor
 ·intro hs;obtain⟨h,hh,rfl⟩:=(bZ s).1 hs;have hl:=gV h hh;refine⟨⟨h,hl,rfl⟩,λx hx e xt=> ?_⟩;refine(nG h (zbM.2 ((uB hn).2 hl))).1 hh ⟨x,(aQ x hx).2 xt,e⟩
 rintro⟨⟨h,hl,rfl⟩,gU⟩;refine(aQ h hl).1 ((nG h (zbM.2 ((uB hn).2 hl))).2 ?_);rintro⟨x,hx,e⟩;exact gU x (gV x hx) e ((aQ x (gV x hx)).1 hx)
def sP(l:List ak)(k:Int)(x:ay):ak:=⟨(fj l+1,k),x8 l k+1,Pi.xr l,x,[]⟩
structure RtL(B:Int)(l:List ak):Prop where
 AZ: ∀g∈l,cy g=true
 nd:(l.map (·.s)).Nodup
 sm: ∀g∈l,g.s.1<=B/\g.n<=B
theorem RtL.right{B:Int}{l:List ak}(h:RtL B l):aw l=l:=Aa h.AZ h.nd
theorem bH.rt{i:Int}{l:List ak}(h:bH i l):RtL i l:=⟨h.AZ,h.nd,λg hg=>(h.sm g hg).2.1⟩
theorem Ut(l:List ak):cO (Pi.xr l)=true:=by
 refine rh (o7 λj=>lT l _) ?_;rw[iq]
 decide
theorem RtL.up{B:Int}{l:List ak}(h:RtL B l)(hB:0<=B/\B<=100000){k:Int}(h1:1<=k)(h2:k<=16){x:ay}(hx:EK x=true)(hxt:x.1<=fj l):RtL (B+1) (l++[sP l k x]):=by
 have h3:0<=fj l/\fj l<=B:=⟨(gf _).1,Ac hB.1 _ λg hg=>(h.sm g hg).1⟩
 have h4:0<=x8 l k/\x8 l k<=B:=⟨lT l k,Ab l 0 hB.1 λg hg=>(h.sm g hg).2⟩
 have h5:=Ut l;have h6:=M9 l k h1 h2;refine⟨λg hg=> ?_,?_,λg hg=> ?_⟩
 ·rcases zay.1 hg with hg |hg
  ·exact h.AZ g hg
  rw[za0.1 hg];unfold cy TE;have hh:(EK (sP l k x).s&&decide (1<=(sP l k x).n/\(sP l k x).n<=1099511627776)&&cO (sP l k x).deps&&(eK (sP l k x).deps (sP l k x).s.2==(sP l k x).n-1))=true:=by have e1:EK (sP l k x).s=true:=o8.2 (by show 1<=fj l+1/\fj l+1<=1099511627776/\1<=k/\k<=16;omega);have e2:(sP l k x).n=x8 l k+1:=rfl;have e3:eK (sP l k x).deps (sP l k x).s.2=x8 l k:=h6;have e4:cO (sP l k x).deps=true:=h5;rw[e1,e2,e3,e4];simp only[zab,zai,zaW,zdj,zdi];exact⟨by omega,by omega⟩
  have hr:=o8.1 hx;have hu:(sP l k x).bs=x:=rfl;rw[hh,zaS,hu,zap (λe=>by rw[e] at hr;simp only at hr;omega),hx];simp only[zaS,sP,zat,zbE,zbx];exact kP.2 (.inl (by show x.1<fj l+1;omega))
 ·rw[zau,za6];refine⟨h.nd,by simp,λa ha b hb e=> ?_⟩;obtain⟨y,hy,rfl⟩:=zaB.1 ha;have h7:=(gf l).2 y hy;rw[e,show b=(sP l k x).s by simpa using hb] at h7;have:(sP l k x).s.1=fj l+1:=rfl;omega
 rcases zay.1 hg with hg |hg
 ·have:=h.sm g hg;omega
 rw[za0.1 hg];show fj l+1<=B+1/\x8 l k+1<=B+1;omega
def PJ(T k:Int)(X:List ay):List Hd:=X.zipIdx.map λp=>((T+1+p.2,k),p.1)
theorem NA{T k:Int}{X:List ay}{h:Hd}:h∈PJ T k X↔ ∃(i:Nat) (hi:i<X.length),h=((T+1+i,k),X[i]):=by
 unfold PJ;rw[zaB];constructor
 ·rintro⟨⟨x,i⟩,hp,rfl⟩;have:=zdk.1 hp;obtain⟨hi,e⟩:=zaf.1 this;exact⟨i,hi,by rw[<-e]⟩
 rintro⟨i,hi,rfl⟩;exact⟨(X[i],i),zdk.2 (zac hi),rfl⟩
theorem Uu(T k:Int)(X:List ay)(x:ay):PJ T k (X++[x])=PJ T k X++[((T+1+X.length,k),x)]:=by unfold PJ;rw[zc6,zau];simp
structure Uv(l0:List ak)(k:Int)(X:List ay)(L:List ak):Prop where
 rt:RtL (16+X.length) L
 pre: ∃U,L=l0++U/\U.map eC=PJ (fj l0) k X/\ ∀g∈U,g.ops=[]
 top:fj L=fj l0+X.length
theorem Uv.start{l0:List ak}(h:bH 16 l0)(k:Int):Uv l0 k [] l0:=
 ⟨by simpa using h.rt,⟨[],by simp,rfl,λ_ h=>by cases h⟩,by simp⟩
theorem Uv.up{l0 L:List ak}{k:Int}{X:List ay}(h:Uv l0 k X L)(h1:1<=k)(h2:k<=16)(hX:X.length<=1000){x:ay}(hx:EK x=true)(hxt:x.1<=fj L):Uv l0 k (X++[x]) (L++[sP L k x]):=by
 obtain⟨hr,⟨U,rfl,hU,lW⟩,ht⟩:=h;have h3:=hr.up (by omega) h1 h2 hx hxt;refine⟨?_,⟨U++[sP (l0++U) k x],by rw[zaM],?_,λg hg=> ?_⟩,?_⟩
 ·rw[zah,zbl];have e:(16+((X.length+1:Nat):Int))=16+(X.length:Int)+1:=by omega
  rw[e];exact h3
 ·rw[zau,hU,Uu];show PJ (fj l0) k X++[eC (sP (l0++U) k x)]=_;congr 2;show((fj (l0++U)+1,k),x)=_;rw[ht];congr 2;omega
 ·rcases zay.1 hg with hg |hg
  ·exact lW g hg
  rw[za0.1 hg];rfl
 rw[H9];show max (fj (l0++U)) (fj (l0++U)+1)=_;rw[ht,zah,zbl];omega
theorem Uv.next{l0 L:List ak}{k:Int}{X:List ay}(h:Uv l0 k X L)(h1:1<=k)(h2:k<=16)(hX:X.length<=1000):lU (aw L) k=0:=by have hr:=h.rt;rw[hr.right];have h3:fj L<=16+X.length:=Ac (by omega) _ λg hg=>(hr.sm g hg).1;have h4:x8 L k<=16+X.length:=Ab L 0 (by omega) λg hg=>(hr.sm g hg).2;unfold lU;rw[zan (by omega),zan (by omega)]
theorem Uv.own{l0 L:List ak}{k:Int}{X:List ay}(h:Uv l0 k X L): ∃U,L=l0++U/\U.map eC=PJ (fj l0) k X/\bt L k=U.reverse++bt l0 k:=by
 obtain⟨hr,⟨U,rfl,hU,_⟩,_⟩:=h;refine⟨U,rfl,hU,?_⟩;have hk: ∀g∈U,∃i:Nat,g.s=(fj l0+1+i,k):=by
  intro g hg;have:eC g∈PJ (fj l0) k X:=by rw[<-hU];exact za8 hg
  obtain⟨i,_,e⟩:=NA.1 this;exact⟨i,congrArg Prod.fst e⟩
 symm
 refine Nb hr.nd ?_ ?_
 ·rw[zbw];have e:U.filter (λg=>g.s.2==k)=U:=by rw[zc1];intro g hg;obtain⟨i,e⟩:=hk g hg;rw[e];simp
  rw[e];exact List.perm_append_comm.trans ((dB l0 k).append (zcE U))
 rw[List.pairwise_append];refine⟨?_,nN EN (λg:ak=>g.s) _,λa ha b hb=> ?_⟩
 ·rw[zb2,zbf];intro i j hi hj pH;have e: ∀(q:Nat) (hq:q<U.length),(U[q]).s=(fj l0+1+q,k):=by
   intro q hq;have h3:(U.map eC)[q]?=some (eC U[q]):=by rw[zaD,zac hq];rfl
   rw[hU] at h3;unfold PJ at h3;rw[zaD,List.getElem?_zipIdx] at h3;cases hx:X[q]? with
   |none=>rw[hx] at h3;cases h3
   |some x=>rw[hx] at h3;simp only[zaJ,zam] at h3;have:=congrArg Prod.fst h3;simp only[eC] at this;rw[<-this];simp
  unfold gtG;rw[e i hi,e j hj,<-zaQ,kP];simp only;omega
 obtain⟨i,e⟩:=hk a (zbM.1 ha);have cu:=(zbv.1 ((dB l0 k).mem_iff.1 hb)).1;have:=(gf l0).2 b cu;unfold gtG;rw[<-zaQ,kP,e];simp only;omega
section
variable{l0:List ak}{k:Int}
def FX(l0:List ak)(k:Int)(j m:Nat):List ay:=((bt l0 k).take j).map (·.s)++(List.range m).map λi=>(fj l0+1+((j-1-i:Nat):Int),k)
abbrev yd(l0:List ak)(k:Int)(i:Nat):ay:=(fj l0+1+(i:Int),k)
theorem ix{j m:Nat}(hj:j<=(bt l0 k).length):(FX l0 k j m).length=j+m:=by unfold FX;rw[zah,zaa,zaa,zas,List.length_range];omega
theorem EV{j m i:Nat}(hj:j<=(bt l0 k).length)(hi:i<j):(FX l0 k j m)[i]?=some ((bt l0 k)[i]'(by omega)).s:=by unfold FX;rw[zaR (by rw[zaa,zas];omega),zaD,zdq hi,zac (by omega)];rfl
theorem EW{j m i:Nat}(hj:j<=(bt l0 k).length)(hi:i<m):(FX l0 k j m)[j+i]?=some (yd l0 k (j-1-i)):=by
 unfold FX;have e:(((bt l0 k).take j).map (·.s)).length=j:=by rw[zaa,zas];omega
 rw[za2 (by omega),e,zaD,show j+i-j=i by omega,zcZ hi];rfl
theorem qbn{j m:Nat}(hj:j<=(bt l0 k).length){h:Hd}:h∈PJ (fj l0) k (FX l0 k j m)↔(∃(i:Nat) (hi:i<j),h=(yd l0 k i,((bt l0 k)[i]'(by omega)).s))\/(∃i,i<m/\h=(yd l0 k (j+i),yd l0 k (j-1-i))):=by
 rw[NA];have hlen:=ix (l0:=l0) (k:=k) (m:=m) hj;constructor
 ·rintro⟨i,hi,rfl⟩;by_cases pH:i<j
  ·refine .inl ⟨i,pH,?_⟩;have:=EV (l0:=l0) (k:=k) (m:=m) hj pH;rw[zac hi,zam] at this;rw[this]
  have hm:i-j<m:=by omega
  refine .inr ⟨i-j,hm,?_⟩;have:=EW (l0:=l0) (k:=k) hj hm;have e:j+(i-j)=i:=by omega
  simp only[e] at this;rw[zac hi,zam] at this;rw[this,e]
 rintro(⟨i,hi,rfl⟩| ⟨i,hi,rfl⟩)
 ·have hl:i<(FX l0 k j m).length:=by omega
  refine⟨i,hl,?_⟩;have:=EV (l0:=l0) (k:=k) (m:=m) hj hi;rw[zac hl,zam] at this;rw[this]
 have hl:j+i<(FX l0 k j m).length:=by omega
 refine⟨j+i,hl,?_⟩;have:=EW (l0:=l0) (k:=k) hj hi;rw[zac hl,zam] at this;rw[this]
end
structure eM(l0:List ak)(k:Int)(j m:Nat)(L:List ak):Prop where
 g:bH 16 l0
 z: ∀x∈l0,x.bs=(0,0)
 u:Uv l0 k (FX l0 k j m) L
 hj:j<=(bt l0 k).length
 hm:m<=j
section
variable{l0:List ak}{k:Int}{j m:Nat}{L:List ak}
theorem sQ{x:ak}(h:x∈bt l0 k):x∈l0/\x.s.2=k:=by have:=zbv.1 ((dB l0 k).mem_iff.1 h);exact⟨this.1,by simpa using this.2⟩
theorem eM.t(h:eM l0 k j m L){x:ak}(hx:x∈l0):1<=x.s.1/\x.s.1<=fj l0:=⟨(o8.1 (sO (h.g.AZ x hx)).1).1,(gf l0).2 x hx⟩
theorem eM.o(h:eM l0 k j m L){i:Nat}(hi:i<(bt l0 k).length):1<=(bt l0 k)[i].s.1/\(bt l0 k)[i].s.1<=fj l0:=h.t (sQ (zaq hi)).1
theorem eM.mem(h:eM l0 k j m L){x:Hd}:x∈L.map eC↔(∃y∈l0,x=(y.s,(0,0)))\/(∃(i:Nat) (hi:i<j),x=(yd l0 k i,((bt l0 k)[i]'(by have:=h.hj;omega)).s))\/(∃i,i<m/\x=(yd l0 k (j+i),yd l0 k (j-1-i))):=by
 obtain⟨U,rfl,hU,_⟩:=h.u.pre;rw[zau,zay,hU,qbn h.hj];refine or_congr ?_ Iff.rfl;rw[zaB];constructor
 ·rintro⟨y,hy,rfl⟩;exact⟨y,hy,by unfold eC;rw[h.z y hy]⟩
 rintro⟨y,hy,rfl⟩;exact⟨y,hy,by unfold eC;rw[h.z y hy]⟩
theorem eM.nd(h:eM l0 k j m L):((L.map eC).map (·.1)).Nodup:=by have:=h.u.rt.nd;rw[List.map_map];exact this
theorem eM.lt(h:eM l0 k j m L): ∀x∈L.map eC,jP x.2 x.1=true:=by
 intro x hx;rcases h.mem.1 hx with⟨y,hy,rfl⟩| ⟨i,hi,rfl⟩| ⟨i,hi,rfl⟩
 ·have:=h.t hy;exact kP.2 (.inl (by show 0<y.s.1;omega))
 ·have:=h.o (i:=i) (by have:=h.hj;omega);exact kP.2 (.inl (by show((bt l0 k)[i]'_).s.1<fj l0+1+(i:Int);omega))
 have:=h.hm;exact kP.2 (.inl (by show fj l0+1+((j-1-i:Nat):Int)<fj l0+1+((j+i:Nat):Int);omega))
theorem eM.on(h:eM l0 k j m L){s:ay}:s∈AW (L.map eC)↔(∃x∈L.map eC,x.1=s)/\ ∀x∈L.map eC,x.2=s->x.1∉AW (L.map eC):=qfF h.nd h.lt
theorem NB{i i':Nat}(h:yd l0 k i=yd l0 k i'):i=i':=by have:=congrArg Prod.fst h;simp only at this;omega
theorem eM.onC(h:eM l0 k j m L){i:Nat}(hi:i<m):yd l0 k (j+i)∈AW (L.map eC):=by
 refine h.on.2 ⟨⟨_,h.mem.2 (.inr (.inr ⟨i,hi,rfl⟩)),rfl⟩,λx hx e _=> ?_⟩;have hp:=(gf l0).1;have hm:=h.hm;rcases h.mem.1 hx with⟨y,hy,rfl⟩| ⟨q,hq,rfl⟩| ⟨q,hq,rfl⟩
 ·have:=congrArg Prod.fst e;simp only at this;omega
 ·have h2:=h.o (i:=q) (by have:=h.hj;omega);have h3:=congrArg Prod.fst e;simp only at h3;omega
 have:=NB e;omega
theorem eM.onB(h:eM l0 k j m L){i:Nat}(hi:i<j):yd l0 k i∈AW (L.map eC)↔i<j-m:=by
 have hp:=(gf l0).1;have hm:=h.hm;rw[h.on];constructor
 ·rintro⟨_,h2⟩;refine zaN λhn=> ?_;have hq:j-1-i<m:=by omega
  refine h2 _ (h.mem.2 (.inr (.inr ⟨j-1-i,hq,rfl⟩))) ?_ (h.onC hq);show yd l0 k (j-1-(j-1-i))=_;rw[show j-1-(j-1-i)=i by omega]
 intro h3;refine⟨⟨_,h.mem.2 (.inr (.inl ⟨i,hi,rfl⟩)),rfl⟩,λx hx e _=> ?_⟩;rcases h.mem.1 hx with⟨y,hy,rfl⟩| ⟨q,hq,rfl⟩| ⟨q,hq,rfl⟩
 ·have:=congrArg Prod.fst e;simp only at this;omega
 ·have h2:=h.o (i:=q) (by have:=h.hj;omega);have h4:=congrArg Prod.fst e;simp only at h4;omega
 have:=NB e;omega
theorem eM.onA(h:eM l0 k j m L){y:ak}(hy:y∈l0):y.s∈AW (L.map eC)↔ ¬ ∃(i:Nat) (hi:i<(bt l0 k).length),i<j-m/\(bt l0 k)[i].s=y.s:=by
 have hm:=h.hm;have hj:=h.hj;rw[h.on];constructor
 ·rintro⟨_,h2⟩ ⟨i,hi,h3,h4⟩;exact h2 _ (h.mem.2 (.inr (.inl ⟨i,by omega,rfl⟩))) h4 ((h.onB (by omega)).2 h3)
 intro h3;refine⟨⟨_,h.mem.2 (.inl ⟨y,hy,rfl⟩),rfl⟩,λx hx e ho=> ?_⟩;rcases h.mem.1 hx with⟨z,hz,rfl⟩| ⟨q,hq,rfl⟩| ⟨q,hq,rfl⟩
 ·have h4:=congrArg Prod.fst e;have:=h.t hy;simp only at h4;omega
 ·exact h3 ⟨q,by omega,(h.onB hq).1 ho,e⟩
 have h4:=congrArg Prod.fst e;have:=h.t hy;simp only at h4;omega
theorem eM.onO(h:eM l0 k j m L){i:Nat}(hi:i<(bt l0 k).length):(bt l0 k)[i].s∈AW (L.map eC)↔ ¬i<j-m:=by
 rw[h.onA (sQ (zaq hi)).1];refine not_congr ⟨?_,λh2=>⟨i,hi,h2,rfl⟩⟩;rintro⟨q,hq,h2,h3⟩;have hn:((bt l0 k).map (·.s)).Nodup:=by refine((dB l0 k).map (·.s)).nodup_iff.2 ?_;exact h.g.nd.sublist ((zcb (l:=l0)).map _)
 have:q=i:=(List.getElem_inj (h₀:=by rw[zaa];exact hq) (h₁:=by rw[zaa];exact hi) hn).1 (by rw[zcL,zcL];exact h3);omega
theorem sR{on:List ay}: ∀{A B:List ak},(∀x∈A,¬(x.bs=(0,0)/\x.s∈on))->dL on (A++B)=dL on B
 | [],_,_=>rfl
 |a::A,B,h=>by show(if a.bs=(0,0)/\a.s∈on then some a.s else dL on (A++B))=_;rw[zan (h a (.head _)),sR λx hx=>h x (.tail _ hx)]
theorem Ak{l:List Hd}{on:List ay}: ∀{A B:List ak},(∀x∈A,x.bs≠(0,0)/\ ¬(uo l x.s=true/\x.s∈on))->bW l on (A++B)=bW l on B
 | [],_,_=>rfl
 |a::A,B,h=>by show(if a.bs=(0,0) then none else if uo l a.s=true/\a.s∈on then some a.s else bW l on (A++B))=_;rw[zan (h a (.head _)).1,zan (h a (.head _)).2,Ak λx hx=>h x (.tail _ hx)]
theorem eM.own(h:eM l0 k j m L): ∃U,L=l0++U/\bt L k=U.reverse++bt l0 k/\U.length=j+m/\(∀q (hq:q<U.length),U[q].s=yd l0 k q/\U[q].bs≠(0,0)):=by
 obtain⟨U,hL,hU,hO⟩:=h.u.own;have hp:=(gf l0).1;have hlen:U.length=j+m:=by have:=congrArg List.length hU;unfold PJ at this;rw[zaa,zaa,List.length_zipIdx,ix h.hj] at this;exact this
 refine⟨U,hL,hO,hlen,λq hq=> ?_⟩;have hx:eC U[q]=(yd l0 k q,(FX l0 k j m)[q]'(by rw[ix h.hj];omega)):=by
  have h3:(U.map eC)[q]?=some (eC U[q]):=by rw[zaD,zac hq];rfl
  rw[hU] at h3;unfold PJ at h3;rw[zaD,List.getElem?_zipIdx,zac (by rw[ix h.hj];omega)] at h3;simp only[zaJ,zam] at h3;rw[<-h3];simp
 refine⟨congrArg Prod.fst hx,λe=> ?_⟩;have hu:U[q].bs=(FX l0 k j m)[q]'(by rw[ix h.hj];omega):=congrArg Prod.snd hx;rw[e] at hu;by_cases hqj:q<j
 ·have h4:=EV (l0:=l0) (k:=k) (m:=m) h.hj hqj;rw[zac (by rw[ix h.hj];omega),zam] at h4;rw[h4] at hu;have:=h.o (i:=q) (by have:=h.hj;omega);rw[<-hu] at this;simp only at this;omega
 have h4:=EW (l0:=l0) (k:=k) (j:=j) (m:=m) (i:=q-j) h.hj (by omega);have e2:j+(q-j)=q:=by omega
 simp only[e2] at h4;rw[zac (by rw[ix h.hj];omega),zam] at h4;rw[h4] at hu;have:=congrArg Prod.fst hu;simp only at this;omega
theorem eM.bs(h:eM l0 k j 0 L):nR L k=if hj:j<(bt l0 k).length then((bt l0 k)[j].s,0) else((0,0),200):=by
 obtain⟨U,hL,hO,_,hq⟩:=h.own;unfold nR fP;rw[h.u.rt.right,hO,sR λx hx hb=>by obtain⟨q,hq2,rfl⟩:=zaT (zbM.1 hx);exact(hq q hq2).2 hb.1];have e:bt l0 k=(bt l0 k).take j++(bt l0 k).drop j:=(zbi _ _).symm;rw[e,sR λx hx hb=>by
  obtain⟨q,hq2,rfl⟩:=zcB.1 hx;have hql:q<(bt l0 k).length:=by omega
  exact(h.onO hql).1 hb.2 (by omega),<-e]
 split
 next bJ=>rw[za4 bJ];unfold dL;rw[zap ⟨h.z _ (sQ (zaq bJ)).1,(h.onO bJ).2 (by omega)⟩];rfl
 rename_i hge;rw[zcN (by omega)];rfl
theorem qdr{l:List Hd}(hn:(l.map (·.1)).Nodup){x u:ay}(h:(x,u)∈l):l.find? (λh=>h.1==x)=some (x,u):=by
 cases hf:l.find? (λh=>h.1==x) with
 |none=>rw[zch] at hf;exact absurd (by simp) (hf _ h)
 |some y=>have h1:=zb6 hf;have h2:=zcS hf;rw[lS hn y h1 (x,u) h (by simpa using h2)]
theorem Uw{l:List Hd}(hn:(l.map (·.1)).Nodup){x:ay}(h:(x,(0,0))∈l)(n:Nat)(e:Bool):ku l (n+1) x e=(0,x,e):=by unfold ku;rw[qdr hn h];simp
theorem Lg{l:List Hd}(hn:(l.map (·.1)).Nodup){x u:ay}(h:(x,u)∈l)(hu:u≠(0,0))(n:Nat)(e:Bool):ku l (n+1) x e=ku l n u (!e):=by rw[ku,qdr hn h];simp[hu]
theorem eM.mo(h:eM l0 k j m L){i:Nat}(hi:i<(bt l0 k).length):((bt l0 k)[i].s,(0,0))∈L.map eC:=h.mem.2 (.inl ⟨_,(sQ (zaq hi)).1,rfl⟩)
theorem eM.no(h:eM l0 k j m L){i:Nat}(hi:i<(bt l0 k).length):(bt l0 k)[i].s≠(0,0):=λe=>by have:=h.o hi;rw[e] at this;simp only at this;omega
theorem qfG{i:Nat}:yd l0 k i≠(0,0):=λe=>by have:=congrArg Prod.fst e;have hp:=(gf l0).1;simp only at this;omega
theorem eM.len(h:eM l0 k j m L):(L.map eC).length=l0.length+(j+m):=by obtain⟨U,rfl,_,hU,_⟩:=h.own;rw[zaa,zah,hU]
theorem eM.qln(h:eM l0 k j m L){i:Nat}(hi:i<j):uo (L.map eC) (yd l0 k i)=true:=by have hj:=h.hj;have hl:=h.len;have hm:=h.mem.2 (.inr (.inl ⟨i,hi,rfl⟩));unfold uo mG;rw[show(L.map eC).length+1=((L.map eC).length-1+1)+1 by omega,Lg h.nd hm (h.no (by omega)),Uw h.nd (h.mo (by omega))];rfl
theorem eM.qlo(h:eM l0 k j m L){i:Nat}(hi:i<m):uo (L.map eC) (yd l0 k (j+i))=false:=by have hj:=h.hj;have hmj:=h.hm;have hl:=h.len;have hm:=h.mem.2 (.inr (.inr ⟨i,hi,rfl⟩));have hb:=h.mem.2 (.inr (.inl ⟨j-1-i,by omega,rfl⟩));have h0:0<l0.length:=List.length_pos_of_mem (sQ (zaq (l:=bt l0 k) (n:=0) (by omega))).1;unfold uo mG;rw[show(L.map eC).length+1=(((L.map eC).length-2+1)+1)+1 by omega,Lg h.nd hm qfG,Lg h.nd hb (h.no (by omega)),Uw h.nd (h.mo (by omega))];rfl
theorem eM.qbo(h:eM l0 k j m L):kx L k=if m<j then(yd l0 k (j-1-m),0) else((0,0),200):=by
 obtain⟨U,hL,hO,hlen,hq⟩:=h.own;have hm:=h.hm;have hj:=h.hj;unfold kx fP qI;rw[h.u.rt.right,hO];have e:U.reverse=(U.drop (j-m)).reverse++(U.take (j-m)).reverse:=by rw[<-zct,zbi]
 rw[e,zaM,Ak λx hx=>by
  obtain⟨q,hq2,rfl⟩:=List.mem_drop_iff_getElem.1 (zbM.1 hx);have uX:=hq (j-m+q) (by omega);refine⟨uX.2,λhb=> ?_⟩;rw[uX.1] at hb;by_cases hqj:j-m+q<j
  ·have:=(h.onB hqj).1 hb.2;omega
  have h3:=h.qlo (i:=j-m+q-j) (by omega);rw[show j+(j-m+q-j)=j-m+q by omega,hb.1] at h3;cases h3]
 split
 next bJ=>
  have e2:(U.take (j-m)).reverse=U[j-1-m]'(by omega)::(U.take (j-1-m)).reverse:=by rw[show j-m=(j-1-m)+1 by omega,zae (by omega),zct];rfl
  have hx:=hq (j-1-m) (by omega);rw[e2,zcI];unfold bW;rw[zan hx.2,hx.1,zap ⟨h.qln (by omega),(h.onB (by omega)).2 (by omega)⟩];rfl
 rename_i hge;rw[show j-m=0 by omega];show qfe (bW _ _ (bt l0 k))=_;cases ho:bt l0 k with
 |nil=>rfl
 |cons a r=>unfold bW;rw[zap (h.z a (sQ (by rw[ho];exact .head _)).1)];rfl
theorem Ux{j:Nat}(hj:j<(bt l0 k).length):FX l0 k j 0++[(bt l0 k)[j].s]=FX l0 k (j+1) 0:=by unfold FX;rw[zae hj,zau];simp only[List.range_zero,zdd,zaV,zbg]
theorem Uy{j m:Nat}:FX l0 k j m++[yd l0 k (j-1-m)]=FX l0 k j (m+1):=by unfold FX;rw[List.range_succ,zau,zaM];rfl
theorem eM.start(h:bH 16 l0)(hz: ∀x∈l0,x.bs=(0,0))(k:Int):eM l0 k 0 0 l0:=⟨h,hz,Uv.start h k,za1 _,zak _⟩
theorem eM.next(h:eM l0 k j m L)(h1:1<=k)(h2:k<=16):lU (aw L) k=0/\Na (aw L) k=⟨(fj L+1,k),x8 L k+1,xr L,(0,0),[]⟩:=by
 have hj:=h.hj;have hm:=h.hm;have hl:=h.g.len;have xV:(bt l0 k).length<=l0.length:=by rw[(dB _ _).length_eq];exact zaG _ _
 refine⟨h.u.next h1 h2 (by rw[ix hj];omega),?_⟩;rw[h.u.rt.right];rfl
theorem eM.qfH(h:eM l0 k j 0 L)(h1:1<=k)(h2:k<=16)(hj:j<(bt l0 k).length):eM l0 k (j+1) 0 (L++[sP L k (bt l0 k)[j].s]):=by
 have hl:=h.g.len;have xV:(bt l0 k).length<=l0.length:=by rw[(dB _ _).length_eq];exact zaG _ _
 refine⟨h.g,h.z,?_,hj,za1 _⟩;rw[<-Ux hj];refine h.u.up h1 h2 (by rw[ix h.hj];omega) (sO (h.g.AZ _ (sQ (zaq hj)).1)).1 ?_;have:=h.o hj;have:=h.u.top;omega
theorem eM.qfI(h:eM l0 k j m L)(h1:1<=k)(h2:k<=16)(hm:m<j):eM l0 k j (m+1) (L++[sP L k (yd l0 k (j-1-m))]):=by
 have hj:=h.hj;have hl:=h.g.len;have xV:(bt l0 k).length<=l0.length:=by rw[(dB _ _).length_eq];exact zaG _ _
 refine⟨h.g,h.z,?_,hj,hm⟩;rw[<-Uy];have ht:=h.u.top;rw[ix hj] at ht;have hp:=(gf l0).1;have hb:=(h.g.time ⟨by decide,by decide⟩).2;refine h.u.up h1 h2 (by rw[ix hj];omega) (o8.2 ?_) ?_
 ·show 1<=fj l0+1+((j-1-m:Nat):Int)/\fj l0+1+((j-1-m:Nat):Int)<=1099511627776/\1<=k/\k<=16;omega
 show fj l0+1+((j-1-m:Nat):Int)<=fj L;omega
end
def Lh:bg:=λps R ae=> ∃s,ps=[sD s]/\R=[]/\s.length<=2000000/\ae (kM (Lib.validD s),[])
def Li:bg:=λps R ae=> ∃s,ps=[sD s]/\R=[]/\s.length<=2000000/\ae (iD (Lib.runeCount ⟨⟨s⟩⟩),[])
def Z3B:List P:=[P.d (D.int .i64 (60:Int))]
def JF(gR:List UInt8):Prop:=q9 gR<=2000000
theorem qi5(s:List UInt8)(ae:P×List (Nat×En)->Prop):(∃(gR:List UInt8),ug s=ug gR/\Zo/\JF gR/\bif !Lib.validD gR then ae (P.cH (P.d Z7::Z3B),[]) else∃(s_2:List UInt8),ug s=ug s_2/\Zo/\JF s_2/\ae (P.cH (P.d (D.int .i64 (↑(Lib.runeCount (ByteArray.mk (Array.mk s_2))):Int))::rA),[]))=(aJ [(148,Lh),(149,Li)] [] 115 [sD s] []) ae:=by kernel_rfl
section
variable{X:XF}
theorem qbp:FD X 148 Lh:=FD.tX Tryz.func148 (by kernel_rfl) (by kernel_rfl) (by rintro ps R ae ⟨s,rfl,rfl,hs,hp⟩;exact⟨_,zap (by omega),hp⟩)
theorem qbq:FD X 149 Li:=FD.tX Tryz.func149 (by kernel_rfl) (by kernel_rfl) (by rintro ps R ae ⟨s,rfl,rfl,hs,hp⟩;exact⟨_,zap (by omega),hp⟩)
end
abbrev fH:=List UInt8×Bool×List UInt8
def u4(e:fH):D:= .agg [.str e.1,.bool e.2.1,.str e.2.2]
abbrev esP(l:List fH):P:= .d (.sl 3 (l.map u4))
def SmE(l:List fH):Prop:=l.length<=2000000/\ ∀e∈l,e.1.length<=2000000/\e.2.2.length<=2000000
theorem Uz{l:List fH}{i:Nat}(h:i<l.length):D.nth (l.map u4) i=u4 (l.getD i ([],false,[])):=by rw[ax u4 l i h];simp[zad,h]
theorem qi6(e:fH):cw PR 74 (u4 e)=true:=by obtain⟨a,b,c⟩:=e;kernel_rfl
section
variable{X:XF}
end
def SmX(l:List fH):Prop:=l.length<=2000/\ ∀e∈l,e.1.length<=10000/\e.2.2.length<=10000
section
variable{X:XF}
theorem SmX.e{l:List fH}(h:SmX l):SmE l:=⟨by have:=h.1;omega,λe he=>by have:=h.2 e he;omega⟩
end
def Lj(s:List UInt8):Prop:=(Lib.decodeL s).1=65533/\(Lib.decodeL s).2=1
def Lk:bg:=λps R ae=> ∃s,ps=[sD s]/\R=[]/\(s≠[]/\s.length<=2000000)/\(Lj s-> ∀c n,ae (.cH [iD c,iD n,kM false],[]))/\(¬Lj s-> ∀(c:Int) (n:Int),n=(Lib.decodeL s).2->1<=n->n.toNat<=s.length->ae (.cH [iD c,iD n,kM true],[]))
def FY:List P:=[ZW]
def Z3X(s:List UInt8):Int:=(↑(UInt8.toNat (List.getD s 3 (0:UInt8))):Int)
def Is(s:List UInt8):Int:=(↑(UInt8.toNat (List.getD s 2 (0:UInt8))):Int)
def FZ(s:List UInt8):Int:=(↑(UInt8.toNat (List.getD s 1 (0:UInt8))):Int)
def De(s:List UInt8):Int:=(↑(UInt8.toNat (List.getD s 0 (0:UInt8))):Int)
def Z3V(s:List UInt8):Int:=(De s-(240:Int))*(64:Int)
def Z3W(s:List UInt8):Int:=(Z3V s+FZ s-(128:Int))*(64:Int)
def Z3Y(s:List UInt8):Int:=(Z3W s+Is s-(128:Int))*(64:Int)
def Z3Z(s:List UInt8):Int:=Z3Y s+Z3X s-(128:Int)
def Z40(ae:P×List (Nat×En)->Prop)(s:List UInt8):Prop:=ae (P.cH (P.d (D.int .i64 (Z3Z s))::P.d (D.int .i64 (4:Int))::FY),[])
def Z3Q(s:List UInt8):Bool:=decide ((0:Int)<=(1:Int)+(1:Int)/\(1:Int)+(1:Int)<EI s)
def Z3K(s:List UInt8):Bool:=decide (FZ s>=(192:Int))
def Z3J(s:List UInt8):Bool:=decide (FZ s<(128:Int))
def Z3I(s:List UInt8):Bool:=decide (Z9<=FZ s/\FZ s<=Za)
def Z3G(s:List UInt8):Bool:=decide ((0:Int)<=(1:Int)/\(1:Int)<EI s)
def F4:List P:=[P.d Z3]
def wX(ae:P×List (Nat×En)->Prop):Prop:=ae (P.cH (P.d Z7::P.d Z7::F4),[])
def Z41(s:List UInt8)(ae:P×List (Nat×En)->Prop):Prop:=bif decide (De s>=(240:Int)) then bif decide (De s<(245:Int)) then ob (decide (Z9<=De s-(240:Int)/\De s-(240:Int)<=Za)) (bif decide (EI s<(4:Int)) then wX ae else ob (Z3G s) (ob (Z3I s) (bif Z3J s then wX ae else bif Z3K s then wX ae else ob (decide (Z9<=Z3V s/\Z3V s<=Za)) (ob (decide (Z9<=Z3V s+FZ s/\Z3V s+FZ s<=Za)) (ob (decide (Z9<=Z3V s+FZ s-(128:Int)/\Z3V s+FZ s-(128:Int)<=Za)) (ob (Z3Q s) (ob (decide (Z9<=Is s/\Is s<=Za)) (bif decide (Is s<(128:Int)) then wX ae else bif decide (Is s>=(192:Int)) then wX ae else ob (decide (Z9<=Z3W s/\Z3W s<=Za)) (ob (decide (Z9<=Z3W s+Is s/\Z3W s+Is s<=Za)) (ob (decide (Z9<=Z3W s+Is s-(128:Int)/\Z3W s+Is s-(128:Int)<=Za)) (ob (decide ((0:Int)<=(1:Int)+(1:Int)+(1:Int)/\(1:Int)+(1:Int)+(1:Int)<EI s)) (ob (decide (Z9<=Z3X s/\Z3X s<=Za)) (bif decide (Z3X s<(128:Int)) then wX ae else bif decide (Z3X s>=(192:Int)) then wX ae else ob (decide (Z9<=Z3Y s/\Z3Y s<=Za)) (ob (decide (Z9<=Z3Y s+Z3X s/\Z3Y s+Z3X s<=Za)) (ob (decide (Z9<=Z3Z s/\Z3Z s<=Za)) (bif decide (Z3Z s<(65536:Int)) then wX ae else bif decide (Z3Z s>(1114111:Int)) then wX ae else bif decide (Z3Z s>=(55296:Int)) then bif decide (Z3Z s<(57344:Int)) then wX ae else Z40 ae s else Z40 ae s)))))))))))))))) else wX ae else wX ae
def Z3P(s:List UInt8):Int:=(De s-(224:Int))*(64:Int)
def Z3S(s:List UInt8):Int:=(Z3P s+FZ s-(128:Int))*(64:Int)
def Z3T(s:List UInt8):Int:=Z3S s+Is s-(128:Int)
def Z3U(ae:P×List (Nat×En)->Prop)(s:List UInt8):Prop:=ae (P.cH (P.d (D.int .i64 (Z3T s))::P.d (D.int .i64 (3:Int))::FY),[])
def Z42(s:List UInt8)(ae:P×List (Nat×En)->Prop):Prop:=bif decide (De s>=(224:Int)) then bif decide (De s<(240:Int)) then ob (decide (Z9<=De s-(224:Int)/\De s-(224:Int)<=Za)) (bif decide (EI s<(3:Int)) then wX ae else ob (Z3G s) (ob (Z3I s) (bif Z3J s then wX ae else bif Z3K s then wX ae else ob (decide (Z9<=Z3P s/\Z3P s<=Za)) (ob (decide (Z9<=Z3P s+FZ s/\Z3P s+FZ s<=Za)) (ob (decide (Z9<=Z3P s+FZ s-(128:Int)/\Z3P s+FZ s-(128:Int)<=Za)) (ob (Z3Q s) (ob (decide (Z9<=Is s/\Is s<=Za)) (bif decide (Is s<(128:Int)) then wX ae else bif decide (Is s>=(192:Int)) then wX ae else ob (decide (Z9<=Z3S s/\Z3S s<=Za)) (ob (decide (Z9<=Z3S s+Is s/\Z3S s+Is s<=Za)) (ob (decide (Z9<=Z3T s/\Z3T s<=Za)) (bif decide (Z3T s<(2048:Int)) then wX ae else bif decide (Z3T s>(1114111:Int)) then wX ae else bif decide (Z3T s>=(55296:Int)) then bif decide (Z3T s<(57344:Int)) then wX ae else Z3U ae s else Z3U ae s))))))))))) else Z41 s ae else Z41 s ae
def Z3N:D:=D.int .i64 (2:Int)
def Z3L(s:List UInt8):Int:=(De s-(192:Int))*(64:Int)
def Z3M(s:List UInt8):Int:=Z3L s+FZ s-(128:Int)
def Z3O(ae:P×List (Nat×En)->Prop)(s:List UInt8):Prop:=ae (P.cH (P.d (D.int .i64 (Z3M s))::P.d Z3N::FY),[])
theorem qbr(s:List UInt8)(ae:P×List (Nat×En)->Prop):(ob (decide ((0:Int)<=(0:Int)/\(0:Int)<EI s)) (ob (decide (Z9<=De s/\De s<=Za)) (bif decide (De s<(128:Int)) then ae (P.cH (P.d (D.int .i64 (De s))::P.d Zg::FY),[]) else bif decide (De s>=(194:Int)) then bif decide (De s<(224:Int)) then ob (decide (Z9<=De s-(192:Int)/\De s-(192:Int)<=Za)) (bif decide (EI s<(2:Int)) then wX ae else ob (Z3G s) (ob (Z3I s) (bif Z3J s then wX ae else bif Z3K s then wX ae else ob (decide (Z9<=Z3L s/\Z3L s<=Za)) (ob (decide (Z9<=Z3L s+FZ s/\Z3L s+FZ s<=Za)) (ob (decide (Z9<=Z3M s/\Z3M s<=Za)) (bif decide (Z3M s>(1114111:Int)) then wX ae else bif decide (Z3M s>=(55296:Int)) then bif decide (Z3M s<(57344:Int)) then wX ae else Z3O ae s else Z3O ae s)))))) else Z42 s ae else Z42 s ae)))=(aJ [] [] 168 [sD s] []) ae:=by kernel_rfl
abbrev rsH(s:List UInt8)(o:List (List UInt8)):S:=⟨29,[(0,sD s),(4,.sl 0 0 o.length)],[(0,⟨0,none,.arr 9 false (o.map D.str)⟩)]⟩
def UA(o:List (List UInt8)):En:=En.mk 0 none (Obj.arr (9:TypeId) false (List.map D.str o))
def Z49(ae:P×List (Nat×En)->Prop)(o:List (List UInt8)):Prop:=ae (P.cH (P.sl 0 0 (List.length o)::rA),[(0,UA o)])
def UB(gR:List UInt8):Prop:=Lib.validD gR=true
def Z43:En:=En.mk 0 none (Obj.arr (9:TypeId) false [])
def UC(gR:List UInt8):Prop:=Lib.validD gR=false
def Z46(gR:List UInt8)(ae:P×List (Nat×En)->Prop):Prop:=UC gR-> ∀(_:List (List UInt8)),ae (P.cH (ZY::Z3B),[(0,Z43)])
def Z44(gR:List UInt8):S:=S.mk 29 [(0,P.d (D.str gR)),(4,ZY)] [(0,Z43)]
def Z4a(ae:P×List (Nat×En)->Prop)(o:List (List UInt8)):Prop:=ae (P.cH (P.d (D.int .i64 (↑(List.length o):Int))::rA),[])
def Z4c(o:List (List UInt8))(n:Int)(s:List UInt8):Nat:=List.length o+List.length [D.str (List.drop 0 (List.take (Zt n) s))]
def NC(o:List (List UInt8)):Nat×En:=(1,UA o)
theorem qi7(s:List UInt8)(o:List (List UInt8))(ae:PX×S->Prop):(bif decide (EI s>(0:Int)) then∃(gR:List UInt8),ug s=ug gR/\Zo/\(gR≠[]/\JF gR)/\(Lj gR-> ∀(_ _:Int),ae (PX.ret,S.mk 29 [(2,ZY),(3,P.d (D.int .i64 (60:Int))),(4,P.sl 1 0 (List.length o))] [(0,Z43),NC o]))/\(¬Lj gR-> ∀(_ n:Int),n=(↑(Prod.snd (Lib.decodeL gR)):Int)->(1:Int)<=n->Zt n<=q9 gR->ob (decide ((0:Int)<=n/\n<=EI s)) (ob (Nat.ble (List.length o) (List.length (List.map D.str o))&&aI (Z4c o n s) 16) (ob (decide ((0:Int)<=n/\n<=EI s)) (ae (PX.normal,S.mk 29 [(0,P.d (D.str (List.drop (Zt n) (List.take (q9 s) s)))),(4,P.sl 0 0 (Z4c o n s))] [(0,En.mk 0 none (Obj.arr (9:TypeId) false (List.take (List.length o) (List.map D.str o)++[D.str (List.drop 0 (List.take (Zt n) s))])))]))))) else ae (PX.exit 0,S.mk 29 [(4,P.sl 0 0 (List.length o))] [(0,UA o)]))=(aD [(168,Lk)] [] 144 2 (rsH s o)) ae:=by kernel_rfl
def Iu(n b0 b1 b2 b3:Nat):Nat×Nat:=
 if b0<128 then(b0,1) else
 if b0/32=6/\1<n/\b1/64=2 then(if 128<=(b0%32)*64+b1%64 then((b0%32)*64+b1%64,2) else(65533,1)) else
 if b0/16=14/\(1<n/\b1/64=2)/\2<n/\b2/64=2 then(if 2048<=(b0%16)*4096+(b1%64)*64+b2%64/\((b0%16)*4096+(b1%64)*64+b2%64<55296\/57344<=(b0%16)*4096+(b1%64)*64+b2%64/\(b0%16)*4096+(b1%64)*64+b2%64<=1114111) then((b0%16)*4096+(b1%64)*64+b2%64,3) else(65533,1)) else
 if b0/8=30/\(1<n/\b1/64=2)/\(2<n/\b2/64=2)/\3<n/\b3/64=2 then(if 65536<=(b0%8)*262144+(b1%64)*4096+(b2%64)*64+b3%64/\((b0%8)*262144+(b1%64)*4096+(b2%64)*64+b3%64<55296\/57344<=(b0%8)*262144+(b1%64)*4096+(b2%64)*64+b3%64/\(b0%8)*262144+(b1%64)*4096+(b2%64)*64+b3%64<=1114111) then((b0%8)*262144+(b1%64)*4096+(b2%64)*64+b3%64,4) else(65533,1)) else(65533,1)
theorem UD(s:List UInt8)(k:Nat):(ByteArray.mk s.toArray).get! k=s.getD k 0:=by
 show s.toArray.getD k 0=_;simp[Array.getD,zad];split
 next h=>simp[h]
 rename_i h;simp[zbp (by omega:s.length<=k)]
theorem PK(s:List UInt8):Lib.decodeL s=Iu s.length (s.getD 0 0).toNat (s.getD 1 0).toNat (s.getD 2 0).toNat (s.getD 3 0).toNat:=by
 have hs:(ByteArray.mk s.toArray).size=s.length:=rfl;have hv: ∀c:Nat,Utf8.valid (c:Int)=decide (c<55296\/57344<=c/\c<=1114111):=λc=>by unfold Utf8.valid;rw[zaH];simp only[zbh,zab,zai];omega
 unfold Lib.decodeL Utf8.decode Iu;simp only[UD,zaF,hs,hv,zab,zaW,zai,ge_iff_le,Utf8.runeError,and_assoc]
section
variable{X:XF}
theorem qbs:FD X 168 Lk:=FD.mk (H:=[]) (hk:=[]) (by kernel_rfl) .nil .nil (by
 intro ps R ae hh;obtain⟨s,rfl,rfl,⟨dQ,hs⟩,h1,h2⟩:=hh
 (rw[<-qbr];delta ZW FY Z3X Is FZ De Z3V Z3W Z3Y Z3Z Z40 q9 EI Z3Q Z3K Z3J Za Z9 Z3I Z3G Z3 F4 Z7 wX Z41 Z3P Z3S Z3T Z3U Z42 Z3N Z3L Z3M Z3O Zg)
 have qlp:0<s.length:=zbT.2 dQ;unfold Lj at h1 h2;rw[PK] at h1 h2;have D3:=(s.getD 0 0).toNat_lt;have j7:=(s.getD 1 0).toNat_lt;have cu:=(s.getD 2 0).toNat_lt;have ma:=(s.getD 3 0).toNat_lt;generalize (s.getD 0 0).toNat=b0 at D3 h1 h2;generalize (s.getD 1 0).toNat=b1 at j7 h1 h2;generalize (s.getD 2 0).toNat=b2 at cu h1 h2;generalize (s.getD 3 0).toNat=b3 at ma h1 h2;generalize s.length=n at qlp hs h1 h2;have bad:Iu n b0 b1 b2 b3=(65533,1)->ae (.cH [iD 0,iD 0,kM false],[]):=λh=>h1 (by rw[h];exact⟨rfl,rfl⟩) 0 0;have qi8:b0<128-> ∀c,ae (.cH [iD c,iD 1,kM true],[]):=λh c=>by
  have e:Iu n b0 b1 b2 b3=(b0,1):=by unfold Iu;rw[zap h]
  rw[e] at h2;exact h2 (λh=>by have:=h.1;simp only at this;omega) c 1 rfl (by omega) (by omega)
 have qfE: ∀c (k:Int),(Iu n b0 b1 b2 b3).2=k.toNat->2<=k->k.toNat<=n->ae (.cH [iD c,iD k,kM true],[]):=λc k h3 h4 h5=>h2 (λh=>by rw[h3] at h;omega) c k (by omega) (by omega) h5;clear h1 h2
 repeat' (first |refine bm (by omega) ?_ |refine bf (λh=> ?_) (λh=> ?_))
 all_goals first
  | (refine bad ?_;unfold Iu;(repeat' split);all_goals first |rfl | (exfalso;omega))
  |exact qi8 (by omega) _
  | (refine qfE _ _ ?_ (by omega) (by omega);unfold Iu;(repeat' split);all_goals first |rfl | (exfalso;omega)))
end
def EX:Nat->List UInt8->List (List UInt8)
 |0,_=>[]
 |n+1,s=>if s=[] then [] else s.take (Lib.decodeL s).2::EX n (s.drop (Lib.decodeL s).2)
def JG(s:List UInt8):List (List UInt8):=EX s.length s
theorem ye{s:List UInt8}(h:s≠[]):1<=(Lib.decodeL s).2:=by refine Lib.decode_width_pos ⟨s.toArray⟩ 0 ?_;exact zbT.2 h
theorem vO: ∀(n m:Nat) (s:List UInt8),s.length<=n->s.length<=m->EX n s=EX m s
 |0,0,_,_,_=>rfl
 |0,m+1,s,h,_=>by have:s=[]:=zaA (by omega);subst this;rfl
 |n+1,0,s,_,h=>by have:s=[]:=zaA (by omega);subst this;rfl
 |n+1,m+1,s,h1,h2=>by
  unfold EX;split
  ·rfl
  rename_i dQ;have:=ye dQ;have hl:0<s.length:=zbT.2 dQ;rw[vO n m _ (by rw[zbe];omega) (by rw[zbe];omega)]
theorem qbt:JG []=[]:=rfl
theorem Iv{s:List UInt8}(h:s≠[]):JG s=s.take (Lib.decodeL s).2::JG (s.drop (Lib.decodeL s).2):=by have hl:0<s.length:=zbT.2 h;have:=ye h;unfold JG;rw[vO s.length ((s.length-1)+1) s (zak _) (by omega)];show(if s=[] then [] else _)=_;rw[zan h];rw[vO (s.length-1) (s.drop (Lib.decodeL s).2).length _ (by rw[zbe];omega) (zak _)]
theorem qbu{s:List UInt8}(h:s≠[]):Lib.runeCount ⟨s.toArray⟩=1+Lib.runeCount ⟨(s.drop (Lib.decodeL s).2).toArray⟩:=by
 have hl:0<s.length:=zbT.2 h;have hp:=ye h;have hle:=Lib.decodeL_le s h;have hs:(ByteArray.mk s.toArray).size=s.length:=rfl;have e1:Lib.runeCount ⟨s.toArray⟩=Lib.runeCountFrom ⟨s.toArray⟩ ((s.length-1)+1) 0:=by unfold Lib.runeCount;exact Lib.fuel_enough _ _ _ _ (by omega) (by omega)
 rw[e1];unfold Lib.runeCountFrom;rw[zap (by rw[hs];exact hl)];have ex:(ByteArray.mk (s.drop (Lib.decodeL s).2).toArray)=(ByteArray.mk s.toArray).extract (Lib.decodeL s).2 (ByteArray.mk s.toArray).size:=by apply ByteArray.ext;simp[ByteArray.data_extract,hs];rw[<-zbe,zaj]
 have e2:Lib.runeCount ⟨(s.drop (Lib.decodeL s).2).toArray⟩=Lib.runeCountFrom ⟨s.toArray⟩ (s.length-(Lib.decodeL s).2) (Lib.decodeL s).2:=by
  unfold Lib.runeCount;have hz:(ByteArray.mk (s.drop (Lib.decodeL s).2).toArray).size=s.length-(Lib.decodeL s).2:=by show(s.drop (Lib.decodeL s).2).toArray.size=_;simp
  rw[hz,ex,Lib.tail_count];rfl
 rw[e2];show 1+Lib.runeCountFrom _ (s.length-1) (0+(Lib.decodeL s).2)=_;rw[zaF];congr 1;exact Lib.fuel_enough _ _ _ _ (by omega) (by omega)
theorem Ll: ∀(n:Nat) (s:List UInt8),s.length<=n->Lib.runeCount ⟨s.toArray⟩=(JG s).length
 |0,s,h=>by have:s=[]:=zaA (by omega);subst this;rfl
 |n+1,s,h=>by
  by_cases hs:s=[]
  ·subst hs;rfl
  have:=ye hs;have hl:0<s.length:=zbT.2 hs;rw[qbu hs,Iv hs,zao,Ll n _ (by rw[zbe];omega)];omega
theorem Al(s:List UInt8):BU s=((JG s).length:Nat):=by unfold BU;rw[<-Ll s.length s (zak _)]
theorem EY(s:List UInt8):(JG s).length<=s.length:=by rw[<-Ll s.length s (zak _)];exact Lib.runeCount_le _
def qfJ:S->K (PX×S):=λst ae=> ∃s,st=rsH s []/\s.length<=2000000/\(Lib.validD s=false-> ∀o:List (List UInt8),ae (.ret,⟨29,[(2,.sl 0 0 0),(3,iD 60),(4,.sl 1 0 o.length)],[(0,⟨0,none,.arr 9 false []⟩),(1,⟨0,none,.arr 9 false (o.map D.str)⟩)]⟩))/\(Lib.validD s=true-> ∀o:List (List UInt8),o=JG s->ae (.exit 0,⟨29,[(4,.sl 0 0 o.length)],[(0,⟨0,none,.arr 9 false (o.map D.str)⟩)]⟩))
def uC:bg:=λps R ae=> ∃s,ps=[sD s]/\R=[]/\s.length<=2000000/\(Lib.validD s=false->ae (.cH [.sl 0 0 0,iD 60],[(0,⟨0,none,.arr 9 false []⟩)]))/\(Lib.validD s=true-> ∀o:List (List UInt8),o=JG s->ae (.cH [.sl 0 0 o.length,iD 0],[(0,⟨0,none,.arr 9 false (o.map D.str)⟩)]))
def Df:bg:=λps R ae=> ∃s,ps=[sD s]/\R=[]/\s.length<=2000000/\(Lib.validD s=false->ae (.cH [iD 0,iD 60],[]))/\(Lib.validD s=true-> ∀n,n=BU s->ae (.cH [iD n,iD 0],[]))
theorem qi9(s:List UInt8)(ae:P×List (Nat×En)->Prop):(∃(gR:List UInt8),Z44 s=Z44 gR/\JF gR/\Z46 gR ae/\(UB gR-> ∀(o:List (List UInt8)),o=JG gR->Z49 ae o))=(aJ [] [(2,ah (aK 144 2) qfJ)] 144 [sD s] []) ae:=by kernel_rfl
theorem qja(s:List UInt8)(ae:P×List (Nat×En)->Prop):(∃(gR:List UInt8),ug s=ug gR/\Zo/\JF gR/\(UC gR->ae (P.cH (P.d Z7::Z3B),[]))/\(UB gR-> ∀(o:List (List UInt8)),o=JG gR->Z4a ae o))=(aJ [(144,uC)] [] 142 [sD s] []) ae:=by kernel_rfl
section
variable{X:XF}
theorem qbv:LD X 144 2 (ah (aK 144 2) qfJ):=LD.par (H:=[(168,Lk)]) (hk:=[]) (by kernel_rfl) (by kernel_rfl) (.cons qbs .nil) .nil
 (A:=List UInt8) (B:=List UInt8×List (List UInt8)) (λ_ b=>rsH b.1 b.2)
 (λa b=>a.length<=2000000/\b.1.length+b.2.length<=a.length/\Lib.validD b.1=Lib.validD a/\b.2++JG b.1=JG a)
 (λ_ b=>b.1.length)
 (λa x=>(Lib.validD a=false/\ ∃o:List (List UInt8),x=(.ret,⟨29,[(2,.sl 0 0 0),(3,iD 60),(4,.sl 1 0 o.length)],[(0,⟨0,none,.arr 9 false []⟩),(1,⟨0,none,.arr 9 false (o.map D.str)⟩)]⟩))\/(Lib.validD a=true/\ ∃o:List (List UInt8),o=JG a/\x=(.exit 0,⟨29,[(4,.sl 0 0 o.length)],[(0,⟨0,none,.arr 9 false (o.map D.str)⟩)]⟩)))
 (by
  rintro a ⟨s,o⟩ ⟨ha,hl,hv,hpc⟩;dsimp only at*
  (rw[<-qi7];delta UA Zt Z4c q9 NC Z43 ZY JF Zo ug EI)
  refine bf (λh=> ?_) λh=> ?_
  ·have dQ:s≠[]:=λe=>by subst e;simp at h
   have jv:=Lib.validD_step s dQ;refine⟨s,rfl,rfl,⟨dQ,by omega⟩,λhb c n=> .inl ⟨?_,o,rfl⟩,λhb c n hn h1 hle=> ?_⟩
   ·unfold Lj at hb;rw[<-hv,jv,zap hb]
   unfold Lj at hb;rw[zan hb] at jv;refine bm (by omega) (aq (qiB (by simp;omega) (by simp;omega) _ (by simp)) (bm (by omega) ?_));refine⟨_,?_,(s.drop n.toNat,o++[s.take n.toNat]),?_,⟨ha,?_,?_,?_⟩,rfl⟩
   ·dsimp only;rw[zbe];omega
   ·rw[zaj,zal (l:=List.map D.str o) (by simp),zb5];simp only[rsH,zau,zbg,zdd,zah,zao,zat]
   ·dsimp only;rw[zbe,zah];simp;omega
   ·dsimp only;rw[<-hv,jv,hn];rfl
   dsimp only;rw[<-hpc,Iv dQ,zaM,hn];rfl
  have:s=[]:=zaA (by omega);subst this;exact .inr ⟨hv.symm.trans Lib.validD_nil,o,by rw[<-hpc,qbt,zaV],rfl⟩)
 (by
  rintro st ae ⟨s,rfl,hs,h1,h2⟩;refine⟨s,(s,[]),rfl,⟨hs,by simp,rfl,rfl⟩,?_⟩;rintro x (⟨h3,o,rfl⟩| ⟨h3,o,h4,rfl⟩)
  ·exact h1 h3 o
  exact h2 h3 o h4)
theorem Iw:FD X 144 uC:=FD.mk (H:=[]) (hk:=[(2,ah (aK 144 2) qfJ)]) (by kernel_rfl) .nil (.cons qbv .nil) (by
 intro ps R ae hh;obtain⟨s,rfl,rfl,hs,h1,h2⟩:=hh
 (rw[<-qi9];delta UA Z7 rA Z49 UB Z43 Z3B ZY UC Z46 q9 JF Z44)
 exact⟨s,rfl,hs,λh o=>h1 h,λh o=>h2 h o⟩)
theorem qbw:FD X 142 Df:=FD.mk (H:=[(144,uC)]) (hk:=[]) (by kernel_rfl) (.cons Iw .nil) .nil (by
 intro ps R ae hh;obtain⟨s,rfl,rfl,hs,h1,h2⟩:=hh
 (rw[<-qja];delta Z7 rA Z4a UB Z3B UC q9 JF Zo ug)
 refine⟨s,rfl,rfl,hs,λh=>h1 h,λh o ho=>h2 h _ ?_⟩;rw[ho,Al])
theorem qfK:FD X 115 Df:=FD.mk (H:=[(148,Lh),(149,Li)]) (hk:=[]) (by kernel_rfl) (.cons qbp (.cons qbq .nil)) .nil (by
 intro ps R ae hh;obtain⟨s,rfl,rfl,hs,h1,h2⟩:=hh
 (rw[<-qi5];delta Z7 rA Z3B q9 JF Zo ug)
 refine⟨s,rfl,rfl,hs,aA (λh=>h1 (by simpa using h)) λh=>⟨s,rfl,rfl,hs,h2 (by simpa using h) _ rfl⟩⟩)
end
def vP{α:Type}(t:α->Bool)(l:List α):Int:=match l.findIdx? t with |some i=>(i:Int)|none=> -1
theorem Ix{α:Type}{t:α->Bool}{l:List α}{i:Nat}(hi:i<l.length)(ht:t l[i]=true)(hb: ∀j (hj:j<i),t (l[j]'(by omega))=false):vP t l=(i:Int):=by unfold vP;rw[zbP.2 ⟨hi,ht,λj hj=>by rw[hb j hj];simp⟩]
theorem NF{α:Type}{t:α->Bool}{l:List α}(h: ∀j (hj:j<l.length),t l[j]=false):vP t l= -1:=by unfold vP;rw[zb7.2 λx hx=>by obtain⟨j,hj,rfl⟩:=zaT hx;exact h j hj]
theorem Am{α:Type}(t:α->Bool)(l:List α):vP t l<0↔l.any t=false:=by
 unfold vP;split
 next i h=>
  obtain⟨hi,ht,_⟩:=zbP.1 h;constructor
  ·intro h;omega
  intro h2;rw[zcF] at h2;exact absurd ht (h2 _ (zaq hi))
 rename_i h;refine⟨λ_=> ?_,λ_=>by omega⟩;rw[zcF];intro x hx;have:=(zb7.1 h) x hx;simp[this]
variable{X:XF}
theorem LD.idx{H:List (FuncId×bg)}{hk:List (Nat×(S->K (PX×S)))}{f id:Nat}{g:S->K (PX×S)}(hu:uniq PR f=true)(hc:cc (q8 f) (bw PR f id)=true)(hH:HD X H)(hl:Tc X f hk)
  {A B:Type} (hd:A->B->Int->S) (len:A->Nat) (Inv:A->Nat->B->Prop) (Out:A->PX×S->Prop)
  (hr: ∀a b (k:Int) ae,0<=k->k<len a->k.toNat<len a->Inv a k.toNat b->(∀b',Inv a (k.toNat+1) b'->ae (.normal,hd a b' (k+1)))->(∀x,x.1≠ .normal->Out a x->ae x)->aD H hk f id (hd a b k) ae)
  (hx: ∀a b (k:Int) ae,k=len a->Inv a (len a) b->(∀x,x.1≠ .normal->Out a x->ae x)->aD H hk f id (hd a b k) ae)
  (hg: ∀s ae,g s ae-> ∃a b,s=hd a b 0/\Inv a 0 b/\ ∀x,Out a x->ae x):LD X f id (ah (aK f id) g):=
 LD.par hu hc hH hl (A:=A) (B:=B×Int) (λa b=>hd a b.1 b.2) (λa b=>0<=b.2/\b.2.toNat<=len a/\Inv a b.2.toNat b.1) (λa b=>(len a-b.2).toNat) Out
  (by
   rintro a ⟨b,k⟩ ⟨h1,h2,h3⟩;dsimp only at*
   have aT: ∀x:PX×S,x.1≠ .normal->Out a x->roundPost ((len a-k).toNat) (λm s=> ∃b':B×Int,s=hd a b'.1 b'.2/\(0<=b'.2/\b'.2.toNat<=len a/\Inv a b'.2.toNat b'.1)/\m=(len a-b'.2).toNat) (Out a) x:=by
    rintro⟨e,s⟩ dQ hx;cases e with
    |normal=>exact absurd rfl dQ
    |exit i=>exact hx
    |ret=>exact hx
   by_cases hk:k<len a
   ·refine hr a b k _ h1 hk (by omega) h3 (λb' hb=> ?_) aT;exact⟨((len a:Int)-(k+1)).toNat,by omega,(b',k+1),rfl,⟨by show 0<=k+1;omega,by show(k+1).toNat<=len a;omega,by show Inv a (k+1).toNat b';rw[show(k+1).toNat=k.toNat+1 by omega];exact hb⟩,rfl⟩
   have e:k=len a:=by omega
   refine hx a b k _ e ?_ aT;have:k.toNat=len a:=by omega
   rwa [this] at h3)
  (by intro s ae hp;obtain⟨a,b,h1,h2,h3⟩:=hg s ae hp;exact⟨a,(b,0),h1,⟨zbF _,by simp,h2⟩,h3⟩)
theorem LD.find{H:List (FuncId×bg)}{hk:List (Nat×(S->K (PX×S)))}{f id:Nat}{g:S->K (PX×S)}(hu:uniq PR f=true)(hc:cc (q8 f) (bw PR f id)=true)(hH:HD X H)(hl:Tc X f hk)
  {A α:Type} (hd:A->Int->S) (pN:A->List α) (t:A->Nat->α->Bool) (C:A->Prop) (rt:A->Int->PX×S) (ex:A->PX×S) (qlq: ∀a k,(rt a k).1≠ .normal) (qlr: ∀a,(ex a).1≠ .normal)
  (hr: ∀a (k:Int) ae (du:k.toNat<(pN a).length),C a->0<=k->k<(pN a).length->(t a k.toNat (pN a)[k.toNat]=true->ae (rt a k))->(t a k.toNat (pN a)[k.toNat]=false->ae (.normal,hd a (k+1)))->aD H hk f id (hd a k) ae)
  (hx: ∀a (k:Int) ae,C a->k=(pN a).length->ae (ex a)->aD H hk f id (hd a k) ae)
  (hg: ∀s ae,g s ae-> ∃a,s=hd a 0/\C a/\(∀(i:Int) (hi:i.toNat<(pN a).length),0<=i->t a i.toNat (pN a)[i.toNat]=true->(∀j (hj:j<i.toNat),t a j ((pN a)[j]'(by omega))=false)->ae (rt a i))/\((∀j (hj:j<(pN a).length),t a j (pN a)[j]=false)->ae (ex a))):LD X f id (ah (aK f id) g):=
 LD.idx hu hc hH hl (A:=A) (B:=Unit) (λa _ k=>hd a k) (λa=>(pN a).length) (λa k _=>C a/\ ∀j (hj:j<(pN a).length),j<k->t a j (pN a)[j]=false)
  (λa x=>(∃(i:Int) (hi:i.toNat<(pN a).length),0<=i/\t a i.toNat (pN a)[i.toNat]=true/\(∀j (hj:j<i.toNat),t a j ((pN a)[j]'(by omega))=false)/\x=rt a i)\/((∀j (hj:j<(pN a).length),t a j (pN a)[j]=false)/\x=ex a))
  (by
   intro a _ k ae h0 hk du ⟨hC,hI⟩ hn ho;refine hr a k ae du hC h0 hk (λht=>ho _ (qlq a k) (.inl ⟨k,du,h0,ht,λj hj=>hI j (by omega) hj,rfl⟩)) λht=>hn () ⟨hC,λj hj hjk=> ?_⟩;by_cases e:j=k.toNat
   ·subst e;exact ht
   exact hI j hj (by omega))
  (by intro a _ k ae hk ⟨hC,hI⟩ ho;exact hx a k ae hC hk (ho _ (qlr a) (.inr ⟨λj hj=>hI j hj hj,rfl⟩)))
  (by
   intro s ae hp;obtain⟨a,h1,h2,h3,h4⟩:=hg s ae hp;refine⟨a,(),h1,⟨h2,λj _ hj=>by omega⟩,?_⟩;rintro x (⟨i,hi,g1,g2,g3,rfl⟩| ⟨g1,rfl⟩)
   ·exact h3 i hi g1 g2 g3
   exact h4 g1)
abbrev iE(n:Int):D:= .int .i64 n
def bh(s:ay):D:= .agg [iE s.1,iE s.2]
def dC(o:bc):D:= .agg [iE o.kind,iE o.node.1,iE o.node.2.1,iE o.node.2.2,iE o.parent.1,iE o.parent.2.1,iE o.parent.2.2,.str o.name,.bool o.dir,.sl 2 (o.cp.map bh),
 iE o.after.1,iE o.after.2.1,iE o.after.2.2,iE o.elem.1,iE o.elem.2.1,iE o.elem.2.2,.str o.text,.sl 3 (o.elems.map bV)]
def aR(g:ak):D:= .agg [iE g.s.1,iE g.s.2,iE g.n,.sl 1 (aY g.deps),iE g.bs.1,iE g.bs.2,.sl 18 (g.ops.map dC)]
abbrev bp(l:List ak):P:= .d (.sl 7 (l.map aR))
abbrev qfL(l:List bc):P:= .d (.sl 18 (l.map dC))
abbrev eS(l:List ay):P:= .d (.sl 2 (l.map bh))
structure PL(a b:ay)(c:Int):Prop where
 lt:c<0↔jP a b=true
 gt:c>0↔jP b a=true
structure NG(a b:av)(c:Int):Prop where
 lt:c<0↔mh a b=true
 gt:c>0↔mh b a=true
def An:bg:=λps R ae=> ∃a b,ps=[.d (bh a),.d (bh b)]/\R=[]/\ ∀c,PL a b c->ae (iD c,[])
def ri:bg:=λps R ae=> ∃x y,ps=[.d (bV x),.d (bV y)]/\R=[]/\ ∀c,NG x y c->ae (iD c,[])
def xu:bg:=λps R ae=> ∃s,ps=[.d (bh s)]/\R=[]/\ ∀b,b=EK s->ae (kM b,[])
def PN:bg:=λps R ae=> ∃x,ps=[.d (bV x)]/\R=[]/\ ∀b,b=rgX x->ae (kM b,[])
def qJ:bg:=λps R ae=> ∃a b,ps=[.d (bh a),.d (bh b)]/\R=[]/\ ∀r,r=jP a b->ae (kM r,[])
abbrev ckB(g:ak)(k:Int):Obj:= .box 149 [iD g.s.1,iD g.s.2,iD g.n,.d (.sl 1 (aY g.deps)),iD g.bs.1,iD g.bs.2,qfL g.ops,iD k]
abbrev wY(g:ak)(k:Int):List (Nat×En):=[(0,⟨0,some 0,ckB g k⟩)]
theorem qjb(s:ay)(ae:P×List (Nat×En)->Prop):(bif decide (Prod.fst s>=(1:Int)) then bif decide (Prod.fst s<=Z1) then bif decide (Prod.snd s>=(1:Int)) then ae (P.d (D.bool (decide (Prod.snd s<=(16:Int)))),[]) else Z4 ae else Z4 ae else Z4 ae)=(aJ [] [] 82 [.d (bh s)] []) ae:=by kernel_rfl
theorem qfM(s:ay)(ae:P×List (Nat×En)->Prop):(bif decide (Prod.fst s>=(1:Int)) then bif decide (Prod.fst s<=Z1) then bif decide (Prod.snd s>=(1:Int)) then ae (P.d (D.bool (decide (Prod.snd s<=(16:Int)))),[]) else Z4 ae else Z4 ae else Z4 ae)=(aJ [] [] 104 [.d (bh s)] []) ae:=by kernel_rfl
def pX(g:ak):P:=P.d (D.sl 18 (List.map dC (ak.ops g)))
def kz(g:ak):D:=D.int .i64 (Prod.snd (ak.bs g))
def kA(g:ak):D:=D.int .i64 (Prod.fst (ak.bs g))
def iO(g:ak):D:=D.sl 1 (aY (ak.deps g))
def kB(g:ak):D:=D.int .i64 (ak.n g)
def kg(g:ak):Int:=Prod.snd (ak.s g)
def gY(g:ak):D:=D.int .i64 (kg g)
def kh(g:ak):Int:=Prod.fst (ak.s g)
def iy(g:ak):D:=D.int .i64 (kh g)
def PO(g:ak)(k:Int):Obj:=Obj.box (149:TypeId) (P.d (iy g)::P.d (gY g)::P.d (kB g)::P.d (iO g)::P.d (kA g)::P.d (kz g)::pX g::Zn k)
def iB(g:ak)(k:Int):List (Nat×En):=[(0,En.mk 0 (some 0) (PO g k))]
def Lm(ae:P×List (Nat×En)->Prop)(g:ak)(k:Int):Prop:=ae (P.d Z3,iB g k)
def Z4u(x:av)(g:ak):Bool:=Prod.fst x==kh g&&(e7 x==kg g&&true)
def iP(a:ay):D:=D.int .i64 (Prod.snd a)
def iQ(a:ay):D:=D.int .i64 (Prod.fst a)
def nb(a:ay):P:=P.d (D.agg [iQ a,iP a])
def jy(b:ay):List P:=[nb b]
def PQ(g:ak):P:=P.d (D.agg [iy g,gY g])
def Ln(g:ak):List P:=[PQ g]
theorem qbx(g:ak)(k:Int)(x:av)(ae:P×List (Nat×En)->Prop):(∃(aX:av),e8 x=e8 aX/\Zo/\ ∀(b:Bool),b=rgX aX->bif b then∃(a:ay) (b:ay),P.d (D.agg [eO x,eN x])::Ln g=nb a::jy b/\Zo/\ ∀(c:Int),PL a b c->bif Yk c then ae (ZW,iB g k) else bif Z4u x g then ae (P.d (D.bool (decide (eX x<k))),iB g k) else Lm ae g k else Lm ae g k)=(aJ [(147,PN),(66,An)] [] 113 [.ref 0 0 0,.d (bV x)] (wY g k)) ae:=by kernel_rfl
def sS:bg:=λps R ae=> ∃g k x,ps=[.ref 0 0 0,.d (bV x)]/\R=wY g k/\ ∀b,b=cZ g.s k x->ae (kM b,wY g k)
def A0(b:Bool)(bq:ak)(bX:Int)(aX:av):Prop:=b=cZ (ak.s bq) bX aX
def Z4y(x:av):Bool:=Prod.fst x==(0:Int)&&(e7 x==(0:Int)&&true)&&(eX x==(0:Int)&&true)
theorem UE(g:ak)(k:Int)(x:av)(ae:P×List (Nat×En)->Prop):(bif Z4y x then ae (ZW,iB g k) else∃(bq:ak) (bX:Int) (aX:av),bP::e8 x=bP::e8 aX/\iB g k=iB bq bX/\ ∀(b:Bool),A0 b bq bX aX->ae (dV b,iB bq bX))=(aJ [(113,sS)] [] 111 [.ref 0 0 0,.d (bV x)] (wY g k)) ae:=by kernel_rfl
def EZ:bg:=λps R ae=> ∃g k x,ps=[.ref 0 0 0,.d (bV x)]/\R=wY g k/\ ∀b,b=mj g.s k x->ae (kM b,wY g k)
def plainO(o:bc):bc:=
 if o.kind=0 then⟨o.kind,o.node,o.parent,o.name,o.dir,[],aB,aB,[],[]⟩
 else if o.kind=1 then⟨o.kind,o.node,o.parent,o.name,false,[],aB,aB,[],[]⟩
 else if o.kind=2 then⟨o.kind,o.node,aB,[],false,o.cp,aB,aB,[],[]⟩
 else if o.kind=3 then⟨o.kind,o.node,aB,[],false,[],o.after,o.elem,o.text,[]⟩
 else if o.kind=4 then⟨o.kind,o.node,aB,[],false,[],aB,aB,[],o.elems⟩
 else⟨o.kind,o.node,aB,[],false,[],aB,aB,[],[]⟩
def E0:bg:=λps R ae=> ∃o,ps=[.d (dC o)]/\R=[]/\ ∀p,p=plainO o->ae (.d (dC p),[])
def UF(o:bc):List D:=[D.sl 3 (List.map bV (bc.elems o))]
def Z4L:List D:=[D.sl 3 []]
def xv(o:bc):Int:=Prod.snd (Prod.snd (bc.elem o))
def xw(o:bc):Int:=Prod.fst (Prod.snd (bc.elem o))
def xx(o:bc):Int:=Prod.fst (bc.elem o)
def A1(o:bc):Int:=Prod.snd (Prod.snd (bc.after o))
def BY(o:bc):D:=D.int .i64 (A1 o)
def A2(o:bc):Int:=Prod.fst (Prod.snd (bc.after o))
def BZ(o:bc):D:=D.int .i64 (A2 o)
def B0(o:bc):D:=D.int .i64 (Prod.fst (bc.after o))
def yf(o:bc):D:=D.sl 2 (List.map bh (bc.cp o))
def Yr:List D:=Z7::Z7::Z7::Z7::Z7::Z7::vJ::Z4L
def Q5:D:=D.sl 2 []
def Z4N:List D:=Z3::Q5::Yr
def A3(o:bc):Int:=Prod.snd (Prod.snd (bc.parent o))
def A4(o:bc):D:=D.int .i64 (A3 o)
def A5(o:bc):Int:=Prod.fst (Prod.snd (bc.parent o))
def A6(o:bc):D:=D.int .i64 (A5 o)
def A7(o:bc):D:=D.int .i64 (Prod.fst (bc.parent o))
def vQ(o:bc):D:=D.int .i64 (Prod.snd (Prod.snd (bc.node o)))
def vR(o:bc):D:=D.int .i64 (Prod.fst (Prod.snd (bc.node o)))
def vS(o:bc):D:=D.int .i64 (Prod.fst (bc.node o))
def xy(o:bc):D:=D.int .i64 (bc.kind o)
theorem UG(o:bc)(ae:P×List (Nat×En)->Prop):(bif bc.kind o==(0:Int) then ae (P.d (D.agg (xy o::vS o::vR o::vQ o::A7 o::A6 o::A4 o::D.str (bc.name o)::D.bool (bc.dir o)::Q5::Yr)),[]) else bif bc.kind o==(1:Int) then ae (P.d (D.agg (xy o::vS o::vR o::vQ o::A7 o::A6 o::A4 o::D.str (bc.name o)::Z4N)),[]) else bif bc.kind o==(2:Int) then ae (P.d (D.agg (xy o::vS o::vR o::vQ o::Z7::Z7::Z7::vJ::Z3::yf o::Yr)),[]) else bif bc.kind o==(3:Int) then ae (P.d (D.agg (xy o::vS o::vR o::vQ o::Z7::Z7::Z7::vJ::Z3::Q5::B0 o::BZ o::BY o::D.int .i64 (xx o)::D.int .i64 (xw o)::D.int .i64 (xv o)::D.str (bc.text o)::Z4L)),[]) else bif bc.kind o==(4:Int) then ae (P.d (D.agg (xy o::vS o::vR o::vQ o::Z7::Z7::Z7::vJ::Z3::Q5::Z7::Z7::Z7::Z7::Z7::Z7::vJ::UF o)),[]) else ae (P.d (D.agg (xy o::vS o::vR o::vQ o::Z7::Z7::Z7::vJ::Z4N)),[]))=(aJ [] [] 145 [.d (dC o)] []) ae:=by kernel_rfl
def Z51(p:bc):Int:=(↑(List.length (List.map bV (bc.elems p))):Int)
def Iy(p:bc):Int:=(↑(List.length (List.map bh (bc.cp p))):Int)
def E1(aU:bc):D:=D.agg (xy aU::vS aU::vR aU::vQ aU::A7 aU::A6 aU::A4 aU::D.str (bc.name aU)::D.bool (bc.dir aU)::yf aU::B0 aU::BZ aU::BY aU::D.int .i64 (xx aU)::D.int .i64 (xw aU)::D.int .i64 (xv aU)::D.str (bc.text aU)::UF aU)
def Z4Z(aU:bc):List P:=[P.d (E1 aU)]
theorem qfN(o:bc)(ae:P×List (Nat×En)->Prop):(∃(aU:bc),Z4Z o=Z4Z aU/\Zo/\ ∀(p:bc),p=plainO aU->bif Prod.fst (bc.parent p)==Prod.fst (bc.parent o)&&(A5 p==A5 o&&true)&&(A3 p==A3 o&&true) then bif bc.name p==bc.name o then bif bc.dir p==bc.dir o then bif Prod.fst (bc.after p)==Prod.fst (bc.after o)&&(A2 p==A2 o&&true)&&(A1 p==A1 o&&true) then bif xx p==xx o&&(xw p==xw o&&true)&&(xv p==xv o&&true) then bif bc.text p==bc.text o then bif Iy p==Iy o then ae (P.d (D.bool (Z51 p==Z51 o)),[]) else Z4 ae else Z4 ae else Z4 ae else Z4 ae else Z4 ae else Z4 ae else Z4 ae)=(aJ [(145,E0)] [] 109 [.d (dC o)] []) ae:=by kernel_rfl
def Lo:bg:=λps R ae=> ∃o,ps=[.d (dC o)]/\R=[]/\ ∀b,b=fE o->ae (kM b,[])
abbrev dtH(g:ak)(k:Int)(l:List ay)(i:Int):S:=⟨45,[(0,.ref 0 0 0),(1,eS l),(7,eS l),(8,iD ((l.map bh).length:Int)),(9,iD i)],wY g k⟩
def dq(l:List ay):List D:=List.map bh l
def kC(l:List ay):P:=P.d (D.sl 2 (dq l))
def rj(l:List ay):Nat×P:=(1,kC l)
def u5:Nat×P:=(0,bP)
def B1(l:List ay):Int:=(↑(List.length (dq l)):Int)
def Z5d(i:Int)(ae:PX×S->Prop)(l:List ay)(g:ak)(k:Int):Prop:=ob (Zw i) (ae (PX.normal,S.mk 45 (u5::rj l::(7,kC l)::(8,P.d (D.int .i64 (B1 l)))::ZQ i) (iB g k)))
def Z5e(l:List ay)(i:Int):List D:=[D.int .i64 (D.aj (D.ar (D.nth (dq l) (Zc i)) 0)),D.int .i64 (D.aj (D.ar (D.nth (dq l) (Zc i)) 1))]
noncomputable def Z5c(l:List ay)(i:Int):Bool:=cw PR (30:TypeId) (D.nth (dq l) (Zc i))
def Iz(l:List ay)(i:Int):Int:=D.aj (D.ar (D.nth (dq l) (Zt i)) 1)
def F5(l:List ay)(i:Int):Int:=D.aj (D.ar (D.nth (dq l) (Zt i)) 0)
def IA(l:List ay)(i:Int):List D:=[D.int .i64 (F5 l i),D.int .i64 (Iz l i)]
def Z5b(ae:PX×S->Prop)(l:List ay)(g:ak)(k:Int):Prop:=ae (PX.ret,S.mk 45 (u5::rj l::Zv) (iB g k))
def lX(b:Bool):Bool:= !b
def Z5i(l:List ay)(i:Int):List P:=[P.d (D.agg (IA l i))]
noncomputable def u7(l:List ay)(i:Int):Bool:=cw PR (30:TypeId) (D.nth (dq l) (Zt i))
def NH(i:Int)(l:List ay):Bool:=decide ((0:Int)<=i/\i<B1 l)
def Q6(i:Int)(l:List ay):Bool:=decide (i<B1 l)
theorem NI(g:ak)(k:Int)(l:List ay)(i:Int)(ae:PX×S->Prop):(bif Q6 i l then ob (NH i l) (ob (u7 l i) (∃(s:ay),Z5i l i=jy s/\Zo/\ ∀(b:Bool),b=EK s->bif lX b then Z5b ae l g k else∃(a:ay) (b:ay),P.d (D.agg (IA l i))::Ln g=nb a::jy b/\Zo/\ ∀(c:Int),PL a b c->bif ZF c then Z5b ae l g k else bif ZF i then ob (Zb i) (ob (decide ((0:Int)<=i-(1:Int)/\i-(1:Int)<B1 l)) (ob (Z5c l i) (∃(a:ay) (b:ay),P.d (D.agg (Z5e l i))::Z5i l i=nb a::jy b/\Zo/\ ∀(c:Int),PL a b c->bif Z2 c then Z5b ae l g k else Z5d i ae l g k))) else Z5d i ae l g k)) else ae (PX.exit 0,S.mk 45 [u5,rj l] (iB g k)))=(aD [(82,xu),(66,An)] [] 114 2 (dtH g k l i)) ae:=by kernel_rfl
abbrev elH(g:ak)(k:Int)(l:List av)(i:Int):S:=⟨41,[(0,.ref 0 0 0),(1,cI l),(7,cI l),(8,iD ((l.map bV).length:Int)),(9,iD i)],wY g k⟩
def Z5k(i:Int)(ae:PX×S->Prop)(l:List av)(bq:ak)(bX:Int):Prop:=ob (Zw i) (ae (PX.normal,S.mk 41 (u5::oo l::(7,gJ l)::(8,P.d (D.int .i64 (wW l)))::ZQ i) (iB bq bX)))
def Q7(l:List av)(i:Int):List D:=[D.int .i64 (FV l i),D.int .i64 (FU l i),D.int .i64 (FT l i)]
def Z5l(l:List av)(i:Int):List D:=[D.int .i64 (D.aj (D.ar (D.nth (fg l) (Zc i)) 0)),D.int .i64 (D.aj (D.ar (D.nth (fg l) (Zc i)) 1)),D.int .i64 (D.aj (D.ar (D.nth (fg l) (Zc i)) 2))]
def Z5n(l:List av)(i:Int):List P:=[P.d (D.agg (Z5l l i)),P.d (D.agg (Q7 l i))]
noncomputable def Q8(l:List av)(i:Int):Bool:=cw PR (50:TypeId) (D.nth (fg l) (Zc i))
theorem IB(g:ak)(k:Int)(l:List av)(i:Int)(ae:PX×S->Prop):(bif QU i l then ob (Jz i l) (ob (vN l i) (∃(bq:ak) (bX:Int) (x:av),[bP,P.d (D.agg (Q7 l i))]=bP::e8 x/\iB g k=iB bq bX/\ ∀(b:Bool),A0 b bq bX x->bif lX b then ae (PX.ret,S.mk 41 (u5::oo l::Zv) (iB bq bX)) else bif ZF i then ob (Zb i) (ob (decide ((0:Int)<=i-(1:Int)/\i-(1:Int)<wW l)) (ob (Q8 l i) (∃(x:av) (y:av),Z5n l i=l9 x::e8 y/\Zo/\ ∀(c:Int),NG x y c->bif Z2 c then ae (PX.ret,S.mk 41 (u5::oo l::Zv) (iB bq bX)) else Z5k i ae l bq bX))) else Z5k i ae l bq bX)) else ae (PX.exit 0,S.mk 41 [u5,oo l] (iB g k)))=(aD [(113,sS),(150,ri)] [] 116 2 (elH g k l i)) ae:=by kernel_rfl
end Pi
