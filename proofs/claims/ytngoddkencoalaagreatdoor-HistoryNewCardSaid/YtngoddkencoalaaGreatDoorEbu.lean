/- The texts X3Shelf XBld K3 X3 S3 StPure St1 St1H StV2 StV2H StV3H StV4 StV4H St5 St5H StTextP St7 St7H PathP StL2H P1 P1H P3 P3H A2 A2H A3 A4 A4H B1 B2H T1 T1H T2 T2H T3 TrA TrB WiP WiU Wi0 Wi0H LdP Wi1 Wi1H Wi2 Wi2H Wi3 Wi3H Wi4 Wi4H EfP HiP SN SoP Hi1 QP Hi1H SR LnP InsP Ef1 Ef1H. -/
import Derived.Test.YtngoddkencoalaaGreatDoorPiYr
import Derived.Shelf.SlLaysF0
import Derived.Shelf.LaysM
import Derived.Shelf.LaysC
import Derived.Shelf.Strings.OnBuilder
import Derived.Shelf.Strings.SlTrimAscii
import Derived.Shelf.Small.Wraps
import Derived.Shelf.Strconv.AtoiAll
import Derived.Shelf.Strconv.Itoa3
import Derived.Shelf.Strings.Cut
import Derived.Shelf.Strings.Split
import Derived.Shelf.Strings.LastIndexAll
import Derived.Shelf.Unicode.ValidAny
import Derived.Shelf.Utf8.RuneCount
import Derived.Test.YtngoddkencoalaaGreatDoorProg
import Derived.Ground.SlsfProg
import Derived.KernelRfl
import Derived.Lib.SplitLaws
import Derived.Lib.SlTrimSet
import Derived.Lib.ValidLaws
import Derived.Lib.RuneCountTail
import Derived.Lib.MapLaws
namespace Go.Proofs
open Go.Shelf
def Tryz.Fy:Go.Shelf.Ren:=⟨λ|160=>146 |232=>170 |231=>169 |227=>171 |234=>173 |233=>172 |236=>175 |235=>174 |228=>182 |271=>185 |151=>184 |197=>183 |120=>190 |152=>189 |260=>188 |137=>191 |119=>192 |224=>193 |225=>194 |217=>195 |266=>196 |n=>n,λ|9=>9 |4=>4 |3=>3 |5=>5 |117=>237 |116=>236 |0=>0 |124=>240 |21=>21 |105=>253 |46=>172 |119=>242 |139=>245 |138=>244 |n=>n,λ|3=>0 |4=>1 |n=>n⟩
theorem Tryz.KH:Go.Proofs.Lays.n160 Tryz.prog Tryz.Fy:={
 mixed:=by kernel_rfl
 f119:=Tryz.func192.trans (congrArg some (by kernel_rfl))
 f120:=Tryz.func190.trans (congrArg some (by kernel_rfl))
 f137:=Tryz.func191.trans (congrArg some (by kernel_rfl))
 f151:=Tryz.func184.trans (congrArg some (by kernel_rfl))
 f152:=Tryz.func189.trans (congrArg some (by kernel_rfl))
 f160:=Tryz.func146.trans (congrArg some (by kernel_rfl))
 f197:=Tryz.func183.trans (congrArg some (by kernel_rfl))
 f217:=Tryz.func195.trans (congrArg some (by kernel_rfl))
 f224:=Tryz.func193.trans (congrArg some (by kernel_rfl))
 f225:=Tryz.func194.trans (congrArg some (by kernel_rfl))
 f227:=Tryz.func171.trans (congrArg some (by kernel_rfl))
 f228:=Tryz.func182.trans (congrArg some (by kernel_rfl))
 f231:=Tryz.func169.trans (congrArg some (by kernel_rfl))
 f232:=Tryz.func170.trans (congrArg some (by kernel_rfl))
 f233:=Tryz.func172.trans (congrArg some (by kernel_rfl))
 f234:=Tryz.func173.trans (congrArg some (by kernel_rfl))
 f235:=Tryz.func174.trans (congrArg some (by kernel_rfl))
 f236:=Tryz.func175.trans (congrArg some (by kernel_rfl))
 f260:=Tryz.func188.trans (congrArg some (by kernel_rfl))
 f266:=Tryz.func196.trans (congrArg some (by kernel_rfl))
 f271:=Tryz.func185.trans (congrArg some (by kernel_rfl))
 t0:=Tryz.underlying0
 a0:=Tryz.isAgg0
 z0:=Tryz.sizeOf0
 v0:=Tryz.zeroValue0
 t3:=Tryz.underlying3
 a3:=Tryz.isAgg3
 z3:=Tryz.sizeOf3
 v3:=Tryz.zeroValue3
 t4:=Tryz.underlying4
 a4:=Tryz.isAgg4
 z4:=Tryz.sizeOf4
 v4:=Tryz.zeroValue4
 t5:=Tryz.underlying5
 a5:=Tryz.isAgg5
 z5:=Tryz.sizeOf5
 v5:=Tryz.zeroValue5
 t9:=Tryz.underlying9
 a9:=Tryz.isAgg9
 z9:=Tryz.sizeOf9
 v9:=Tryz.zeroValue9
 t21:=Tryz.underlying21
 a21:=Tryz.isAgg21
 z21:=Tryz.sizeOf21
 v21:=Tryz.zeroValue21
 t46:=Tryz.underlying172
 a46:=Tryz.isAgg172
 z46:=Tryz.sizeOf172
 v46:=Tryz.zeroValue172
 t105:=Tryz.underlying253
 a105:=Tryz.isAgg253
 z105:=Tryz.sizeOf253
 v105:=Tryz.zeroValue253
 t116:=Tryz.underlying236
 a116:=Tryz.isAgg236
 z116:=Tryz.sizeOf236
 t117:=Tryz.underlying237
 a117:=Tryz.isAgg237
 z117:=Tryz.sizeOf237
 v117:=Tryz.zeroValue237
 t119:=Tryz.underlying242
 a119:=Tryz.isAgg242
 z119:=Tryz.sizeOf242
 t124:=Tryz.underlying240
 a124:=Tryz.isAgg240
 z124:=Tryz.sizeOf240
 v124:=Tryz.zeroValue240
 t138:=Tryz.underlying244
 a138:=Tryz.isAgg244
 z138:=Tryz.sizeOf244
 v138:=Tryz.zeroValue244
 t139:=Tryz.underlying245
 a139:=Tryz.isAgg245
 z139:=Tryz.sizeOf245
 v139:=Tryz.zeroValue245
 g3:=by kernel_rfl
 g4:=by kernel_rfl}
open Go.RowKit in
theorem Tryz.strings_Trim_one(s:ByteArray)(c:UInt8)(hc:c.toNat<128)(w:World)(hs:s.size<=9223372036854775807):
 Calls Tryz.prog 146 #[.string s,.string ⟨#[c]⟩] w λe w'=>e= .returned (.string ⟨(Lib.trimB s.data.toList c).toArray⟩)/\(w'=w\/w'=w.drew):=Any.strings_Trim_one Tryz.KH s c hc w hs
def Tryz.Fz:Go.Shelf.Ren:=⟨λ|195=>149 |n=>n,λ|9=>9 |3=>3 |0=>0 |4=>4 |n=>n,λ|n=>n⟩
theorem Tryz.WK:Go.Proofs.Lays.n195 Tryz.prog Tryz.Fz:={
 mixed:=by kernel_rfl
 f195:=Tryz.func149.trans (congrArg some (by kernel_rfl))
 t0:=Tryz.underlying0
 a0:=Tryz.isAgg0
 z0:=Tryz.sizeOf0
 v0:=Tryz.zeroValue0
 t3:=Tryz.underlying3
 a3:=Tryz.isAgg3
 z3:=Tryz.sizeOf3
 v3:=Tryz.zeroValue3
 t4:=Tryz.underlying4
 a4:=Tryz.isAgg4
 z4:=Tryz.sizeOf4
 v4:=Tryz.zeroValue4
 t9:=Tryz.underlying9
 a9:=Tryz.isAgg9
 z9:=Tryz.sizeOf9
 v9:=Tryz.zeroValue9}
open Go.RowKit in
theorem Tryz.utf8_RuneCountInString(s:ByteArray)(w:World)(hs:s.size<9223372036854775807):
 Calls Tryz.prog 149 #[.string s] w λe w'=>e= .returned (.int .i64 (Lib.runeCount s))/\ ∃pos,w'=w.iter s pos:=Any.utf8_RuneCountInString Tryz.WK s w hs
def Tryz.FA:Go.Shelf.Ren:=⟨λ|196=>148 |259=>176 |n=>n,λ|9=>9 |4=>4 |3=>3 |5=>5 |12=>12 |119=>242 |0=>0 |46=>172 |139=>245 |138=>244 |53=>204 |n=>n,λ|3=>0 |4=>1 |n=>n⟩
theorem Tryz.WL:Go.Proofs.Lays.n196 Tryz.prog Tryz.FA:={
 mixed:=by kernel_rfl
 f196:=Tryz.func148.trans (congrArg some (by kernel_rfl))
 f259:=Tryz.func176.trans (congrArg some (by kernel_rfl))
 t0:=Tryz.underlying0
 a0:=Tryz.isAgg0
 z0:=Tryz.sizeOf0
 v0:=Tryz.zeroValue0
 t3:=Tryz.underlying3
 a3:=Tryz.isAgg3
 z3:=Tryz.sizeOf3
 v3:=Tryz.zeroValue3
 t4:=Tryz.underlying4
 a4:=Tryz.isAgg4
 z4:=Tryz.sizeOf4
 v4:=Tryz.zeroValue4
 t5:=Tryz.underlying5
 a5:=Tryz.isAgg5
 z5:=Tryz.sizeOf5
 v5:=Tryz.zeroValue5
 t9:=Tryz.underlying9
 a9:=Tryz.isAgg9
 z9:=Tryz.sizeOf9
 v9:=Tryz.zeroValue9
 t12:=Tryz.underlying12
 a12:=Tryz.isAgg12
 z12:=Tryz.sizeOf12
 v12:=Tryz.zeroValue12
 t46:=Tryz.underlying172
 a46:=Tryz.isAgg172
 z46:=Tryz.sizeOf172
 v46:=Tryz.zeroValue172
 t53:=Tryz.underlying204
 a53:=Tryz.isAgg204
 z53:=Tryz.sizeOf204
 v53:=Tryz.zeroValue204
 t119:=Tryz.underlying242
 a119:=Tryz.isAgg242
 z119:=Tryz.sizeOf242
 t138:=Tryz.underlying244
 a138:=Tryz.isAgg244
 z138:=Tryz.sizeOf244
 v138:=Tryz.zeroValue244
 t139:=Tryz.underlying245
 a139:=Tryz.isAgg245
 z139:=Tryz.sizeOf245
 v139:=Tryz.zeroValue245
 g3:=by kernel_rfl
 g4:=by kernel_rfl}
open Go.RowKit in
theorem Tryz.utf8_ValidString(s:ByteArray)(w:World)(hs:s.size<=9223372036854775807)(hT:Lib.Utf8Tabs 0 1 w):
 Calls Tryz.prog 148 #[.string s] w λe w'=>e= .returned (.bool (Lib.validD s.data.toList))/\Below w.heap.size w w':=Any.utf8_ValidString Tryz.WL s w hs hT
def Tryz.yg:Go.Shelf.Ren:=⟨λ|6=>64 |15=>98 |14=>97 |28=>133 |29=>134 |20=>125 |21=>126 |22=>127 |23=>128 |24=>129 |25=>130 |26=>131 |27=>132 |46=>154 |47=>155 |48=>156 |49=>157 |50=>158 |57=>178 |n=>n,λ|22=>22 |24=>34 |25=>126 |3=>3 |39=>172 |0=>0 |53=>202 |55=>204 |4=>4 |46=>195 |45=>194 |50=>199 |5=>5 |9=>9 |66=>221 |70=>225 |76=>247 |77=>248 |n=>n,λ|n=>n⟩
theorem Tryz.qb1:Go.Proofs.SlLaysF0.n6 Tryz.prog Tryz.yg:={
 mixed:=by kernel_rfl
 f6:=⟨Tryz.f64.name,by decide,Tryz.func64.trans (congrArg some (by kernel_rfl))⟩
 f14:=⟨Tryz.f97.name,by decide,Tryz.func97.trans (congrArg some (by kernel_rfl))⟩
 f15:=Tryz.func98.trans (congrArg some (by kernel_rfl))
 f20:=⟨Tryz.f125.name,by decide,Tryz.func125.trans (congrArg some (by kernel_rfl))⟩
 f21:=⟨Tryz.f126.name,by decide,Tryz.func126.trans (congrArg some (by kernel_rfl))⟩
 f22:=⟨Tryz.f127.name,by decide,Tryz.func127.trans (congrArg some (by kernel_rfl))⟩
 f23:=⟨Tryz.f128.name,by decide,Tryz.func128.trans (congrArg some (by kernel_rfl))⟩
 f24:=⟨Tryz.f129.name,by decide,Tryz.func129.trans (congrArg some (by kernel_rfl))⟩
 f25:=⟨Tryz.f130.name,by decide,Tryz.func130.trans (congrArg some (by kernel_rfl))⟩
 f26:=⟨Tryz.f131.name,by decide,Tryz.func131.trans (congrArg some (by kernel_rfl))⟩
 f27:=⟨Tryz.f132.name,by decide,Tryz.func132.trans (congrArg some (by kernel_rfl))⟩
 f28:=Tryz.func133.trans (congrArg some (by kernel_rfl))
 f29:=Tryz.func134.trans (congrArg some (by kernel_rfl))
 f46:=⟨Tryz.f154.name,by decide,Tryz.func154.trans (congrArg some (by kernel_rfl))⟩
 f47:=Tryz.func155.trans (congrArg some (by kernel_rfl))
 f48:=Tryz.func156.trans (congrArg some (by kernel_rfl))
 f49:=⟨Tryz.f157.name,by decide,Tryz.func157.trans (congrArg some (by kernel_rfl))⟩
 f50:=⟨Tryz.f158.name,by decide,Tryz.func158.trans (congrArg some (by kernel_rfl))⟩
 f57:=⟨Tryz.f178.name,by decide,Tryz.func178.trans (congrArg some (by kernel_rfl))⟩
 t0:=Tryz.underlying0
 a0:=Tryz.isAgg0
 z0:=Tryz.sizeOf0
 v0:=Tryz.zeroValue0
 t3:=Tryz.underlying3
 a3:=Tryz.isAgg3
 z3:=Tryz.sizeOf3
 v3:=Tryz.zeroValue3
 t4:=Tryz.underlying4
 a4:=Tryz.isAgg4
 z4:=Tryz.sizeOf4
 v4:=Tryz.zeroValue4
 t5:=Tryz.underlying5
 a5:=Tryz.isAgg5
 z5:=Tryz.sizeOf5
 v5:=Tryz.zeroValue5
 t9:=Tryz.underlying9
 a9:=Tryz.isAgg9
 z9:=Tryz.sizeOf9
 v9:=Tryz.zeroValue9
 t22:=Tryz.underlying22
 a22:=Tryz.isAgg22
 z22:=Tryz.sizeOf22
 v22:=Tryz.zeroValue22
 t25:=Tryz.underlying126
 a25:=Tryz.isAgg126
 z25:=Tryz.sizeOf126
 v25:=Tryz.zeroValue126
 t39:=Tryz.underlying172
 a39:=Tryz.isAgg172
 z39:=Tryz.sizeOf172
 v39:=Tryz.zeroValue172
 t45:=Tryz.underlying194
 a45:=Tryz.isAgg194
 z45:=Tryz.sizeOf194
 v45:=Tryz.zeroValue194
 t46:=Tryz.underlying195
 a46:=Tryz.isAgg195
 z46:=Tryz.sizeOf195
 v46:=Tryz.zeroValue195
 t50:=Tryz.underlying199
 a50:=Tryz.isAgg199
 z50:=Tryz.sizeOf199
 v50:=Tryz.zeroValue199
 t53:=Tryz.underlying202
 a53:=Tryz.isAgg202
 z53:=Tryz.sizeOf202
 v53:=Tryz.zeroValue202
 t55:=Tryz.underlying204
 a55:=Tryz.isAgg204
 z55:=Tryz.sizeOf204
 v55:=Tryz.zeroValue204
 t66:=Tryz.underlying221
 a66:=Tryz.isAgg221
 z66:=Tryz.sizeOf221
 v66:=Tryz.zeroValue221
 t70:=Tryz.underlying225
 a70:=Tryz.isAgg225
 z70:=Tryz.sizeOf225
 v70:=Tryz.zeroValue225
 t76:=Tryz.underlying247
 a76:=Tryz.isAgg247
 z76:=Tryz.sizeOf247
 v76:=Tryz.zeroValue247
 t77:=Tryz.underlying248
 a77:=Tryz.isAgg248
 z77:=Tryz.sizeOf248
 v77:=Tryz.zeroValue248}
def Tryz.vg:Go.Shelf.Ren:=⟨λ|6=>102 |15=>98 |14=>136 |28=>133 |29=>134 |20=>159 |21=>160 |22=>161 |23=>162 |24=>163 |25=>164 |26=>165 |27=>166 |46=>179 |47=>155 |48=>156 |49=>180 |50=>181 |57=>187 |n=>n,λ|22=>128 |24=>132 |25=>176 |3=>3 |39=>172 |0=>0 |53=>202 |55=>204 |4=>4 |46=>195 |45=>194 |50=>199 |5=>5 |9=>9 |66=>221 |70=>225 |76=>247 |77=>248 |n=>n,λ|n=>n⟩
theorem Tryz.WM:Go.Proofs.SlLaysF0.n6 Tryz.prog Tryz.vg:={
 mixed:=by kernel_rfl
 f6:=⟨Tryz.f102.name,by decide,Tryz.func102.trans (congrArg some (by kernel_rfl))⟩
 f14:=⟨Tryz.f136.name,by decide,Tryz.func136.trans (congrArg some (by kernel_rfl))⟩
 f15:=Tryz.func98.trans (congrArg some (by kernel_rfl))
 f20:=⟨Tryz.f159.name,by decide,Tryz.func159.trans (congrArg some (by kernel_rfl))⟩
 f21:=⟨Tryz.f160.name,by decide,Tryz.func160.trans (congrArg some (by kernel_rfl))⟩
 f22:=⟨Tryz.f161.name,by decide,Tryz.func161.trans (congrArg some (by kernel_rfl))⟩
 f23:=⟨Tryz.f162.name,by decide,Tryz.func162.trans (congrArg some (by kernel_rfl))⟩
 f24:=⟨Tryz.f163.name,by decide,Tryz.func163.trans (congrArg some (by kernel_rfl))⟩
 f25:=⟨Tryz.f164.name,by decide,Tryz.func164.trans (congrArg some (by kernel_rfl))⟩
 f26:=⟨Tryz.f165.name,by decide,Tryz.func165.trans (congrArg some (by kernel_rfl))⟩
 f27:=⟨Tryz.f166.name,by decide,Tryz.func166.trans (congrArg some (by kernel_rfl))⟩
 f28:=Tryz.func133.trans (congrArg some (by kernel_rfl))
 f29:=Tryz.func134.trans (congrArg some (by kernel_rfl))
 f46:=⟨Tryz.f179.name,by decide,Tryz.func179.trans (congrArg some (by kernel_rfl))⟩
 f47:=Tryz.func155.trans (congrArg some (by kernel_rfl))
 f48:=Tryz.func156.trans (congrArg some (by kernel_rfl))
 f49:=⟨Tryz.f180.name,by decide,Tryz.func180.trans (congrArg some (by kernel_rfl))⟩
 f50:=⟨Tryz.f181.name,by decide,Tryz.func181.trans (congrArg some (by kernel_rfl))⟩
 f57:=⟨Tryz.f187.name,by decide,Tryz.func187.trans (congrArg some (by kernel_rfl))⟩
 t0:=Tryz.underlying0
 a0:=Tryz.isAgg0
 z0:=Tryz.sizeOf0
 v0:=Tryz.zeroValue0
 t3:=Tryz.underlying3
 a3:=Tryz.isAgg3
 z3:=Tryz.sizeOf3
 v3:=Tryz.zeroValue3
 t4:=Tryz.underlying4
 a4:=Tryz.isAgg4
 z4:=Tryz.sizeOf4
 v4:=Tryz.zeroValue4
 t5:=Tryz.underlying5
 a5:=Tryz.isAgg5
 z5:=Tryz.sizeOf5
 v5:=Tryz.zeroValue5
 t9:=Tryz.underlying9
 a9:=Tryz.isAgg9
 z9:=Tryz.sizeOf9
 v9:=Tryz.zeroValue9
 t22:=Tryz.underlying128
 a22:=Tryz.isAgg128
 z22:=Tryz.sizeOf128
 v22:=Tryz.zeroValue128
 t25:=Tryz.underlying176
 a25:=Tryz.isAgg176
 z25:=Tryz.sizeOf176
 v25:=Tryz.zeroValue176
 t39:=Tryz.underlying172
 a39:=Tryz.isAgg172
 z39:=Tryz.sizeOf172
 v39:=Tryz.zeroValue172
 t45:=Tryz.underlying194
 a45:=Tryz.isAgg194
 z45:=Tryz.sizeOf194
 v45:=Tryz.zeroValue194
 t46:=Tryz.underlying195
 a46:=Tryz.isAgg195
 z46:=Tryz.sizeOf195
 v46:=Tryz.zeroValue195
 t50:=Tryz.underlying199
 a50:=Tryz.isAgg199
 z50:=Tryz.sizeOf199
 v50:=Tryz.zeroValue199
 t53:=Tryz.underlying202
 a53:=Tryz.isAgg202
 z53:=Tryz.sizeOf202
 v53:=Tryz.zeroValue202
 t55:=Tryz.underlying204
 a55:=Tryz.isAgg204
 z55:=Tryz.sizeOf204
 v55:=Tryz.zeroValue204
 t66:=Tryz.underlying221
 a66:=Tryz.isAgg221
 z66:=Tryz.sizeOf221
 v66:=Tryz.zeroValue221
 t70:=Tryz.underlying225
 a70:=Tryz.isAgg225
 z70:=Tryz.sizeOf225
 v70:=Tryz.zeroValue225
 t76:=Tryz.underlying247
 a76:=Tryz.isAgg247
 z76:=Tryz.sizeOf247
 v76:=Tryz.zeroValue247
 t77:=Tryz.underlying248
 a77:=Tryz.isAgg248
 z77:=Tryz.sizeOf248
 v77:=Tryz.zeroValue248}
end Go.Proofs
namespace Pi
open Go Go.Proofs Go.RowKit Go.Shelf
section
variable{w0:World}
set_option maxHeartbeats 2000000 in
set_option maxRecDepth 100000 in
theorem fE.drew{T:Tg}{F:Nat->Prop}{G:Nat->Value}{w:World}{R:List (Nat×En)}(h:fE Tryz.prog T F G w R):fE Tryz.prog T F G w.drew R:=by have hn:Names G G R R:=Names.refl G R;exact⟨h.rp,h.size,λt p hp=>by simp[lk] at hp,λn e he=>(h.rg n e he).mono (λ_ h=>h) (λ_ _=>rfl) hn rfl (λ_ _=>rfl),h.own,h.my,h.ji,h.tag,h.z,zcV h.dr,h.sz⟩
end
end Pi
namespace Pi
open Go Go.Proofs
set_option maxRecDepth 100000
set_option maxHeartbeats 0
def qfo:List (Nat×List (Nat×List Nat×List Nat)):=[(5,[(9,[5,6,7,9],[4,5,6,7])]),
 (6,[(6,[0,1,5,6,7],[1,5,6]),(15,[5,8,9,10,11,12],[5,8,9,10,11]),(21,[5,8,9,10,11,13,14],[5,8,9,10,11,13]),(28,[5,8,9,10,11,15],[4,5,8,9,10])]),
 (8,[(2,[0,3],[0,2])]),
 (11,[(3,[0,3,4],[3])]),
 (12,[(5,[1,4,6,7,21,22,23],[1,4,6,7])]),
 (15,[(4,[0,3,4,5],[4])]),
 (17,[(3,[0,1,4,5,6,7,8,20,21,22],[0,1,4,5,6,7,8])]),
 (18,[(4,[0,1,5],[4])]),
 (20,[(4,[1,3],[2])]),
 (22,[(4,[2,3,5],[4])]),
 (23,[(6,[0,1,4,6,7,8],[0,1,4,6])]),
 (24,[(4,[4,6,7,8],[4,5])]),
 (25,[(5,[4,6,7,8,9],[4,5])]),
 (26,[(4,[0,1,5],[4])]),
 (27,[(3,[3,8,9,10],[3])]),
 (28,[(4,[0,3,4],[3])]),
 (29,[(5,[2,3,4,5,6,7],[2,3,4,5,6])]),
 (30,[(3,[3,4,9,10,11],[3])]),
 (32,[(7,[0,2,3,4,5,6],[0,2,3,4,5]),(11,[0,2,3,4,5,6,7,8],[0,2,3,4,5,6]),(20,[0,2,3,4,5,6,7,8,9,10],[0,2,3,4,5,6,7,8])]),
 (33,[(3,[0,3,4],[3])]),
 (37,[(4,[0,1,5,6,10,19,20,21],[0,1,5,6,10]),(10,[5,6,7,10,35,36],[6,7,8])]),
 (40,[(3,[0,3,4],[3])]),
 (41,[(4,[0,1,5,6],[5]),(9,[0,1,5,6,7],[0,1,5,6])]),
 (42,[(2,[0,3,5],[0,4])]),
 (43,[(3,[0,3,4,7,8],[4,5,6]),(7,[0,3,4,7,8,9,10],[0,3,4,7,8,9])]),
 (44,[(3,[0,3,4],[3])]),
 (46,[(5,[0,1,2,8,9],[8])]),
 (47,[(3,[0,1,5,6],[5])]),
 (48,[(3,[0,1,5,6],[5])]),
 (49,[(3,[0,3,4],[3])]),
 (51,[(11,[3,48,49,50],[2])]),
 (53,[(4,[3,4,5],[4]),(8,[3,4,5,6,7],[3,4,5,6]),(15,[4,8,9],[8])]),
 (54,[(3,[0,1,5,6],[5]),(6,[0,1,5,6,7],[0,1,5,6]),(9,[0,1,5,6,7,8],[0,1,5,6,7])]),
 (55,[(4,[5,6,7],[6]),(14,[5,6,7,10],[5,6,7])]),
 (56,[(4,[1,5,6,7],[6]),(9,[1,5,6,7,9],[1,5,6,7])]),
 (57,[(3,[0,1,5,6],[5]),(9,[0,1,5,6,8],[0,1,5,6])]),
 (58,[(4,[1,2,7,8,9],[8])]),
 (59,[(3,[0,3,5,6],[5]),(6,[0,3,5,6,7],[0,3,5,6])]),
 (60,[(3,[0,1,5,7,8],[7]),(6,[0,1,5,7,8,9],[0,1,5,7,8])]),
 (61,[(5,[3,4,5,6,20,21,22],[3,5,6]),(15,[3,71,72,73],[3]),(20,[3,87,88,89],[3])]),
 (62,[(5,[0,1,5,6],[0,1,5])]),
 (68,[(3,[0,1,5,6,14,15],[5])]),
 (69,[(2,[0,3,7,8],[4])]),
 (70,[(4,[0,1,5],[4])]),
 (71,[(4,[0,1,5],[4])]),
 (72,[(11,[1,3,4],[2])]),
 (73,[(2,[0,3,5],[0,4])]),
 (74,[(1,[0],[0])]),
 (75,[(2,[0,3],[0,3])]),
 (76,[(3,[0,1,5,6],[5]),(6,[0,1,5,6,7],[0,1,5,6])]),
 (79,[(3,[0,1,5,7,8],[7]),(8,[0,1,5,7,8,9],[0,1,5,7,8])]),
 (80,[(4,[5,6,7],[6]),(8,[5,6,7,8],[5,6,7])]),
 (84,[(3,[0,3,4],[3]),(7,[0,3,4,5,6],[0,3,4,5]),(13,[0,3,4,7],[0,3,4])]),
 (85,[(3,[0,1,5,6],[5]),(7,[0,1,5,6,7,8],[0,1,5,6,7]),(13,[0,1,5,6,9],[0,1,5,6])]),
 (86,[(2,[0,4,5,7],[0,6])]),
 (87,[(2,[0,3,5],[0,4])]),
 (89,[(4,[0,1,5,6],[5]),(8,[0,1,5,6,7,8],[0,1,5,6,7])]),
 (90,[(2,[0,3,5],[5])]),
 (91,[(2,[0,3,5],[0,4])]),
 (92,[(2,[0,3,5],[4])]),
 (93,[(4,[3,4,5],[4])]),
 (95,[(3,[0,3,4,14,15,16],[0]),(13,[0,3,4,6,14,15,16,95,96,97],[0,3,4,14,15,16])]),
 (96,[(2,[0,1,7,8],[0,1,4])]),
 (97,[(2,[0,1,2,3,4,10,11],[4])]),
 (99,[(3,[3,6,7,8],[2,3])]),
 (101,[(1,[0,1,5,6,7],[0,1])]),
 (105,[(2,[0,3],[0,2])]),
 (107,[(3,[0,3,4],[3]),(8,[0,3,4,5,7,8],[0,3,4]),(13,[0,3,4,5,7,8,9,10,11],[0,3,4,5,7,8,9,10])]),
 (108,[(2,[0,5,6,7],[0,2])]),
 (114,[(2,[0,1,7,8,9],[0,1,4])]),
 (116,[(2,[0,1,7,8,9],[0,1,4])]),
 (118,[(3,[0,3,4],[3])]),
 (119,[(2,[0,3,5],[4])]),
 (120,[(2,[0,3,5],[3,4])]),
 (121,[(3,[0,3,5,6],[5]),(8,[0,3,5,6,7],[0,3,5,6])]),
 (123,[(1,[0,2,3],[0])]),
 (125,[(1,[0,1,2,3,8],[3]),(4,[0,1,2,3,8,9],[0,1,2,3,8])]),
 (126,[(4,[0,3,8,9,10,11],[0,3,8,9,10]),(8,[0,3,8,9,12],[3])]),
 (127,[(5,[0,1,3,8,9,10,11],[3])]),
 (129,[(2,[0,3,8,9],[3])]),
 (130,[(3,[0,1,2,3,9,10],[3,8]),(5,[0,1,2,3,9,10],[0,1,2,3,9,10]),(14,[0,1,2,3,9,10,11],[0,1,2,3,9,10]),(20,[0,1,2,3,9,10,12],[0,1,2,3,9,10])]),
 (131,[(3,[0,1,4,11,12],[4,11]),(3,[0,1,4,11,12],[0,1,4,11,12]),(5,[0,1,4,11,12],[0,1,4,11,12])]),
 (132,[(3,[0,1,4,12,13],[0,1,4,12,13]),(5,[0,1,4,12,13],[0,1,4,12,13]),(13,[0,1,4,12,13],[0,1,4,13]),(13,[0,1,4,12,13],[0,1,4,12,13]),(15,[0,1,4,12,13],[0,1,4,12,13])]),
 (136,[(2,[0,1,2,3,4,10,11],[4])]),
 (138,[(4,[0,3],[2])]),
 (141,[(2,[1,2,5],[1,4])]),
 (143,[(2,[1,2,3,7],[1,6])]),
 (144,[(2,[0,4],[2,3,4])]),
 (148,[(1,[0],[2]),(9,[0],[0])]),
 (149,[(2,[2,4],[2])]),
 (153,[(1,[0,1,3],[0,1])]),
 (154,[(1,[0,2,3,4,10],[4])]),
 (159,[(1,[0,1,2,3,8],[3]),(4,[0,1,2,3,8,9],[0,1,2,3,8])]),
 (160,[(4,[0,3,8,9,10,11],[0,3,8,9,10]),(8,[0,3,8,9,12],[3])]),
 (161,[(5,[0,1,3,8,9,10,11],[3])]),
 (163,[(2,[0,3,8,9],[3])]),
 (164,[(3,[0,1,2,3,9,10],[3,8]),(5,[0,1,2,3,9,10],[0,1,2,3,9,10]),(14,[0,1,2,3,9,10,11],[0,1,2,3,9,10]),(20,[0,1,2,3,9,10,12],[0,1,2,3,9,10])]),
 (165,[(3,[0,1,4,11,12],[4,11]),(3,[0,1,4,11,12],[0,1,4,11,12]),(5,[0,1,4,11,12],[0,1,4,11,12])]),
 (166,[(3,[0,1,4,12,13],[0,1,4,12,13]),(5,[0,1,4,12,13],[0,1,4,12,13]),(13,[0,1,4,12,13],[0,1,4,13]),(13,[0,1,4,12,13],[0,1,4,12,13]),(15,[0,1,4,12,13],[0,1,4,12,13])]),
 (168,[(16,[0,5,7,8],[2,3,4,5,7])]),
 (169,[(1,[0,1],[0])]),
 (170,[(1,[0,1],[0])]),
 (171,[(2,[0,2,4],[2,3])]),
 (172,[(1,[0,1],[0,1])]),
 (173,[(1,[0,1],[0,1])]),
 (174,[(1,[0,1],[0])]),
 (175,[(1,[0,1],[0])]),
 (179,[(1,[0,2,3,4,10],[4])]),
 (185,[(10,[0,4,5,6],[0,4,5])]),
 (186,[(4,[0,3],[0,3])]),
 (189,[(38,[175],[4]),(5,[0,7,8,9],[4]),(12,[0,7,8,9,12],[8,9]),(25,[0,7,8,9,14,15],[4]),(29,[0,7,8,9,14,15,16],[0,7,8,9,14,15])])]
def qb2:List (Nat×List (Nat×Nat)):=[(5,[(6,1),(11,1)]),
 (9,[(5,1)]),
 (17,[(5,4)]),
 (25,[(7,6)]),
 (28,[(6,1)]),
 (30,[(6,1)]),
 (32,[(18,1),(22,1),(24,1)]),
 (34,[(3,1)]),
 (41,[(11,1)]),
 (48,[(5,1)]),
 (50,[(7,1),(9,1),(11,6),(12,1),(14,6),(16,1),(20,1)]),
 (55,[(16,1)]),
 (56,[(7,1),(11,1)]),
 (57,[(11,1)]),
 (61,[(8,1),(10,1),(11,4)]),
 (66,[(1,1)]),
 (68,[(5,1)]),
 (72,[(1,1)]),
 (79,[(10,1)]),
 (80,[(10,1)]),
 (81,[(1,1)]),
 (83,[(5,1),(14,1)]),
 (84,[(15,1)]),
 (85,[(15,1)]),
 (94,[(6,1)]),
 (95,[(8,1),(9,1),(11,1),(16,1)]),
 (107,[(10,1)]),
 (121,[(10,1)]),
 (124,[(1,1)]),
 (125,[(6,1)]),
 (126,[(10,1)]),
 (127,[(10,1)]),
 (130,[(11,1),(17,1),(23,1)]),
 (145,[(9,1),(11,1)]),
 (148,[(7,1),(9,1)]),
 (150,[(1,1)]),
 (154,[(6,1)]),
 (159,[(6,1)]),
 (160,[(10,1)]),
 (161,[(10,1)]),
 (164,[(11,1),(17,1),(23,1)]),
 (177,[(3,1)]),
 (179,[(6,1)])]
def xsB:List Nat:=[146,148,149,64,102]
def xsT:List Nat:=xsB++[19,17]
def qh4:List Nat:=[]
def aO(f id:Nat):Option (List Nat×List Nat):=if Nat.beq id 999999 then(if gS f qh4 then some ([],[]) else none) else match lk qfo f with |some l=>lk l id |none=>none
abbrev yh:pZ:=⟨aO,xsT,λ_ _ _=>none⟩
end Pi
namespace Pi
open Go Go.Proofs Go.RowKit
def KI:TF
 | [.d (.str s),.d (.str c)],[]=>if s.length<=9223372036854775807/\c.length<4294967281/\c.all (λb=>decide (b.toNat<128))=true then some (.d (.str (Lib.trimS s c)),[]) else none
 |_,_=>none
def Iz:TF
 | [.d (.str s)],[]=>if s.length<=9223372036854775807 then some (.d (.bool (Lib.validD s)),[]) else none
 |_,_=>none
def IA:TF
 | [.d (.str s)],[]=>if s.length<9223372036854775807 then some (.d (.int .i64 (Lib.runeCount ⟨⟨s⟩⟩)),[]) else none
 |_,_=>none
noncomputable def yi:TF:=yb Tryz.prog yh 34
noncomputable def Bj:TF:=yb Tryz.prog yh 132
noncomputable def xL:List (Nat×TF):=[(146,KI),(148,Iz),(149,IA),(64,yi),(102,Bj)]
noncomputable def xB:CF:=xOf xL
theorem rG{w0 w:World}{v:Value}{b o:Nat}(hz: ∀b,b<w0.heap.size->w.heap[b]?=w0.heap[b]?)(h:w0.cell? ⟨b,o,none⟩=some v):w.cell? ⟨b,o,none⟩=some v:=by
 by_cases hb:b<w0.heap.size
 ·unfold World.cell? at h⊢;rw[hz b hb];exact h
 unfold World.cell? at h;rw[show w0.heap[({block:=b,off:=o,spot:=none}:Addr).block]?=none from Array.getElem?_eq_none (by show w0.heap.size<=b;omega)] at h;simp at h
structure StW(w0:World):Prop where
 m: ∃m,w0.cell? ⟨2,0,none⟩=some (.int .i64 m)
 u8:Lib.Utf8Tabs 0 1 w0
theorem StW.zero{w0:World}(h:StW w0):StW {w0 with drawn:=0} where
 m:=h.m
 u8:=h.u8
theorem MP{w0 w:World}{a b:Nat}(hz: ∀b,b<w0.heap.size->w.heap[b]?=w0.heap[b]?)(h:Lib.Utf8Tabs a b w0):Lib.Utf8Tabs a b w:=
 ⟨λc hc=>rG hz (h.1 c hc),λi hi=>⟨rG hz (h.2 i hi).1,rG hz (h.2 i hi).2⟩⟩
section
variable{w0:World}
theorem CY{F:Nat->Prop}{w:World}{G:Nat->Value}{R:List (Nat×En)}{v:Value}{s:List UInt8}(h:aF F w G R v (.d (.str s))):v= .string ⟨⟨s⟩⟩:=aF.cA (p:= .d (.str s)) h rfl
theorem QB:MK Tryz.prog w0 146 KI:=by
 intro h0 ps R p R1 h F G w vs hH hl hv;unfold KI at h;split at h
 next s c=>
  split at h
  next hc=>
   simp only[zal,zbC] at h;obtain⟨rfl,rfl⟩:=h
   match vs,hl,hv with
   | [v,u],_,hv=>have e1:v= .string ⟨⟨s⟩⟩:=CY (hv 0 v _ rfl rfl);have e2:u= .string ⟨⟨c⟩⟩:=CY (hv 1 u _ rfl rfl);subst e1;subst e2;refine ua h0 hH (enters Tryz.func146 (by kernel_rfl) (by kernel_rfl) _ w) ?_;exact(Go.Proofs.Any.strings_Trim_laid Tryz.KH (by kernel_rfl) ⟨⟨s⟩⟩ ⟨⟨c⟩⟩ w (by simpa [ByteArray.size] using hc.1) (by simpa [ByteArray.size] using hc.2.1) (Go.Proofs.ascii_of_all hc.2.2)).mono λe w' ⟨he,hb⟩=>⟨_,he,hb,λF G=> .d (.str _)⟩
  cases h
 cases h
theorem MQ(hw:StW w0):MK Tryz.prog w0 148 Iz:=by
 intro h0 ps R p R1 h F G w vs hH hl hv;have hz: ∀b,b<w0.heap.size->w.heap[b]?=w0.heap[b]?:=λb hb=>(hH.z b hb).2;unfold Iz at h;split at h
 next s=>
  split at h
  next hc=>
   simp only[zal,zbC] at h;obtain⟨rfl,rfl⟩:=h
   match vs,hl,hv with
   | [v],_,hv=>have e1:v= .string ⟨⟨s⟩⟩:=CY (hv 0 v _ rfl rfl);subst e1;refine ua h0 hH (enters Tryz.func148 (by kernel_rfl) (by kernel_rfl) _ w) ?_;exact(Tryz.utf8_ValidString ⟨⟨s⟩⟩ w (by simpa [ByteArray.size] using hc) (MP hz hw.u8)).mono λe w' ⟨he,hb⟩=>⟨_,he,hb,λF G=> .d (.bool _)⟩
  cases h
 cases h
theorem MR:MK Tryz.prog w0 149 IA:=by
 intro h0 ps R p R1 h F G w vs hH hl hv;unfold IA at h;split at h
 next s=>
  split at h
  next hc=>
   simp only[zal,zbC] at h;obtain⟨rfl,rfl⟩:=h
   match vs,hl,hv with
   | [v],_,hv=>have e1:v= .string ⟨⟨s⟩⟩:=CY (hv 0 v _ rfl rfl);subst e1;refine ua h0 hH (enters Tryz.func149 (by kernel_rfl) (by kernel_rfl) _ w) ?_;exact(Tryz.utf8_RuneCountInString ⟨⟨s⟩⟩ w (by simpa [ByteArray.size] using hc)).mono λe w' ⟨he,pos,hb⟩=>⟨_,he,by rw[hb];exact(Below.refl _ _).alloc (zaj _) _,λF G=> .d (.int _ _)⟩
  cases h
 cases h
set_option maxRecDepth 100000 in
theorem Ad(w0:World):MK Tryz.prog w0 64 yi:=
 Fo (kp:=yh) (λw=>Qr _ w) Tryz.qb1 (by kernel_rfl) (λvs w=>enters Tryz.func64 (by kernel_rfl) (by kernel_rfl) vs w) (ty:=34) (k:=7) (by kernel_rfl) (λw=>p7 (d:=_) (show Tryz.prog.underlying (Tryz.yg.t 24)=some _ from Tryz.underlying34) w) (run_sizeOf (by kernel_rfl)) w0
set_option maxRecDepth 100000 in
theorem CZ(w0:World):MK Tryz.prog w0 102 Bj:=
 Fo (kp:=yh) (λw=>Qr _ w) Tryz.WM (by kernel_rfl) (λvs w=>enters Tryz.func102 (by kernel_rfl) (by kernel_rfl) vs w) (ty:=132) (k:=4) (by kernel_rfl) (λw=>p7 (d:=_) (show Tryz.prog.underlying (Tryz.vg.t 24)=some _ from Tryz.underlying132) w) (run_sizeOf (by kernel_rfl)) w0
theorem qfp{w1:World}(hw1:StW w1):du Tryz.prog {w1 with drawn:=0} xB:=by have hw:=hw1.zero;exact ML.ok rfl (.cons QB (.cons (MQ hw) (.cons MR (.cons (Ad _) (.cons (CZ _) .nil)))))
end
end Pi
namespace Pi
open Go Go.Proofs
set_option maxRecDepth 100000
set_option maxHeartbeats 0
structure XF where
 cf:CF
 eq: ∀f,gS f xsB=true-> ∀ps R,cf f ps R=xB f ps R
abbrev IB(X:XF):pZ:=⟨aO,xsT,X.cf⟩
def qe(f id:Nat):Nat:=match lk qb2 f with |some l=>(lk l id).getD 2 |none=>2
theorem MS:nz qe 0 Tryz.prog.funcs.toList=true:=by kernel_rfl
noncomputable abbrev PR:=Tryz.prog
noncomputable def aG(H:List (FuncId×br))(hk:List (Nat×(S->K (PX×S))))(f id:Nat)(s:S):K (PX×S):=
 w7 (fg PR (runK PR yh qe H 60 60) (aO f) hk (qe f) 60 (bA PR f id)) (aO f id) s
noncomputable def aK(H:List (FuncId×br))(hk:List (Nat×(S->K (PX×S))))(f:Nat)(ps:List P)(R:List (Nat×En)):K (P×List (Nat×En)):=
 mF PR (runK PR yh qe H 60 60) yh hk qe 60 f ps R
def FD(X:XF)(f:Nat)(h:br):Prop:=Om PR (IB X) f h
def HD(X:XF)(H:List (FuncId×br)):Prop:=Ku PR (IB X) H
def LD(X:XF)(f id:Nat)(g:S->K (PX×S)):Prop:= ∀s,KW (g s) (λx=>Ev λa b=>iB (bB PR (ff PR (IB X) a b) (aO f) a (bA PR f id)) (aO f id) a s=some x)
theorem HD.nil{X:XF}:HD X []:=Ku.nil
theorem HD.cons{X:XF}{f:Nat}{h:br}{H:List (FuncId×br)}(hf:FD X f h)(hH:HD X H):HD X ((f,h)::H):=Ku.cons hf hH
inductive QC(X:XF)(f:Nat):List (Nat×(S->K (PX×S)))->Prop
 |nil:QC X f []
 |cons {id:Nat} {g:S->K (PX×S)} {r:List (Nat×(S->K (PX×S)))} (h:LD X f id g) (hr:QC X f r):QC X f ((id,g)::r)
theorem QC.get{X:XF}{f:Nat}{hk:List (Nat×(S->K (PX×S)))}(h:QC X f hk): ∀id g,lk hk id=some g->LD X f id g:=by
 induction h with
 |nil=>exact Kx
 |cons h hr ih=>exact WD h ih
theorem FD.mk{X:XF}{H:List (FuncId×br)}{hk:List (Nat×(S->K (PX×S)))}{f:Nat}{h:br}(hu:uniq PR f=true)(hH:HD X H)(hl:QC X f hk)(hb: ∀ps R ae,h ps R ae->aK H hk f ps R ae):FD X f h:=
 Om.mk MS hH hu hl.get (λps R ae hp=>by have:=hb ps R ae hp;unfold aK at this;rw[CU PR aO xsT _ X.cf qe H 60 60] at this;exact this)
theorem LD.par{X:XF}{H:List (FuncId×br)}{hk:List (Nat×(S->K (PX×S)))}{f id:Nat}{g:S->K (PX×S)}(hu:uniq PR f=true)(hc:b8 (qe f) (bA PR f id)=true)(hH:HD X H)(hl:QC X f hk)
  {A B:Type} (hd:A->B->S) (Inv:A->B->Prop) (mu:A->B->Nat) (Out:A->PX×S->Prop)
  (hr: ∀a b,Inv a b->aG H hk f id (hd a b) (roundPost (mu a b) (λm s=> ∃b',s=hd a b'/\Inv a b'/\m=mu a b') (Out a)))
  (hg: ∀s ae,g s ae-> ∃a b,s=hd a b/\Inv a b/\ ∀x,Out a x->ae x):LD X f id (ah (aO f id) g):=by
 refine Fm λs0 ae hp=> ?_;obtain⟨a,b,rfl,h1,h2⟩:=hg s0 ae hp;obtain⟨x,g1,g2⟩:=Ww (keep:=aO f id) (kp1:=aO f) (O:=Out a) MS hH hc (λd hd h hh=>by have:=hl.get _ _ hh;unfold LD at this;rwa [tY hu hd] at this) (I:=λm s=> ∃b',s=hd a b'/\Inv a b'/\m=mu a b') (λn s hs=>by obtain⟨b',rfl,h3,rfl⟩:=hs;have:=hr a b' h3;unfold aG at this;rw[CU PR aO xsT _ X.cf qe H 60 60] at this;exact this) (mu a b) (hd a b) ⟨b,rfl,h1,rfl⟩;exact⟨x,g2,h2 x g1⟩
theorem FD.weaken{X:XF}{f:Nat}{h1 h2:br}(h:FD X f h1)(hw: ∀ps R ae,h2 ps R ae->h1 ps R ae):FD X f h2:=λps R ae hp=>h ps R ae (hw ps R ae hp)
theorem FD.sP{X:XF}{f:Nat}{fn:Func}{h:br}(fW:PR.funcs[f]?=some fn)(hx:gS f xsT=true)(Ae:gS f xsB=true)(hb: ∀ps R ae,h ps R ae-> ∃x,xB f ps R=some x/\ae x):FD X f h:=
 Om.sP fW hx λps R ae hp=>by obtain⟨x,h1,h2⟩:=hb ps R ae hp;exact⟨x,by rw[<-h1];exact X.eq f Ae ps R,h2⟩
theorem FD.run{X:XF}{f:Nat}{h:br}(hf:FD X f h){ps:List P}{R:List (Nat×En)}{y:P×List (Nat×En)}(hp:h ps R (λx=>x=y)): ∃lf k,ff PR (IB X) lf k f ps R=some y:=by obtain⟨x,h1,h2⟩:=hf ps R _ hp;subst h2;exact h1.some
def FC(f:Nat)(h:br):Prop:=Om PR yh f h
def HC(H:List (FuncId×br)):Prop:=Ku PR yh H
theorem HC.nil:HC []:=Ku.nil
theorem HC.cons{f:Nat}{h:br}{H:List (FuncId×br)}(hf:FC f h)(hH:HC H):HC ((f,h)::H):=Ku.cons hf hH
theorem FC.mk{H:List (FuncId×br)}{f:Nat}{h:br}(hu:uniq PR f=true)(hH:HC H)(hb: ∀ps R ae,h ps R ae->aK H [] f ps R ae):FC f h:=
 Om.mk MS hH hu Kx hb
noncomputable def KJ:XF:=⟨xB,λ_ _ _ _=>rfl⟩
def eG(l:List Int)(r:Int):Int:=if r<1\/r>l.length then 0 else l.getD (r-1).toNat 0
def pC(l:List Int):Nat->Nat
 |0=>0
 |k+1=>if l.getD k 0=0 then pC l k else k+1
def bq(l:List Int):List Int:=l.take (pC l l.length)
def oF(n:Nat)(f:Nat->Int):List Int:=(List.range n).map f
def WN(v w:List Int):List Int:=oF (max v.length w.length) λi=>max (eG v (i+1)) (eG w (i+1))
def gK(v:List Int)(r n:Int):List Int:=oF (max v.length r.toNat) λi=>if(i:Int)+1=r then n else eG v (i+1)
def mh(v w:List Int):List Int:=bq (WN v w)
def cQ(v:List Int):Bool:=decide ((∀n∈v,0<=n)/\v.length<=16/\(bq v).length=v.length)
@[simp] theorem FB (n:Nat) (f:Nat->Int):(oF n f).length=n:=by simp[oF]
theorem pD(l:List Int): ∀k,pC l k<=k
 |0=>zaj 0
 |k+1=>by have:=pD l k;unfold pC;split<;>omega
@[simp] theorem nR (l:List Int):(bq l).length=pC l l.length:=by have:=pD l l.length;simp[bq];omega
theorem C0(l:List Int)(i:Nat):eG l ((i:Int)+1)=l.getD i 0:=by
 unfold eG;split
 next h=>
  have h:l.length<=i:=by omega
  simp[zac,zbn h]
 have:((i:Int)+1-1).toNat=i:=by omega
 rw[this]
theorem lU(l:List Int){r:Int}(h:1<=r):eG l r=l.getD (r-1).toNat 0:=by
 obtain⟨k,rfl⟩: ∃k:Nat,r=(k:Int)+1:=⟨(r-1).toNat,by omega⟩
 rw[C0];congr 1;omega
theorem sT(n:Nat)(f:Nat->Int)(i:Nat):(oF n f).getD i 0=if i<n then f i else 0:=by
 simp only[oF,zac,zaJ];split
 next h=>simp[h]
 rename_i h;simp[h]
theorem FE(l:List Int): ∀k i,pC l k<=i->i<k->l.getD i 0=0
 |0,i,_,h=>by omega
 |k+1,i,h1,h2=>by
  unfold pC at h1;split at h1
  ·by_cases e:i=k
   ·subst e;assumption
   exact FE l k i h1 (by omega)
  omega
theorem FF(l:List Int): ∀k,pC l k≠0->l.getD (pC l k-1) 0≠0
 |0,h=>by simp[pC] at h
 |k+1,h=>by
  unfold pC at h⊢;split
  next h0=>rw[zao h0] at h;exact FF l k h
  simpa
theorem yj(l:List Int)(i:Nat):(bq l).getD i 0=l.getD i 0:=by
 have h0:=pD l l.length;unfold bq;by_cases h:i<pC l l.length
 ·simp[zac,h]
 rw[zac,zbn (by simp;omega)];by_cases h2:i<l.length
 ·exact(FE l l.length i (by omega) h2).symm
 simp[zac,zbn (show l.length<=i by omega)]
theorem FG(l:List Int)(n:Nat): ∀k,k<=n->pC (l.take n) k=pC l k
 |0,_=>rfl
 |k+1,h=>by
  have e:(l.take n).getD k 0=l.getD k 0:=by simp[zac,show k<n by omega]
  unfold pC;rw[e,FG l n k (by omega)]
theorem WO(l:List Int)(k:Nat):pC l (pC l k)=pC l k:=by
 cases h:pC l k with
 |zero=>rfl
 |succ m=>have:=FF l k (by omega);rw[h] at this;unfold pC;rw[zam (by simpa using this)]
theorem FH(l:List Int):bq (bq l)=bq l:=by
 have h0:=pD l l.length;have:pC (bq l) (bq l).length=pC l l.length:=by rw[nR];unfold bq;rw[FG _ _ _ (zaj _),WO]
 rw[bq,this,zai (by simp)]
theorem ext_get{a b:List Int}(hl:a.length=b.length)(h: ∀i,a.getD i 0=b.getD i 0):a=b:=by apply zbY hl;intro i h1 h2;have:=h i;simpa [zac,h1,h2] using this
theorem nS{v:List Int}{i:Nat}(h:v.length<=i):v.getD i 0=0:=by simp[zac,zbn h]
theorem QD(v w:List Int)(i:Nat):(WN v w).getD i 0=max (v.getD i 0) (w.getD i 0):=by
 unfold WN;rw[sT];split
 ·rw[C0,C0]
 rw[nS (v:=v) (by omega),nS (v:=w) (by omega)];rfl
abbrev MT(t r i:Int):D:= .agg [.int .i64 t,.int .i64 r,.int .i64 i]
abbrev Vl(t r:Int):D:= .agg [.int .i64 t,.int .i64 r]
def uc(t r:Int):Bool:=decide (1<=t/\t<=1099511627776/\1<=r/\r<=16)
def cu(t r i:Int):Bool:=decide (1<=t/\t<=1099511627776/\1<=r/\r<=16/\0<=i/\i<=400000)
def Z3:D:=D.bool false
def Z4(ae:P×List (Nat×En)->Prop):Prop:=ae (P.d Z3,[])
def Z2(i:Int):Bool:=decide (i>=(0:Int))
def Z1:Int:=(1099511627776:Int)
def Z0(t:Int):Bool:=decide (t>=(1:Int))
theorem MU(t r i:Int)(ae:P×List (Nat×En)->Prop):(bif Z0 t then bif decide (t<=Z1) then bif Z0 r then bif decide (r<=(16:Int)) then bif Z2 i then ae (P.d (D.bool (decide (i<=(400000:Int)))),[]) else Z4 ae else Z4 ae else Z4 ae else Z4 ae else Z4 ae)=(aK [] [] 147 [.d (MT t r i)] []) ae:=by kernel_rfl
theorem IC(t r i:Int)(ae:P×List (Nat×En)->Prop):(bif Z0 t then bif decide (t<=Z1) then bif Z0 r then bif decide (r<=(16:Int)) then bif Z2 i then ae (P.d (D.bool (decide (i<=(400000:Int)))),[]) else Z4 ae else Z4 ae else Z4 ae else Z4 ae else Z4 ae)=(aK [] [] 151 [.d (MT t r i)] []) ae:=by kernel_rfl
def mP:br:=λps R ae=> ∃t r i,ps=[.d (MT t r i)]/\R=[]/\ae (.d (.bool (cu t r i)),[])
def aZ(l:List Int):List D:=l.map (D.int .i64)
abbrev vD(v:List Int):P:= .d (.sl 1 (aZ v))
def Vm:br:=λps R ae=> ∃l r,ps=[vD l,.d (.int .i64 r)]/\R=[]/\l.length<=9223372036854775807/\ae (.d (.int .i64 (eG l r)),[])
def Zc(r:Int):Nat:=Int.toNat (r-(1:Int))
def Za:Int:=(9223372036854775807:Int)
def Z9:Int:=(-9223372036854775808:Int)
def Zb(r:Int):Bool:=decide (Z9<=r-(1:Int)/\r-(1:Int)<=Za)
def Z7:D:=D.int .i64 (0:Int)
def Z8(ae:P×List (Nat×En)->Prop):Prop:=ae (P.d Z7,[])
def Z6(r:Int):Bool:=decide (r<(1:Int))
theorem qh5(es:List D)(r:Int)(ae:P×List (Nat×En)->Prop):(bif Z6 r then Z8 ae else bif decide (r>(↑(List.length es):Int)) then Z8 ae else bif Zb r then bif decide ((0:Int)<=r-(1:Int)/\r-(1:Int)<(↑(List.length es):Int)) then bif cD PR (3:TypeId) (D.nth es (Zc r)) then ae (P.d (D.int .i64 (D.aj (D.nth es (Zc r)))),[]) else False else False else False)=(aK [] [] 31 [.d (.sl 1 es),.d (.int .i64 r)] []) ae:=by kernel_rfl
theorem qfq(es:List D)(r:Int)(ae:P×List (Nat×En)->Prop):(bif Z6 r then Z8 ae else bif decide (r>(↑(List.length es):Int)) then Z8 ae else bif Zb r then bif decide ((0:Int)<=r-(1:Int)/\r-(1:Int)<(↑(List.length es):Int)) then bif cD PR (3:TypeId) (D.nth es (Zc r)) then ae (P.d (D.int .i64 (D.aj (D.nth es (Zc r)))),[]) else False else False else False)=(aK [] [] 13 [.d (.sl 1 es),.d (.int .i64 r)] []) ae:=by kernel_rfl
variable{X:XF}
theorem QE{ae:P×List (Nat×En)->Prop}{k:IntKind}{a b:Int}{R:List (Nat×En)}(hp:ae (P.d (D.int k a),R))(h:a=b):ae (P.d (D.int k b),R):=h▸hp
theorem fL{ae:P×List (Nat×En)->Prop}{a b:Bool}{R:List (Nat×En)}(hp:ae (P.d (D.bool a),R))(h:a=b):ae (P.d (D.bool b),R):=h▸hp
theorem MV:FD X 147 mP:=FD.mk (H:=[]) (by kernel_rfl) .nil .nil (by
 intro ps R ae hh;obtain⟨t,r,i,rfl,rfl,hp⟩:=hh
 (rw[<-MU];delta Z3 Z4 Z2 Z1 Z0)
 repeat' (first |refine ay (λ_=> ?_) (λ_=> ?_))
 all_goals exact fL hp (by simp only[zah,zaO,zbH,cu] at*;omega))
theorem rH:FD X 151 mP:=FD.mk (H:=[]) (by kernel_rfl) .nil .nil (by
 intro ps R ae hh;obtain⟨t,r,i,rfl,rfl,hp⟩:=hh
 (rw[<-IC];delta Z3 Z4 Z2 Z1 Z0)
 repeat' (first |refine ay (λ_=> ?_) (λ_=> ?_))
 all_goals exact fL hp (by simp only[zah,zaO,zbH,cu] at*;omega))
@[simp] theorem dG (l:List Int):(aZ l).length=l.length:=by simp[aZ]
theorem k7{l:List Int}{i:Nat}(h:i<l.length):D.nth (aZ l) i= .int .i64 (l.getD i 0):=by simp[D.nth,aZ,h]
theorem IE(n:Int):cD PR 3 (.int .i64 n)=true:=by kernel_rfl
theorem QF{ae:P×List (Nat×En)->Prop}{l:List Int}{r:Int}(hl:l.length<=9223372036854775807)(hp:ae (.d (.int .i64 (eG l r)),[])):
  bif decide (r<1) then ae (.d (.int .i64 0),[]) else bif decide (r>(l.length:Int)) then ae (.d (.int .i64 0),[]) else
   bif decide (-9223372036854775808<=r-1/\r-1<=9223372036854775807) then bif decide (0<=r-1/\r-1<(l.length:Int)) then bif cD PR 3 (D.nth (aZ l) (r-1).toNat) then ae (.d (.int .i64 (D.nth (aZ l) (r-1).toNat).aj),[]) else False else False else False:=by
 refine ay (λh=> ?_) λh=>ay (λh'=> ?_) λh'=> ?_
 ·exact QE hp (by simp only[zah] at h;simp[eG,h])
 ·exact QE hp (by simp only[zah] at h';simp[eG,h'])
 simp only[zaO] at h h';have bI:(r-1).toNat<l.length:=by omega
 rw[k7 bI];refine aq (by simp;omega) (aq (by simp;omega) (aq (IE _) ?_));exact QE hp (by rw[eG,zam (by omega)];rfl)
theorem qh6:FD X 31 Vm:=FD.mk (H:=[]) (by kernel_rfl) .nil .nil (by
 intro ps R ae hh;obtain⟨l,r,rfl,rfl,hl,hp⟩:=hh
 (rw[<-qh5];delta Zc Za Z9 Zb Z7 Z8 Z6)
 simp only[dG];exact QF hl hp)
theorem FI:FD X 13 Vm:=FD.mk (H:=[]) (by kernel_rfl) .nil .nil (by
 intro ps R ae hh;obtain⟨l,r,rfl,rfl,hl,hp⟩:=hh
 (rw[<-qfq];delta Zc Za Z9 Zb Z7 Z8 Z6)
 simp only[dG];exact QF hl hp)
abbrev iD(n:Int):P:= .d (.int .i64 n)
abbrev qb3(v w:List Int)(k:Int):S:=⟨26,[(0,vD v),(1,vD w),(5,iD k)],[]⟩
abbrev WQ(v:List Int):S:=⟨21,[(0,vD v)],[]⟩
abbrev qb4(v:List Int)(k:Int):S:=⟨21,[(0,vD v),(3,iD k)],[]⟩
abbrev qfr(v w o:List Int)(m:Nat)(k:Int):S:=⟨28,[(0,vD v),(1,vD w),(5,P.sl 0 0 m),(6,iD k)],[(0,⟨0,none,.arr 3 false (aZ o)⟩)]⟩
abbrev qfs(v o:List Int)(r n:Int)(m:Nat)(k:Int):S:=⟨39,[(0,vD v),(1,iD r),(2,iD n),(8,P.sl 0 0 m),(9,iD k)],[(0,⟨0,none,.arr 3 false (aZ o)⟩)]⟩
abbrev qb5(v:List Int)(n k:Int):S:=⟨25,[(0,vD v),(5,vD v),(6,iD n),(7,iD k)],[]⟩
abbrev qb6(v:List Int)(k:Int):S:=⟨24,[(0,vD v),(3,iD k)],[]⟩
def Zn(k:Int):D:=D.int .i64 (k+(1:Int))
def Zo(k:Int):List (Nat×P):=[(5,P.d (Zn k))]
def Zk(v:List Int):P:=P.d (D.sl 1 (aZ v))
def Zm(w:List Int):Nat×P:=(1,Zk w)
def Zl(v:List Int):Nat×P:=(0,Zk v)
def Zj(k:Int):Bool:=decide (Z9<=k+(1:Int)/\k+(1:Int)<=Za)
def Zi:List (Nat×P):=[(4,P.d Z3)]
def Zg(k:Int):Nat:=Int.toNat k
noncomputable def Zh(v:List Int)(k:Int):Bool:=cD PR (3:TypeId) (D.nth (aZ v) (Zg k))
def Ze(v:List Int):Int:=(↑(List.length (aZ v)):Int)
def Zf(k:Int)(v:List Int):Bool:=decide ((0:Int)<=k/\k<Ze v)
theorem qb7(v w:List Int)(k:Int)(ae:PX×S->Prop):(bif decide (k<Ze v) then bif Zf k v then bif Zh v k then bif Zf k w then bif Zh w k then bif D.aj (D.nth (aZ v) (Zg k)) !=D.aj (D.nth (aZ w) (Zg k)) then ae (PX.ret,S.mk 26 Zi []) else bif Zj k then ae (PX.normal,S.mk 26 (Zl v::Zm w::Zo k) []) else False else False else False else False else False else ae (PX.exit 0,S.mk 26 [] []))=(aG [] [] 26 4 (qb3 v w k)) ae:=by kernel_rfl
def Zq(ae:PX×S->Prop)(v:List Int):Prop:=ae (PX.exit 0,S.mk 21 [Zl v] [])
def Zp(v:List Int):Bool:=decide (Z9<=Ze v-(1:Int)/\Ze v-(1:Int)<=Za)
theorem qb8(v:List Int)(ae:PX×S->Prop):(bif decide (Ze v>(0:Int)) then bif Zp v then bif decide ((0:Int)<=Ze v-(1:Int)/\Ze v-(1:Int)<Ze v) then bif cD PR (3:TypeId) (D.nth (aZ v) (Int.toNat (Ze v-(1:Int)))) then bif D.aj (D.nth (aZ v) (Int.toNat (Ze v-(1:Int))))==(0:Int) then bif Zp v then bif decide ((0:Int)<=Ze v-(1:Int)/\Ze v-(1:Int)<=Ze v) then ae (PX.normal,S.mk 21 [(0,P.d (D.sl 1 (List.drop 0 (List.take (Int.toNat (Ze v-(1:Int))) (aZ v)))))] []) else False else False else Zq ae v else False else False else False else Zq ae v)=(aG [] [] 74 1 (WQ v)) ae:=by kernel_rfl
def Zt(k:Int):D:=D.int .i64 k
def Zu(k:Int):List (Nat×P):=[(3,P.d (Zt k))]
def Zs(k:Int):P:=P.d (D.int .i64 (k-(1:Int)))
def Zr(k:Int):Bool:=decide (k>(0:Int))
theorem qb9(v:List Int)(k:Int)(ae:PX×S->Prop):(bif Zr k then bif Zb k then bif decide ((0:Int)<=k-(1:Int)/\k-(1:Int)<Ze v) then bif cD PR (3:TypeId) (D.nth (aZ v) (Zc k)) then bif D.aj (D.nth (aZ v) (Zc k))==(0:Int) then bif Zb k then ae (PX.normal,S.mk 21 [Zl v,(3,Zs k)] []) else False else ae (PX.exit 0,S.mk 21 (Zl v::Zu k) []) else False else False else False else ae (PX.exit 0,S.mk 21 (Zl v::Zu k) []))=(aG [] [] 75 2 (qb4 v k)) ae:=by kernel_rfl
def ZD(o:List Int):List (Nat×En):=[(0,En.mk 0 none (Obj.arr (3:TypeId) false (aZ o)))]
def ZB(m:Nat):P:=P.sl 0 0 m
def ZC(m:Nat):Nat×P:=(5,ZB m)
def ZA(k:Int):List (Nat×P):=[(6,P.d (Zn k))]
def Zy:Nat:=9223372036854775807
def Zz(l:List Int):Prop:=List.length l<=Zy
def Zx:Prop:=EqR [] []
def Zv(k:Int):List P:=[P.d (Zt k)]
def Zw(v:List Int)(k:Int)(l:List Int)(r:Int):Prop:=Zk v::Zv k=Zk l::Zv r
theorem qca(v w o:List Int)(m:Nat)(k:Int)(ae:PX×S->Prop):(bif decide (k<=max (Ze v) (Ze w)) then∃(l:List Int) (r:Int),Zw v k l r/\Zx/\Zz l/\ ∃(au:List Int) (cB:Int),Zw w k au cB/\Zx/\Zz au/\bif Nat.ble m (List.length (aZ o))&&aM (m+List.length [D.int .i64 (max (eG l r) (eG au cB))]) 8 then bif Zj k then ae (PX.normal,S.mk 28 (Zl v::Zm w::(5,P.sl 0 0 (m+List.length [D.int .i64 (max (eG l r) (eG au cB))]))::ZA k) [(0,En.mk 0 none (Obj.arr (3:TypeId) false (List.take m (aZ o)++[D.int .i64 (max (eG l r) (eG au cB))])))]) else False else False else ae (PX.exit 0,S.mk 28 [ZC m] (ZD o)))=(aG [(13,Vm)] [] 47 3 (qfr v w o m k)) ae:=by kernel_rfl
def ZH(k:Int):List (Nat×P):=[(9,P.d (Zn k))]
def ZG(n:Int):Nat×P:=(2,P.d (Zt n))
def ZF(r:Int):Nat×P:=(1,P.d (Zt r))
def ZE(n:Int):List D:=[Zt n]
theorem qcb(v o:List Int)(r n:Int)(m:Nat)(k:Int)(ae:PX×S->Prop):(bif decide (k<=max (Ze v) r) then bif k==r then bif Nat.ble m (List.length (aZ o))&&aM (m+List.length (ZE n)) 8 then bif Zj k then ae (PX.normal,S.mk 39 (Zl v::ZF r::ZG n::(8,P.sl 0 0 (m+List.length (ZE n)))::ZH k) [(0,En.mk 0 none (Obj.arr (3:TypeId) false (List.take m (aZ o)++ZE n)))]) else False else False else∃(l:List Int) (cB:Int),Zw v k l cB/\Zx/\Zz l/\bif Nat.ble m (List.length (aZ o))&&aM (m+List.length [D.int .i64 (eG l cB)]) 8 then bif Zj k then ae (PX.normal,S.mk 39 (Zl v::ZF r::ZG n::(8,P.sl 0 0 (m+List.length [D.int .i64 (eG l cB)]))::ZH k) [(0,En.mk 0 none (Obj.arr (3:TypeId) false (List.take m (aZ o)++[D.int .i64 (eG l cB)])))]) else False else False else ae (PX.exit 0,S.mk 39 [(8,ZB m)] (ZD o)))=(aG [(13,Vm)] [] 46 5 (qfs v o r n m k)) ae:=by kernel_rfl
def ZL(k:Int):List (Nat×P):=[(7,P.d (Zn k))]
def ZK(n:Int):Nat×P:=(6,P.d (Zt n))
def ZJ:List (Nat×P):=[(2,P.d Z3)]
def ZI(k:Int)(n:Int):Bool:=decide (k<n)
theorem qcc(v:List Int)(n k:Int)(ae:PX×S->Prop):(bif ZI k n then bif Zf k v then bif Zh v k then bif decide (D.aj (D.nth (aZ v) (Zg k))<(0:Int)) then ae (PX.ret,S.mk 25 (Zl v::ZJ) []) else bif Zj k then ae (PX.normal,S.mk 25 (Zl v::(5,Zk v)::ZK n::ZL k) []) else False else False else False else ae (PX.exit 0,S.mk 25 [Zl v] []))=(aG [] [] 108 2 (qb5 v n k)) ae:=by kernel_rfl
def ZM(k:Int):List (Nat×P):=[(3,P.d (Zn k))]
theorem qcd(v:List Int)(k:Int)(ae:PX×S->Prop):(bif decide (k<Ze v) then bif Zf k v then bif Zh v k then bif decide (D.aj (D.nth (aZ v) (Zg k))<(0:Int)) then ae (PX.ret,S.mk 24 (Zl v::ZJ) []) else bif Zj k then ae (PX.normal,S.mk 24 (Zl v::ZM k) []) else False else False else False else ae (PX.exit 0,S.mk 24 [Zl v] []))=(aG [] [] 105 2 (qb6 v k)) ae:=by kernel_rfl
variable{X:XF}
theorem pF{k:Int}(h0: -9223372036854775808<=k)(h1:k<9223372036854775807):decide ((-9223372036854775808:Int)<=k+(1:Int)/\k+(1:Int)<=(9223372036854775807:Int))=true:=by simp;omega
theorem k8{p:Prop}[Decidable p] (h:p):decide p=true:=by simpa using h
theorem k9{p:Prop}[Decidable p] (h: ¬p):decide p=false:=by simpa using h
theorem bg{p:Prop}[Decidable p] {A B:Prop}(h1:p->A)(h2: ¬p->B):cond (decide p) A B:=ay (λh=>h1 (by simpa using h)) (λh=>h2 (by simpa using h))
theorem bs{p:Prop}[Decidable p] {A:Prop}(h1:p)(h2:A):cond (decide p) A False:=aq (by simpa using h1) h2
theorem hY{a b:Int}{A B:Prop}(h1:a=b->A)(h2:a≠b->B):cond (a==b) A B:=ay (λh=>h1 (by simpa using h)) (λh=>h2 (by simpa using h))
theorem Bk{a b:Int}{A B:Prop}(h1:a≠b->A)(h2:a=b->B):cond (a !=b) A B:=ay (λh=>h1 (by simpa using h)) (λh=>h2 (by simpa using h))
theorem ud{o:List Int}{m:Nat}(h:m=o.length)(x:Int):List.take m (aZ o)++[D.int .i64 x]=aZ (o++[x]):=by subst h;rw[zai (by simp)];simp[aZ]
theorem qft{m n b:Nat}(h:(m+n)*b<=140737488355328)(h2:m+n<=9223372036854775807)(l:List D)(hm:m<=l.length):(Nat.ble m l.length&&aM (m+n) b)=true:=by simp[hm,cp h h2]
abbrev iQ(v:List Int):Prop:=v.length<=1000000
def qce:S->K (PX×S):=λs ae=> ∃v w,s=qb3 v w 0/\(v.length=w.length/\iQ v)/\(v≠w->ae (.ret,⟨26,[(4,.d (.bool false))],[]⟩))/\(v=w->ae (.exit 0,⟨26,[],[]⟩))
theorem WR:LD X 26 4 (ah (aO 26 4) qce):=LD.par (H:=[]) (hk:=[]) (by kernel_rfl) (by kernel_rfl) .nil .nil
 (A:=List Int×List Int) (B:=Int) (λa k=>qb3 a.1 a.2 k)
 (λa k=>(a.1.length=a.2.length/\iQ a.1)/\0<=k/\k<=a.1.length/\ ∀i:Nat,(i:Int)<k->a.1.getD i 0=a.2.getD i 0)
 (λa k=>(a.1.length-k).toNat)
 (λa x=>(a.1≠a.2/\x=(.ret,⟨26,[(4,.d (.bool false))],[]⟩))\/(a.1=a.2/\x=(.exit 0,⟨26,[],[]⟩)))
 (by
  rintro⟨v,w⟩ k ⟨⟨hl,hs⟩,h0,h1,he⟩;dsimp only at*
  (rw[<-qb7];delta Zn Zo Zk Zm Zl Za Z9 Zj Z3 Zi Zg Zh Ze Zf)
  simp only[dG];unfold iQ at hs;refine bg (λh=> ?_) λh=> ?_
  ·rw[k7 (by omega),k7 (by omega)];refine bs (by omega) (aq (IE _) (bs (by omega) (aq (IE _) (Bk (λh'=> ?_) λh'=>aq (pF (by omega) (by omega)) ?_))))
   ·exact .inl ⟨λe=>h' (by rw[e]),rfl⟩
   exact⟨_,by omega,k+1,rfl,⟨⟨hl,hs⟩,by omega,by omega,λi hi=>by
    by_cases e:(i:Int)=k
    ·have:i=k.toNat:=by omega
     rw[this];exact h'
    exact he i (by omega)⟩,rfl⟩
  exact .inr ⟨ext_get hl λi=>by
   by_cases hi:(i:Int)<k
   ·exact he i hi
   rw[nS (by omega),nS (by omega)],rfl⟩)
 (by
  rintro s ae ⟨v,w,rfl,h1,h2,h3⟩;refine⟨(v,w),0,rfl,⟨h1,by omega,by omega,λi hi=>by omega⟩,?_⟩;rintro x (⟨h,rfl⟩| ⟨h,rfl⟩)
  ·exact h2 h
  exact h3 h)
theorem MW(v:List Int)(n:Nat):(aZ v).take n=aZ (v.take n):=by simp[aZ]
def qcf:S->K (PX×S):=λs ae=> ∃v,s=WQ v/\iQ v/\ae (.exit 0,⟨21,[(0,vD (bq v))],[]⟩)
theorem WS:LD X 74 1 (ah (aO 74 1) qcf):=LD.par (H:=[]) (hk:=[]) (by kernel_rfl) (by kernel_rfl) .nil .nil
 (A:=List Int) (B:=Nat) (λa k=>WQ (a.take k))
 (λa k=>iQ a/\k<=a.length/\pC a k=pC a a.length)
 (λa k=>k)
 (λa x=>x=(.exit 0,⟨21,[(0,vD (bq a))],[]⟩))
 (by
  rintro v k ⟨hs,h1,he⟩
  (rw[<-qb8];delta Zk Zl Zq Za Ze Z9 Zp)
  have hlen:(v.take k).length=k:=by simp;omega
  unfold iQ at hs;simp only[dG,hlen];refine bg (λh=> ?_) λh=> ?_
  ·have hk:((k:Int)-1).toNat=k-1:=by omega
   have hg:(v.take k).getD (k-1) 0=v.getD (k-1) 0:=by simp[zac,show k-1<k by omega]
   obtain⟨j,rfl⟩: ∃j,k=j+1:=⟨k-1,by omega⟩
   simp only[hk];rw[k7 (by omega),hg];simp only[Nat.add_sub_cancel] at*
   refine bs (by omega) (bs (by omega) (aq (IE _) (hY (λh'=> ?_) λh'=> ?_)))
   ·replace h':v.getD j 0=0:=h'
    refine bs (by omega) (bs (by omega) ?_);refine⟨_,zcy j,j,?_,⟨hs,by omega,by rw[<-he,pC,zao h']⟩,rfl⟩;simp[WQ,aZ,List.take_take]
   replace h':v.getD j 0≠0:=h'
   have:bq v=v.take (j+1):=by rw[bq,<-he,pC,zam h']
   show _=_;rw[this]
  have:k=0:=by omega
  subst this;have:bq v=v.take 0:=by rw[bq,<-he];rfl
  show _=_;rw[this])
 (by rintro s ae ⟨v,rfl,h1,h2⟩;refine⟨v,v.length,by rw[zak],⟨h1,zaj _,rfl⟩,?_⟩;rintro x rfl;exact h2)
def qcg:S->K (PX×S):=λs ae=> ∃v n,s=qb4 v n/\(n=(v.length:Int)/\iQ v)/\ae (.exit 0,⟨21,[(0,vD v),(3,iD (pC v v.length))],[]⟩)
theorem WT:LD X 75 2 (ah (aO 75 2) qcg):=LD.par (H:=[]) (hk:=[]) (by kernel_rfl) (by kernel_rfl) .nil .nil
 (A:=List Int) (B:=Int) (λa k=>qb4 a k)
 (λa k=>iQ a/\0<=k/\k<=a.length/\pC a k.toNat=pC a a.length)
 (λa k=>k.toNat)
 (λa x=>x=(.exit 0,⟨21,[(0,vD a),(3,iD (pC a a.length))],[]⟩))
 (by
  rintro v k ⟨hs,h0,h1,he⟩
  (rw[<-qb9];delta Zt Zu Zs Zk Zl Zc Ze Za Z9 Zb Zr)
  unfold iQ at hs;simp only[dG];refine bg (λh=> ?_) λh=> ?_
  ·have hj:k.toNat=(k-1).toNat+1:=by omega
   rw[k7 (by omega)];refine bs (by omega) (bs (by omega) (aq (IE _) (hY (λh'=> ?_) λh'=> ?_)))
   ·replace h':v.getD (k-1).toNat 0=0:=h'
    refine bs (by omega) ⟨_,by omega,k-1,rfl,⟨hs,by omega,by omega,by rw[<-he,hj,pC,zao h']⟩,rfl⟩
   replace h':v.getD (k-1).toNat 0≠0:=h'
   rw[hj,pC,zam h'] at he;show _=_;rw[<-he];simp;omega
  have:k=0:=by omega
  subst this;show _=_;rw[<-he];rfl)
 (by rintro s ae ⟨v,n,rfl,⟨hn,h1⟩,h2⟩;refine⟨v,n,rfl,⟨h1,by omega,by omega,by rw[hn];rfl⟩,?_⟩;rintro x rfl;exact h2)
variable{X:XF}
def QG(f:Nat->Int)(k:Nat)(o:List Int):Prop:= ∀i,i<k->o.getD i 0=f i
theorem QG.set{f:Nat->Int}{k:Nat}{o:List Int}(h:QG f k o)(hk:k<o.length):QG f (k+1) (o.set k (f k)):=λi hi=>by
 by_cases e:i=k
 ·subst e;simp[zac,hk]
 have:=h i (by omega);simpa [zac,List.getElem?_set,zbD e] using this
theorem QG.all{f:Nat->Int}{o:List Int}(h:QG f o.length o):o=oF o.length f:=ext_get (by simp) λi=>by
 rw[sT];split
 ·exact h i (by assumption)
 exact nS (by omega)
theorem MX(n:Nat)(f:Nat->Int):oF (n+1) f=oF n f++[f n]:=by simp[oF,List.range_succ]
theorem qaO{m:Nat}(h:m<=1000000)(x:D):aM (m+List.length [x]) 8=true:=cp (by simp;omega) (by simp;omega)
def FJ(g:Int->Int->Int)(v w:List Int)(n:Nat):List Int:=oF n λi=>g (eG v (i+1)) (eG w (i+1))
theorem KK{f id n t:Nat}{H:List (FuncId×br)}(hH:HD X H)(hu:uniq PR f=true)(hc:b8 (qe f) (bA PR f id)=true)
  {A:Type} (hd:A->List Int->Nat->Int->S) (Pre:A->Prop) (len:A->Nat) (F:A->Nat->Int)
  (hvc: ∀(a:A) (o:List Int) (m:Nat) (k:Int),Pre a->len a<=1000000->1<=k->k<=len a+1->m=o.length->(m:Int)+1=k-> ∀ae,(k<=len a->ae (.normal,hd a (o++[F a m]) (m+1) (k+1)))->(¬k<=len a->ae (.exit 0,⟨n,[(t,P.sl 0 0 m)],[(0,⟨0,none,.arr 3 false (aZ o)⟩)]⟩))->aG H [] f id (hd a o m k) ae)
  {g:S->K (PX×S)} (hg: ∀s ae,g s ae-> ∃a,s=hd a [] 0 1/\Pre a/\len a<=1000000/\ae (.exit 0,⟨n,[(t,P.sl 0 0 (len a))],[(0,⟨0,none,.arr 3 false (aZ (oF (len a) (F a)))⟩)]⟩)):
  LD X f id (ah (aO f id) g):=LD.par (H:=H) (hk:=[]) hu hc hH .nil
 (A:=A) (B:=List Int×Nat×Int) (λa b=>hd a b.1 b.2.1 b.2.2)
 (λa b=>Pre a/\len a<=1000000/\b.2.1<=len a/\b.1=oF b.2.1 (F a)/\b.2.2=b.2.1+1)
 (λa b=>len a+1-b.2.1)
 (λa x=>x=(.exit 0,⟨n,[(t,P.sl 0 0 (len a))],[(0,⟨0,none,.arr 3 false (aZ (oF (len a) (F a)))⟩)]⟩))
 (by
  rintro a ⟨o,m,k⟩ ⟨hp,hl,hm,ho,hk⟩;dsimp only at*
  refine hvc a o m k hp hl (by omega) (by omega) (by rw[ho];simp) (by omega) _ (λh=> ?_) λh=> ?_
  ·exact⟨_,by dsimp only;omega,(o++[F a m],m+1,k+1),rfl,⟨hp,hl,by dsimp only;omega,by rw[ho,MX],by dsimp only;omega⟩,rfl⟩
  have:m=len a:=by omega
  subst this;subst ho;rfl)
 (by intro s ae hs;obtain⟨a,rfl,h1,h2,h3⟩:=hg s ae hs;refine⟨a,([],0,1),rfl,⟨h1,h2,za6 _,rfl,rfl⟩,?_⟩;rintro x rfl;exact h3)
def qch(g:Int->Int->Int):S->K (PX×S):=λs ae=> ∃v w es,s=⟨28,[(0,vD v),(1,vD w),(5,P.sl 0 0 0),(6,iD 1)],[(0,⟨0,none,.arr 3 false es⟩)]⟩/\(es=[]/\iQ v/\iQ w)/\
 ae (.exit 0,⟨28,[(5,P.sl 0 0 (max v.length w.length))],[(0,⟨0,none,.arr 3 false (aZ (FJ g v w (max v.length w.length)))⟩)]⟩)
theorem WU:LD X 47 3 (ah (aO 47 3) (qch max)):=KK (H:=[(13,Vm)]) (.cons FI .nil) (by kernel_rfl) (by kernel_rfl)
 (A:=List Int×List Int) (λa o m k=>qfr a.1 a.2 o m k) (λa=>iQ a.1/\iQ a.2) (λa=>max a.1.length a.2.length) (λa i=>max (eG a.1 (i+1)) (eG a.2 (i+1)))
 (by
  rintro⟨v,w⟩ o m k ⟨hv,hw⟩ hl h1 h2 hm hk ae p1 p2;dsimp only at*
  unfold iQ at hv hw
  (rw[<-qca];delta ZD ZB ZC Zn ZA Zk Zm Zl Za Z9 Zj Zy Zz Zx Zt Zv Zw Ze)
  simp only[dG];refine bg (λh=> ?_) λh=>p2 (by omega);refine⟨v,k,rfl,rfl,by omega,w,k,rfl,rfl,by omega,aq ?_ (aq (pF (by omega) (by omega)) ?_)⟩
  ·rw[qaO (by omega)];simp;omega
  rw[ud hm];have:=p1 (by omega);rw[hk] at this;exact this)
 (by rintro s ae ⟨v,w,es,rfl,⟨rfl,hv,hw⟩,hp⟩;refine⟨(v,w),rfl,⟨hv,hw⟩,by unfold iQ at hv hw;dsimp only;omega,hp⟩)
def qci:S->K (PX×S):=λs ae=> ∃v r n es,s=⟨39,[(0,vD v),(1,iD r),(2,iD n),(8,P.sl 0 0 0),(9,iD 1)],[(0,⟨0,none,.arr 3 false es⟩)]⟩/\(es=[]/\iQ v/\1<=r/\r<=16)/\
 ae (.exit 0,⟨39,[(8,P.sl 0 0 (max v.length r.toNat))],[(0,⟨0,none,.arr 3 false (aZ (gK v r n))⟩)]⟩)
theorem WV:LD X 46 5 (ah (aO 46 5) qci):=KK (H:=[(13,Vm)]) (.cons FI .nil) (by kernel_rfl) (by kernel_rfl)
 (A:=List Int×Int×Int) (λa o m k=>qfs a.1 o a.2.1 a.2.2 m k) (λa=>iQ a.1/\1<=a.2.1/\a.2.1<=16) (λa=>max a.1.length a.2.1.toNat) (λa i=>if(i:Int)+1=a.2.1 then a.2.2 else eG a.1 (i+1))
 (by
  rintro⟨v,r,n⟩ o m k ⟨hv,tF,hr1⟩ hl h1 h2 hm hk ae p1 p2;dsimp only at*
  unfold iQ at hv
  (rw[<-qcb];delta ZD ZB Zy Zz Zx Zt Zv Zk Zw Zn ZH ZG ZF Zl Za Z9 Zj ZE Ze)
  simp only[dG];have og: ∀x:D,(Nat.ble m (aZ o).length&&aM (m+List.length [x]) 8)=true:=λx=>by rw[qaO (by omega)];simp;omega
  simp only[dG] at og;refine bg (λh=> ?_) λh=>p2 (by omega);have:=p1 (by omega);rw[hk] at this;refine hY (λh'=> ?_) λh'=> ?_
  ·rw[zao h'] at this;refine aq (og _) (aq (pF (by omega) (by omega)) ?_);rw[ud hm];exact this
  rw[zam h'] at this;refine⟨v,k,rfl,rfl,by omega,aq (og _) (aq (pF (by omega) (by omega)) ?_)⟩;rw[ud hm];exact this)
 (by rintro s ae ⟨v,r,n,es,rfl,⟨rfl,hv,h1,h2⟩,hp⟩;refine⟨(v,r,n),rfl,⟨hv,h1,h2⟩,by unfold iQ at hv;dsimp only;omega,hp⟩)
def qcj:S->K (PX×S):=λs ae=> ∃v n,s=qb5 v n 0/\(n=v.length/\iQ v)/\(¬(∀x∈v,0<=x)->ae (.ret,⟨25,[(0,vD v),(2,.d (.bool false))],[]⟩))/\((∀x∈v,0<=x)->ae (.exit 0,⟨25,[(0,vD v)],[]⟩))
def qck:S->K (PX×S):=λs ae=> ∃v,s=qb6 v 0/\iQ v/\(¬(∀x∈v,0<=x)->ae (.ret,⟨24,[(0,vD v),(2,.d (.bool false))],[]⟩))/\((∀x∈v,0<=x)->ae (.exit 0,⟨24,[(0,vD v)],[]⟩))
def FK:br:=λps R ae=> ∃v w,ps=[vD v,vD w]/\R=[]/\iQ v/\ae (.d (.bool (decide (v=w))),[])
def iR:br:=λps R ae=> ∃v,ps=[vD v]/\R=[]/\iQ v/\ae (vD (bq v),[])
def IF:br:=λps R ae=> ∃v w,ps=[vD v,vD w]/\R=[]/\(iQ v/\iQ w)/\ae (vD (mh v w),[])
def qfu:br:=λps R ae=> ∃v r n,ps=[vD v,iD r,iD n]/\R=[]/\iQ v/\(¬(1<=r/\r<=16)->ae (.cX [.sl 0 0 0,iD 1],[(0,⟨0,none,.arr 3 false []⟩)]))/\((1<=r/\r<=16)->ae (.cX [vD (bq (gK v r n)),iD 0],[]))
def qfv:br:=λps R ae=> ∃v,ps=[vD v]/\R=[]/\iQ v/\ae (.d (.bool (cQ v)),[])
def ZO:P:=P.d (D.bool true)
def ZP(ae:P×List (Nat×En)->Prop):Prop:=ae (ZO,[])
def ZN:List (Nat×P):=[(5,P.d Z7)]
theorem qfw(v w:List Int)(ae:P×List (Nat×En)->Prop):(bif Ze v !=Ze w then Z4 ae else∃(de:List Int) (DZ:List Int),S.mk 26 (Zl v::Zm w::ZN) []=S.mk 26 (Zl de::Zm DZ::ZN) []/\(List.length de=List.length DZ/\iQ de)/\(de≠DZ->Z4 ae)/\(de=DZ->ZP ae))=(aK [] [(4,ah (aO 26 4) qce)] 26 [vD v,vD w] []) ae:=by kernel_rfl
theorem qfx(v:List Int)(ae:P×List (Nat×En)->Prop):(∃(de:List Int),S.mk 21 [(0,P.d (D.sl 1 (aZ v)))] []=S.mk 21 [(0,P.d (D.sl 1 (aZ de)))] []/\iQ de/\ae (P.d (D.sl 1 (aZ (bq de))),[]))=(aK [] [(1,ah (aO 74 1) qcf)] 74 [vD v] []) ae:=by kernel_rfl
theorem WW(v:List Int)(ae:P×List (Nat×En)->Prop):(∃(de:List Int),[P.d (D.sl 1 (aZ v))]=[P.d (D.sl 1 (aZ de))]/\EqR [] []/\iQ de/\ae (P.d (D.sl 1 (aZ (bq de))),[]))=(aK [(74,iR)] [] 45 [vD v] []) ae:=by kernel_rfl
theorem qfy(v:List Int)(ae:P×List (Nat×En)->Prop):(∃(de:List Int) (n:Int),S.mk 21 [Zl v,(3,P.d (D.int .i64 (Ze v)))] []=S.mk 21 (Zl de::Zu n) []/\(n=(↑(List.length de):Int)/\iQ de)/\bif decide ((0:Int)<=(↑(pC de (List.length de)):Int)/\(↑(pC de (List.length de)):Int)<=Ze de) then ae (P.d (D.sl 1 (List.drop 0 (List.take (pC de (List.length de)) (aZ de)))),[]) else False)=(aK [] [(2,ah (aO 75 2) qcg)] 75 [vD v] []) ae:=by kernel_rfl
def ZW(v:List Int):List P:=[Zk v]
def ZV(es:List D):List (Nat×En):=[(0,En.mk 0 none (Obj.arr (3:TypeId) false es))]
def ZT:En:=En.mk 0 none (Obj.arr (3:TypeId) false [])
def ZU:List (Nat×En):=[(0,ZT)]
def ZR:D:=D.int .i64 (1:Int)
def ZQ:P:=P.sl 0 0 0
def ZS(v:List Int)(w:List Int):List (Nat×P):=[Zl v,Zm w,(5,ZQ),(6,P.d ZR)]
theorem QH(v w:List Int)(ae:P×List (Nat×En)->Prop):(∃(de:List Int) (DZ:List Int) (es:List D),S.mk 28 (ZS v w) ZU=S.mk 28 (ZS de DZ) (ZV es)/\(es=[]/\iQ de/\iQ DZ)/\ ∃(v:List Int),[P.d (D.sl 1 (List.take (max (List.length de) (List.length DZ)) (aZ (FJ max de DZ (max (List.length de) (List.length DZ))))))]=ZW v/\Zx/\iQ v/\ae (P.d (D.sl 1 (aZ (bq v))),[]))=(aK [(75,iR)] [(3,ah (aO 47 3) (qch max))] 47 [vD v,vD w] []) ae:=by kernel_rfl
def qy:List P:=[P.d Z7]
def ZZ(v:List Int)(r:Int)(n:Int):List (Nat×P):=[Zl v,ZF r,ZG n,(8,ZQ),(9,P.d ZR)]
def ZY(r:Int):Bool:=decide (r>(16:Int))
def ZX:List P:=[P.d ZR]
theorem WX(v:List Int)(r n:Int)(ae:P×List (Nat×En)->Prop):(bif Z6 r then ae (P.cX (ZQ::ZX),ZU) else bif ZY r then ae (P.cX (ZQ::ZX),ZU) else∃(de:List Int) (cB:Int) (cH:Int) (es:List D),S.mk 39 (ZZ v r n) ZU=S.mk 39 (ZZ de cB cH) (ZV es)/\(es=[]/\iQ de/\(1:Int)<=cB/\cB<=(16:Int))/\ ∃(v:List Int),[P.d (D.sl 1 (List.take (max (List.length de) (Zg cB)) (aZ (gK de cB cH))))]=ZW v/\Zx/\iQ v/\ae (P.cX (P.d (D.sl 1 (aZ (bq v)))::qy),[]))=(aK [(75,iR)] [(5,ah (aO 46 5) qci)] 46 [vD v,iD r,iD n] []) ae:=by kernel_rfl
def Z12(de:List Int):Prop:= ∀(x:Int),x∈de->(0:Int)<=x
def rI:List (Nat×P):=[(7,P.d Z7)]
theorem qfz(v:List Int)(ae:P×List (Nat×En)->Prop):(∃(de:List Int) (n:Int),S.mk 25 (Zl v::(5,Zk v)::(6,P.d (D.int .i64 (Ze v)))::rI) []=S.mk 25 (Zl de::(5,Zk de)::ZK n::rI) []/\(n=(↑(List.length de):Int)/\iQ de)/\(¬Z12 de->Z4 ae)/\(Z12 de->bif decide (Ze de<=(16:Int)) then∃(v:List Int),ZW de=ZW v/\Zx/\iQ v/\ae (P.d (D.bool ((↑(List.length (aZ (bq v))):Int)==Ze de)),[]) else Z4 ae))=(aK [(45,iR)] [(2,ah (aO 108 2) qcj)] 108 [vD v] []) ae:=by kernel_rfl
def Z14(Ha:List Int)(ae:P×List (Nat×En)->Prop)(w:List Int):Prop:=Zx/\iQ Ha/\ae (P.d (D.bool (decide (Ha=w))),[])
def Z13:List (Nat×P):=[(3,P.d Z7)]
theorem qfA(v:List Int)(ae:P×List (Nat×En)->Prop):(∃(de:List Int),S.mk 24 (Zl v::Z13) []=S.mk 24 (Zl de::Z13) []/\iQ de/\(¬Z12 de->Z4 ae)/\(Z12 de->bif decide (Ze de<=(16:Int)) then∃(v:List Int),ZW de=ZW v/\Zx/\iQ v/\ ∃(Ha:List Int) (w:List Int),[Zk de,P.d (D.sl 1 (aZ (bq v)))]=Zk Ha::ZW w/\Z14 Ha ae w else Z4 ae))=(aK [(75,iR),(26,FK)] [(2,ah (aO 105 2) qck)] 105 [vD v] []) ae:=by kernel_rfl
variable{X:XF}
theorem C1(v:List Int):(∀x∈v,0<=x)↔ ∀i:Nat,i<v.length->0<=v.getD i 0:=by
 constructor
 ·intro h i hi;have:=h v[i] (zas hi);simpa [zac,hi] using this
 intro h x hx;obtain⟨i,hi,rfl⟩:=zaW hx;have:=h i hi;simpa [zac,hi] using this
theorem WY:LD X 108 2 (ah (aO 108 2) qcj):=LD.par (H:=[]) (hk:=[]) (by kernel_rfl) (by kernel_rfl) .nil .nil
 (A:=List Int×Int) (B:=Int) (λa k=>qb5 a.1 a.2 k)
 (λa k=>(a.2=a.1.length/\iQ a.1)/\0<=k/\k<=a.1.length/\ ∀i:Nat,(i:Int)<k->0<=a.1.getD i 0)
 (λa k=>(a.1.length-k).toNat)
 (λa x=>((¬ ∀x∈a.1,0<=x)/\x=(.ret,⟨25,[(0,vD a.1),(2,.d (.bool false))],[]⟩))\/((∀x∈a.1,0<=x)/\x=(.exit 0,⟨25,[(0,vD a.1)],[]⟩)))
 (by
  rintro⟨v,n⟩ k ⟨⟨hn,hs⟩,h0,h1,he⟩;dsimp only at*
  subst hn
  (rw[<-qcc];delta Zn ZL Zt ZK Zk Za Z9 Zj Z3 ZJ Zl Zg Zh Ze Zf ZI)
  unfold iQ at hs;simp only[dG];refine bg (λh=> ?_) λh=> ?_
  ·rw[k7 (by omega)];refine bs (by omega) (aq (IE _) (bg (λh'=> ?_) λh'=>aq (pF (by omega) (by omega)) ?_))
   ·replace h':v.getD k.toNat 0<0:=h'
    refine .inl ⟨λhh=> ?_,rfl⟩;have:=(C1 v).1 hh k.toNat (by omega);omega
   replace h': ¬v.getD k.toNat 0<0:=h'
   exact⟨_,by omega,k+1,rfl,⟨⟨by simp,hs⟩,by omega,by first |omega | (dsimp only;omega),λi hi=>by
    by_cases e:(i:Int)=k
    ·have:i=k.toNat:=by omega
     rw[this];first |omega | (dsimp only;omega)
    exact he i (by omega)⟩,rfl⟩
  exact .inr ⟨(C1 v).2 λi hi=>he i (by omega),rfl⟩)
 (by
  rintro s ae ⟨v,n,rfl,⟨hn,h1⟩,h2,h3⟩;refine⟨(v,n),0,rfl,⟨⟨hn,h1⟩,by omega,by omega,λi hi=>by omega⟩,?_⟩;rintro x (⟨h,rfl⟩| ⟨h,rfl⟩)
  ·exact h2 h
  exact h3 h)
theorem WZ:LD X 105 2 (ah (aO 105 2) qck):=LD.par (H:=[]) (hk:=[]) (by kernel_rfl) (by kernel_rfl) .nil .nil
 (A:=List Int) (B:=Int) (λa k=>qb6 a k)
 (λa k=>iQ a/\0<=k/\k<=a.length/\ ∀i:Nat,(i:Int)<k->0<=a.getD i 0)
 (λa k=>(a.length-k).toNat)
 (λa x=>((¬ ∀x∈a,0<=x)/\x=(.ret,⟨24,[(0,vD a),(2,.d (.bool false))],[]⟩))\/((∀x∈a,0<=x)/\x=(.exit 0,⟨24,[(0,vD a)],[]⟩)))
 (by
  rintro v k ⟨hs,h0,h1,he⟩
  (rw[<-qcd];delta Zn ZM Za Z9 Zj Z3 ZJ Zk Zl Zg Zh Ze Zf)
  unfold iQ at hs;simp only[dG];refine bg (λh=> ?_) λh=> ?_
  ·rw[k7 (by omega)];refine bs (by omega) (aq (IE _) (bg (λh'=> ?_) λh'=>aq (pF (by omega) (by omega)) ?_))
   ·replace h':v.getD k.toNat 0<0:=h'
    refine .inl ⟨λhh=> ?_,rfl⟩;have:=(C1 v).1 hh k.toNat (by omega);omega
   replace h': ¬v.getD k.toNat 0<0:=h'
   exact⟨_,by omega,k+1,rfl,⟨hs,by omega,by omega,λi hi=>by
    by_cases e:(i:Int)=k
    ·have:i=k.toNat:=by omega
     rw[this];omega
    exact he i (by omega)⟩,rfl⟩
  exact .inr ⟨(C1 v).2 λi hi=>he i (by omega),rfl⟩)
 (by
  rintro s ae ⟨v,rfl,h1,h2,h3⟩;refine⟨v,0,rfl,⟨h1,by omega,by omega,λi hi=>by omega⟩,?_⟩;rintro x (⟨h,rfl⟩| ⟨h,rfl⟩)
  ·exact h2 h
  exact h3 h)
theorem QI:FD X 26 FK:=FD.mk (H:=[]) (hk:=[(4,ah (aO 26 4) qce)]) (by kernel_rfl) .nil (.cons WR .nil) (by
 intro ps R ae hh;obtain⟨v,w,rfl,rfl,hv,hp⟩:=hh
 (rw[<-qfw];delta ZO ZP Z7 ZN Zk Zm Zl Z3 Z4 Ze)
 simp only[dG];refine Bk (λh=> ?_) λh=>⟨v,w,rfl,⟨by omega,hv⟩,λhn=> ?_,λhe=> ?_⟩
 ·exact fL hp (k9 λe=>h (by rw[e]))
 ·exact fL hp (k9 hn)
 exact fL hp (k8 he))
theorem qfB:FD X 74 iR:=FD.mk (H:=[]) (hk:=[(1,ah (aO 74 1) qcf)]) (by kernel_rfl) .nil (.cons WS .nil) (by intro ps R ae hh;obtain⟨v,rfl,rfl,hv,hp⟩:=hh;rw[<-qfx];exact⟨v,rfl,hv,hp⟩)
theorem KL:FD X 45 iR:=FD.mk (H:=[(74,iR)]) (hk:=[]) (by kernel_rfl) (.cons qfB .nil) .nil (by intro ps R ae hh;obtain⟨v,rfl,rfl,hv,hp⟩:=hh;rw[<-WW];exact⟨v,rfl,rfl,hv,hp⟩)
theorem QJ:FD X 75 iR:=FD.mk (H:=[]) (hk:=[(2,ah (aO 75 2) qcg)]) (by kernel_rfl) .nil (.cons WT .nil) (by
 intro ps R ae hh;obtain⟨v,rfl,rfl,hv,hp⟩:=hh
 (rw[<-qfy];delta Zt Zu Ze Zk Zl)
 simp only[dG];refine⟨v,_,rfl,⟨rfl,hv⟩,bs ?_ ?_⟩
 ·have:=pD v v.length;omega
 rw[MW];exact hp)
theorem KM(g:Int->Int->Int)(v w:List Int)(m:Nat):(FJ g v w m).length=m:=by simp[FJ]
theorem sU{o:List Int}{m:Nat}(h:o.length=m):(aZ o).take m=aZ o:=by rw[zai (by simp[h])]
theorem QK:FD X 47 IF:=FD.mk (H:=[(75,iR)]) (hk:=[(3,ah (aO 47 3) (qch max))]) (by kernel_rfl) (.cons QJ .nil) (.cons WU .nil) (by
 intro ps R ae hh;obtain⟨v,w,rfl,rfl,h,hp⟩:=hh
 (rw[<-QH];delta Zx Zk ZW ZV ZT ZU ZR ZQ Zm Zl ZS)
 refine⟨v,w,_,rfl,⟨rfl,h⟩,FJ max v w (max v.length w.length),by rw[sU (KM ..)],rfl,?_,hp⟩;unfold iQ at*;rw[KM];omega)
theorem qfC:FD X 108 qfv:=FD.mk (H:=[(45,iR)]) (hk:=[(2,ah (aO 108 2) qcj)]) (by kernel_rfl) (.cons KL .nil) (.cons WY .nil) (by
 intro ps R ae hh;obtain⟨v,rfl,rfl,hv,hp⟩:=hh
 (rw[<-qfz];delta Zx Zk ZW Z3 Z4 Z12 Zt ZK Z7 rI Ze Zl)
 simp only[dG];refine⟨v,_,rfl,⟨rfl,hv⟩,λh=>fL hp (k9 λhh=>h hh.1),λh=>bg (λh'=>⟨v,rfl,rfl,hv,?_⟩) λh'=> ?_⟩
 ·refine fL hp ?_;rw[cQ,zaF];simp only[zah,zaR];constructor
  ·rintro⟨_,_,h3⟩;omega
  intro h3;exact⟨h,by omega,by omega⟩
 exact fL hp (k9 λhh=>h' (by omega)))
theorem qfD:FD X 105 qfv:=FD.mk (H:=[(75,iR),(26,FK)]) (hk:=[(2,ah (aO 105 2) qck)]) (by kernel_rfl) (.cons QJ (.cons QI .nil)) (.cons WZ .nil) (by
 intro ps R ae hh;obtain⟨v,rfl,rfl,hv,hp⟩:=hh
 (rw[<-qfA];delta Zx Z14 Zk ZW Ze Z3 Z4 Z12 Z7 Z13 Zl)
 simp only[dG];refine⟨v,rfl,hv,λh=>fL hp (k9 λhh=>h hh.1),λh=>bg (λh'=>⟨v,rfl,rfl,hv,v,bq v,rfl,rfl,hv,?_⟩) λh'=> ?_⟩
 ·refine fL hp ?_;rw[cQ,zaF];simp only[zah];constructor
  ·rintro⟨_,_,h3⟩;have hl:=pD v v.length;rw[nR] at h3;rw[bq,h3,zak]
  intro h3;exact⟨h,by omega,by rw[<-h3]⟩
 exact fL hp (k9 λhh=>h' (by omega)))
theorem W2:FD X 46 qfu:=FD.mk (H:=[(75,iR)]) (hk:=[(5,ah (aO 46 5) qci)]) (by kernel_rfl) (.cons QJ .nil) (.cons WV .nil) (by
 intro ps R ae hh;obtain⟨v,r,n,rfl,rfl,hv,b7,ec⟩:=hh
 (rw[<-WX];delta Z7 qy Zx Zk ZW Zg ZV ZR ZQ Zt ZG ZF Zl ZZ ZY ZT ZU ZX Z6)
 have Kb:=hv;unfold iQ at Kb;have hl:(gK v r n).length=max v.length r.toNat:=by simp[gK]
 refine bg (λh=>b7 (by omega)) λh=>bg (λh'=>b7 (by omega)) λh'=>⟨v,r,n,_,rfl,⟨rfl,hv,by omega,by omega⟩,gK v r n,by rw[sU hl],rfl,by unfold iQ;rw[hl];omega,ec (by omega)⟩)
def Bl(t r i:Int):List UInt8:=Lib.itoa t++[46]++Lib.itoa r++[46]++Lib.itoa i
def la(t r i:Int):List UInt8:=if cu t r i=true then Bl t r i else []
def QL:br:=λps R ae=> ∃t r i,ps=[.d (MT t r i)]/\R=[]/\ae (.d (.str (la t r i)),[])
variable{X:XF}
theorem Af: ∀u:Nat,(Lib.decDigits u).length<=u+1:=by
 intro u
 induction u using Nat.strongRecOn with
 |_ u ih=>
  rw[Lib.decDigits];split
  ·simp
  have:=ih (u/10) (by omega);simp only[zan,zap,zat];omega
theorem yl{n:Int}(h0:0<=n)(h1:n<=1099511627776):(Lib.itoa n).length<=1099511627777:=by unfold Lib.itoa;rw[zam (by omega)];have:=Af n.toNat;omega
structure qhA(s:List UInt8):Prop where
 len:s.length<4294967281
 cnt:(Lib.split s [46]).length=Lib.count s [46]+1
 lim:Lib.count s [46]<=4294967281
 each: ∀x∈Lib.split s [46],x.length<=281474976710656
def nT(k:Nat):UInt8:=UInt8.ofNat (48+k)
theorem uf{u:Nat}(h:u<10):Lib.decDigits u=[nT u]:=by rw[Lib.decDigits,dif_pos h];rfl
theorem KN{u:Nat}(h: ¬u<10):Lib.decDigits u=Lib.decDigits (u/10)++[nT (u%10)]:=by rw[Lib.decDigits,dif_neg h];rfl
theorem KO: ∀(k u:Nat),u<10^(k+1)->(Lib.decDigits u).length<=k+1
 |0,u,h=>by rw[uf (by simpa using h)];simp
 |k+1,u,h=>by
  by_cases hu:u<10
  ·rw[uf hu];simp
  rw[KN hu];have:=KO k (u/10) (by rw[zcC (by omega)];rw[Nat.pow_succ] at h;exact h);simp;omega
abbrev sD(s:List UInt8):P:= .d (.str s)
abbrev qcl(n:Int)(s:List UInt8):S:=⟨37,[(0,iD n),(3,sD s)],[]⟩
def qcm:S->K (PX×S):=λs ae=> ∃n,s=qcl n []/\(0<=n/\n<=9223372036854775807)/\ ∀n' s',(0<=n'/\n'<=9/\s'.length<=9223372036854775807/\Lib.decDigits n.toNat=nT n'.toNat::s')->ae (.exit 0,⟨37,[(0,iD n'),(3,sD s')],[]⟩)
def C2:br:=λps R ae=> ∃n,ps=[iD n]/\R=[]/\(0<=n/\n<=9223372036854775807)/\ae (sD (Lib.itoa n),[])
def rJ(s:List UInt8):Nat:=List.length s
def Z15(n:Int):List UInt8:=[UInt8.ofNat (Int.toNat (D.aj (D.int .u8 (IntKind.wrap IntKind.u8 ((48:Int)+Int.tmod n (10:Int))))))]
theorem qcn(n:Int)(s:List UInt8)(ae:PX×S->Prop):(bif decide (n>(9:Int)) then bif decide (Z9<=(48:Int)+Int.tmod n (10:Int)/\(48:Int)+Int.tmod n (10:Int)<=Za) then bif decide (List.length (Z15 n)+rJ s<=Zy) then bif decide (Z9<=Int.tdiv n (10:Int)/\Int.tdiv n (10:Int)<=Za) then ae (PX.normal,S.mk 37 [(0,P.d (D.int .i64 (Int.tdiv n (10:Int)))),(3,P.d (D.str (Z15 n++s)))] []) else False else False else False else ae (PX.exit 0,S.mk 37 [(0,P.d (Zt n)),(3,P.d (D.str s))] []))=(aG [] [] 186 4 (qcl n s)) ae:=by kernel_rfl
def Z1b(n':Int):List UInt8:=[UInt8.ofNat (Int.toNat (D.aj (D.int .u8 (IntKind.wrap IntKind.u8 ((48:Int)+n')))))]
def Z1a(cH:Int):Prop:=(0:Int)<=cH/\cH<=Za
def yn:D:=D.str []
def Z19(n:Int):S:=S.mk 37 [(0,P.d (Zt n)),(3,P.d yn)] []
def Vn(n:Int):Bool:=decide (n<(0:Int))
theorem qfE(n:Int)(ae:P×List (Nat×En)->Prop):(bif Vn n then bif decide (Z9<=(0:Int)-n/\(0:Int)-n<=Za) then False else False else∃(cH:Int),Z19 n=Z19 cH/\Z1a cH/\ ∀(n':Int) (s':List UInt8),(0:Int)<=n'/\n'<=(9:Int)/\rJ s'<=Zy/\Lib.decDigits (Zg cH)=nT (Zg n')::s'->bif decide (Z9<=(48:Int)+n'/\(48:Int)+n'<=Za) then bif decide (List.length (Z1b n')+rJ s'<=Zy) then ae (P.d (D.str (Z1b n'++s')),[]) else False else False)=(aK [(186,λ_ _ _=>False)] [(4,ah (aO 186 4) qcm)] 186 [iD n] []) ae:=by kernel_rfl
def QM:List UInt8:=[(46:UInt8)]
def Z1e(n:Int)(cH:Int):List UInt8:=Lib.itoa n++QM++Lib.itoa cH++QM
def Hb(t:Int)(r:Int)(i:Int):List P:=[P.d (D.agg (Zt t::Zt r::ZE i))]
theorem W3(t r i:Int)(ae:P×List (Nat×En)->Prop):(∃(pG:Int) (cB:Int) (aH:Int),Hb t r i=Hb pG cB aH/\Zx/\bif !cu pG cB aH then ae (P.d yn,[]) else∃(n:Int),Zv t=Zv n/\Zx/\Z1a n/\bif decide (List.length (Lib.itoa n)+1<=Zy) then∃(cH:Int),Zv r=Zv cH/\Zx/\Z1a cH/\bif decide (List.length (Lib.itoa n++QM)+List.length (Lib.itoa cH)<=Zy) then bif decide (List.length (Lib.itoa n++QM++Lib.itoa cH)+1<=Zy) then∃(n_2:Int),Zv i=Zv n_2/\Zx/\Z1a n_2/\bif decide (List.length (Z1e n cH)+List.length (Lib.itoa n_2)<=Zy) then ae (P.d (D.str (Z1e n cH++Lib.itoa n_2)),[]) else False else False else False else False)=(aK [(186,C2),(151,mP)] [] 177 [.d (MT t r i)] []) ae:=by kernel_rfl
variable{X:XF}
theorem yo{k:Int}(h0:0<=k)(h1:k<=9):UInt8.ofNat (Int.toNat (D.aj (D.int .u8 (IntKind.wrap .u8 (48+k)))))=nT k.toNat:=by have:IntKind.wrap .u8 (48+k)=48+k:=IntWalk.u8_in (48+k) ⟨by omega,by omega⟩;simp only[D.aj,this,nT];congr 1;omega
theorem W4:LD X 186 4 (ah (aO 186 4) qcm):=LD.par (H:=[]) (hk:=[]) (by kernel_rfl) (by kernel_rfl) .nil .nil
 (A:=Int) (B:=Int×List UInt8) (λ_ b=>qcl b.1 b.2)
 (λa b=>0<=b.1/\b.1<=9223372036854775807/\b.1.toNat+b.2.length<=9223372036854775807/\Lib.decDigits a.toNat=Lib.decDigits b.1.toNat++b.2)
 (λ_ b=>b.1.toNat)
 (λa x=> ∃n' s',(0<=n'/\n'<=9/\s'.length<=9223372036854775807/\Lib.decDigits a.toNat=nT n'.toNat::s')/\x=(.exit 0,⟨37,[(0,iD n'),(3,sD s')],[]⟩))
 (by
  rintro a ⟨n,s⟩ ⟨h0,h1,hl,he⟩;dsimp only at*
  (rw[<-qcn];delta Zt Zy rJ Z15 Za Z9)
  refine bg (λh=> ?_) λh=> ?_
  ·have ed:Int.tdiv n 10=((n.toNat/10:Nat):Int):=by rw[Int.tdiv_eq_ediv_of_nonneg (by omega)];omega
   have em:Int.tmod n 10=((n.toNat%10:Nat):Int):=by rw[Int.tmod_eq_emod_of_nonneg (by omega)];omega
   rw[ed,em,yo (by omega) (by omega)];refine bs (by omega) (bs (by simp;omega) (bs (by omega) ?_));refine⟨_,?_,(((n.toNat/10:Nat):Int),nT (n.toNat%10)::s),rfl,⟨by omega,by dsimp only;omega,by simp;omega,?_⟩,rfl⟩
   ·dsimp only;omega
   rw[he,KN (by omega: ¬n.toNat<10)];simp only[zb6,zaZ,zb9]
  rw[uf (u:=n.toNat) (by omega)] at he;exact⟨n,s,⟨h0,by omega,by omega,he⟩,rfl⟩)
 (by rintro s ae ⟨n,rfl,⟨h1,h2⟩,h3⟩;refine⟨n,(n,[]),rfl,⟨h1,h2,by simp;omega,by simp⟩,?_⟩;rintro x ⟨n',s',h,rfl⟩;exact h3 n' s' h)
theorem gB{n:Int}(h0:0<=n)(h1:n<=9223372036854775807):(Lib.itoa n).length<=21:=by
 have h:=KO 20 n.toNat (by
  have:(10:Nat)^21=1000000000000000000000:=by decide
  omega)
 unfold Lib.itoa;rw[zam (by omega)];exact h
theorem QN:FD X 186 C2:=FD.mk (H:=[(186,λ_ _ _=>False)]) (hk:=[(4,ah (aO 186 4) qcm)]) (by kernel_rfl) (.cons (λ_ _ _ h=>h.elim) .nil) (.cons W4 .nil) (by
 intro ps R ae hh;obtain⟨n,rfl,rfl,⟨h0,h1⟩,hp⟩:=hh
 (rw[<-qfE];delta Z1b Zg Zy rJ Za Z1a yn Zt Z19 Z9 Vn)
 refine bg (λh=>by omega) λh=>⟨n,rfl,⟨h0,h1⟩,?_⟩
 rintro n' s' ⟨a0,a1,a2,a3⟩;have hs:Lib.itoa n=nT n'.toNat::s':=by rw[<-a3];unfold Lib.itoa;rw[zam (by omega)]
 rw[yo a0 a1];have hl:(Lib.itoa n).length<=21:=gB h0 h1;rw[hs] at hl hp;simp at hl;exact bs (by omega) (bs (by simp;omega) hp))
theorem W5:FD X 177 QL:=FD.mk (H:=[(186,C2),(151,mP)]) (hk:=[]) (by kernel_rfl) (.cons QN (.cons rH .nil)) .nil (by
 intro ps R ae hh;obtain⟨t,r,i,rfl,rfl,hp⟩:=hh
 (rw[<-W3];delta QM Z1e Zy Za Z1a Zt Zv yn Zx ZE Hb)
 refine⟨_,_,_,rfl,rfl,ay (λh=> ?_) λh=> ?_⟩
 ·have h:cu t r i=false:=by simpa using h
  rw[la,zam (by simp[h])] at hp;exact hp
 have h:cu t r i=true:=by simpa using h
 rw[la,zao h] at hp;simp only[cu,zah] at h;have l1:=yl (n:=t) (by omega) (by omega);have l2:=yl (n:=r) (by omega) (by omega);have l3:=yl (n:=i) (by omega) (by omega);exact⟨_,rfl,rfl,⟨by omega,by omega⟩,aq (by simp;omega) ⟨_,rfl,rfl,⟨by omega,by omega⟩,aq (by simp;omega) (aq (by simp;omega) ⟨_,rfl,rfl,⟨by omega,by omega⟩,aq (by simp;omega) hp⟩)⟩⟩)
def IG:List UInt8:=[48,49,50,51,52,53,54,55,56,57,65,66,67,68,69,70,71,72,73,74,75,76,77,78,79,80,81,82,83,84,85,86,87,88,89,90,97,98,99,100,101,102,103,104,105,106,107,108,109,110,111,112,113,114,115,116,117,118,119,120,121,122,46,45,95]
def iC(b:UInt8):Bool:=decide ((48<=b.toNat/\b.toNat<=57)\/(65<=b.toNat/\b.toNat<=90)\/(97<=b.toNat/\b.toNat<=122)\/b.toNat=46\/b.toNat=45\/b.toNat=95)
theorem MY: ∀n:Fin 256,IG.contains (UInt8.ofNat n.val)=iC (UInt8.ofNat n.val):=by decide+kernel
theorem II(b:UInt8):IG.contains b=iC b:=by have:=MY ⟨b.toNat,b.toNat_lt⟩;simpa using this
def dw(s:List UInt8):Bool:=decide (s≠[]/\s.length<=32/\s≠[46]/\s≠[46,46]/\ ∀b∈s,iC b=true)
theorem dropWhile_nil{α:Type}(p:α->Bool): ∀l:List α,l.dropWhile p=[]↔ ∀b∈l,p b=true
 | []=>by simp
 |x::l=>by
  cases h:p x with
  |true=>simp[List.dropWhile,h,dropWhile_nil p l]
  |false=>simp[List.dropWhile,h]
theorem QO(s cs:List UInt8):Lib.trimS s cs=[]↔ ∀b∈s,cs.contains b=true:=by
 unfold Lib.trimS Lib.trimLeftS Lib.trimRightS;rw[dropWhile_nil];constructor
 ·intro h b hb;have hr:b∈s.reverse:=by simpa using hb
  rw[<-List.takeWhile_append_dropWhile (p:=(cs.contains ·)) (l:=s.reverse)] at hr;rcases zaE.1 hr with h1 |h1
  ·exact zbk.1 (List.all_takeWhile (p:=(cs.contains ·)) (l:=s.reverse)) b h1
  exact h b (by simpa using h1)
 intro h b hb;have hb:b∈s.reverse.dropWhile (cs.contains ·):=by simpa using hb
 exact h b (by simpa using(List.dropWhile_sublist _).subset hb)
def pre(c:UInt8)(s:List UInt8):List UInt8:=s.takeWhile (· !=c)
def lb(s:List UInt8)(t r i:Int):List UInt8×Int:=if dw s=true then(if cu t r i=true then(s++126::Bl t r i,0) else([],1)) else([],70)
section
variable{X:XF}
theorem IJ(t r i:Int):(la t r i).length<=2000000:=by
 unfold la;split
 next h=>simp only[cu,zah] at h;have l1:=gB (n:=t) (by omega) (by omega);have l2:=gB (n:=r) (by omega) (by omega);have l3:=gB (n:=i) (by omega) (by omega);simp[Bl];omega
 simp
end
abbrev lD(b:Bool):P:= .d (.bool b)
def QP:br:=λps R ae=> ∃s c,ps=[sD s,sD c]/\R=[]/\(s.length<=9223372036854775807/\c.length<4294967281/\c.all (λb=>decide (b.toNat<128))=true)/\ae (sD (Lib.trimS s c),[])
def Bm:br:=λps R ae=> ∃s,ps=[sD s]/\R=[]/\ae (lD (dw s),[])
def IK:br:=λps R ae=> ∃s t r i,ps=[sD s,.d (MT t r i)]/\R=[]/\ae (.cX [sD (lb s t r i).1,iD (lb s t r i).2],[])
abbrev nmH(s:List UInt8)(k:Int):S:=⟨64,[(0,sD s),(3,iD k)],[]⟩
def vi(c:List UInt8):List P:=[P.d (D.str c)]
def C3(s:List UInt8):Int:=(↑(rJ s):Int)
theorem qco(s:List UInt8)(ae:P×List (Nat×En)->Prop):(bif !s==[] then bif decide (C3 s<=(32:Int)) then bif !s==QM then bif !s==(46:UInt8)::QM then∃(iF:List UInt8) (c:List UInt8),[P.d (D.str s),P.d (D.str (have y:List UInt8:=have y:List UInt8:=have y:List UInt8:=have y:List UInt8:=[(121:UInt8),(122:UInt8),(46:UInt8),(45:UInt8),(95:UInt8)];(117:UInt8)::(118:UInt8)::(119:UInt8)::(120:UInt8)::y;have y:List UInt8:=(113:UInt8)::(114:UInt8)::(115:UInt8)::(116:UInt8)::y;(109:UInt8)::(110:UInt8)::(111:UInt8)::(112:UInt8)::y;have y:List UInt8:=have y:List UInt8:=(105:UInt8)::(106:UInt8)::(107:UInt8)::(108:UInt8)::y;(101:UInt8)::(102:UInt8)::(103:UInt8)::(104:UInt8)::y;have y:List UInt8:=(97:UInt8)::(98:UInt8)::(99:UInt8)::(100:UInt8)::y;(87:UInt8)::(88:UInt8)::(89:UInt8)::(90:UInt8)::y;have y:List UInt8:=have y:List UInt8:=have y:List UInt8:=(83:UInt8)::(84:UInt8)::(85:UInt8)::(86:UInt8)::y;(79:UInt8)::(80:UInt8)::(81:UInt8)::(82:UInt8)::y;have y:List UInt8:=(75:UInt8)::(76:UInt8)::(77:UInt8)::(78:UInt8)::y;(71:UInt8)::(72:UInt8)::(73:UInt8)::(74:UInt8)::y;have y:List UInt8:=have y:List UInt8:=(67:UInt8)::(68:UInt8)::(69:UInt8)::(70:UInt8)::y;(56:UInt8)::(57:UInt8)::(65:UInt8)::(66:UInt8)::y;have y:List UInt8:=(52:UInt8)::(53:UInt8)::(54:UInt8)::(55:UInt8)::y;(48:UInt8)::(49:UInt8)::(50:UInt8)::(51:UInt8)::y))]=P.d (D.str iF)::vi c/\Zx/\(rJ iF<=Zy/\rJ c<4294967281/\(List.all c λ(b:UInt8)=>decide (UInt8.toNat b<128))=true)/\ae (P.d (D.bool (Lib.trimS iF c==[])),[]) else Z4 ae else Z4 ae else Z4 ae else Z4 ae)=(aK [(146,QP)] [] 112 [sD s] []) ae:=by kernel_rfl
def Z1i(k:Int)(ae:PX×S->Prop)(s:List UInt8):Prop:=bif Zj k then ae (PX.normal,S.mk 64 ((0,P.d (D.str s))::ZM k) []) else False
def Vo(s:List UInt8)(k:Int):Int:=(↑(UInt8.toNat (List.getD s (Zg k) (0:UInt8))):Int)
def Z1j(s:List UInt8)(k:Int)(ae:PX×S->Prop):Prop:=bif Vo s k==(46:Int) then Z1i k ae s else bif Vo s k==(45:Int) then Z1i k ae s else bif !Vo s k==(95:Int) then ae (PX.ret,S.mk 64 ZJ []) else Z1i k ae s
def Z1k(s:List UInt8)(k:Int)(ae:PX×S->Prop):Prop:=bif decide (Vo s k>=(97:Int)) then bif decide (Vo s k<=(122:Int)) then Z1i k ae s else Z1j s k ae else Z1j s k ae
def Z1l(s:List UInt8)(k:Int)(ae:PX×S->Prop):Prop:=bif decide (Vo s k>=(65:Int)) then bif decide (Vo s k<=(90:Int)) then Z1i k ae s else Z1k s k ae else Z1k s k ae
theorem qfF(s:List UInt8)(k:Int)(ae:PX×S->Prop):(bif decide (k<C3 s) then bif decide ((0:Int)<=k/\k<C3 s) then bif decide (Vo s k>=(48:Int)) then bif decide (Vo s k<=(57:Int)) then Z1i k ae s else Z1l s k ae else Z1l s k ae else False else ae (PX.exit 0,S.mk 64 [] []))=(aG [] [] 138 4 (nmH s k)) ae:=by kernel_rfl
theorem QQ(s:List UInt8)(t r i:Int)(ae:P×List (Nat×En)->Prop):(∃(iF:List UInt8),vi s=vi iF/\Zx/\bif !dw iF then ae (P.cX [P.d yn,P.d (D.int .i64 (70:Int))],[]) else∃(pG:Int) (cB:Int) (aH:Int),Hb t r i=Hb pG cB aH/\Zx/\bif la pG cB aH==[] then ae (P.cX (P.d yn::ZX),[]) else bif decide (rJ s+1<=Zy) then bif decide (List.length (s++[(126:UInt8)])+List.length (la pG cB aH)<=Zy) then ae (P.cX (P.d (D.str (s++[(126:UInt8)]++la pG cB aH))::qy),[]) else False else False)=(aK [(138,Bm),(177,QL)] [] 152 [sD s,.d (MT t r i)] []) ae:=by kernel_rfl
section
variable{X:XF}
theorem qcp:FD X 146 QP:=FD.sP Tryz.func146 (by kernel_rfl) (by kernel_rfl) (by intro ps R ae hh;obtain⟨s,c,rfl,rfl,hc,hp⟩:=hh;refine⟨_,?_,hp⟩;show KI [.d (.str s),.d (.str c)] []=_;exact zao hc)
theorem qcq:FD X 112 Bm:=FD.mk (H:=[(146,QP)]) (hk:=[]) (by kernel_rfl) (.cons qcp .nil) .nil (by
 intro ps R ae hh;obtain⟨s,rfl,rfl,hp⟩:=hh
 (rw[<-qco];delta Z3 Z4 Zy rJ Zx vi QM C3)
 refine ay (λh1=>bg (λh2=>ay (λh3=>ay (λh4=>⟨s,IG,rfl,rfl,⟨by omega,by decide,by decide⟩,?_⟩) λh4=> ?_) λh3=> ?_) λh2=> ?_) λh1=> ?_
 ·refine fL hp ?_;rw[zaF,dw,zaR,QO];simp only[II,zah];constructor
  ·intro h;exact h.2.2.2.2
  intro h;exact⟨by simpa using h1,by omega,by simpa using h3,by simpa using h4,h⟩
 ·exact fL hp (k9 λh=>by simp at h4;exact h.2.2.2.1 h4)
 ·exact fL hp (k9 λh=>by simp at h3;exact h.2.2.1 h3)
 ·exact fL hp (k9 λh=>by omega)
 exact fL hp (k9 λh=>by simp at h1;exact h.1 h1))
theorem MZ(b:UInt8):iC b=true↔((48<=(b.toNat:Int)/\(b.toNat:Int)<=57)\/(65<=(b.toNat:Int)/\(b.toNat:Int)<=90)\/(97<=(b.toNat:Int)/\(b.toNat:Int)<=122)\/(b.toNat:Int)=46\/(b.toNat:Int)=45\/(b.toNat:Int)=95):=by unfold iC;simp only[zah];omega
theorem FL(p:UInt8->Bool)(s:List UInt8):(∀b∈s,p b=true)↔ ∀i:Nat,i<s.length->p (s.getD i 0)=true:=by
 constructor
 ·intro h i hi;have:=h s[i] (zas hi);simpa [zac,hi] using this
 intro h x hx;obtain⟨i,hi,rfl⟩:=zaW hx;have:=h i hi;simpa [zac,hi] using this
def gNm:S->K (PX×S):=λs ae=> ∃l,s=nmH l 0/\l.length<=32/\(¬(∀b∈l,iC b=true)->ae (.ret,⟨64,[(2,lD false)],[]⟩))/\((∀b∈l,iC b=true)->ae (.exit 0,⟨64,[],[]⟩))
theorem qcr:LD X 138 4 (ah (aO 138 4) gNm):=LD.par (H:=[]) (hk:=[]) (by kernel_rfl) (by kernel_rfl) .nil .nil
 (A:=List UInt8) (B:=Int) (λa k=>nmH a k)
 (λa k=>a.length<=32/\0<=k/\k<=a.length/\ ∀i:Nat,(i:Int)<k->iC (a.getD i 0)=true)
 (λa k=>(a.length-k).toNat)
 (λa x=>((¬ ∀b∈a,iC b=true)/\x=(.ret,⟨64,[(2,lD false)],[]⟩))\/((∀b∈a,iC b=true)/\x=(.exit 0,⟨64,[],[]⟩)))
 (by
  rintro l k ⟨hs,h0,h1,he⟩
  (rw[<-qfF];delta Z3 ZJ Zn ZM Za Z9 Zj Z1i Zg Vo Z1j Z1k Z1l rJ C3)
  have hb:=MZ (l.getD k.toNat 0);have b7: ¬iC (l.getD k.toNat 0)=true->k<l.length-> ¬ ∀b∈l,iC b=true:=λh hk hh=>h ((FL _ l).1 hh k.toNat (by omega));have ec:iC (l.getD k.toNat 0)=true->k<l.length->roundPost (l.length-k).toNat (λm s=> ∃b',s=nmH l b'/\(l.length<=32/\0<=b'/\b'<=(l.length:Int)/\ ∀i:Nat,(i:Int)<b'->iC (l.getD i 0)=true)/\m=(l.length-b').toNat) (λx=>((¬ ∀b∈l,iC b=true)/\x=(.ret,⟨64,[(2,lD false)],[]⟩))\/((∀b∈l,iC b=true)/\x=(.exit 0,⟨64,[],[]⟩))) (PX.normal,nmH l (k+1)):=λh hk=>
   ⟨_,by omega,k+1,rfl,⟨hs,by omega,by omega,λi hi=>by
    by_cases e:(i:Int)=k
    ·have:i=k.toNat:=by omega
     rw[this];exact h
    exact he i (by omega)⟩,rfl⟩
  generalize (((l.getD k.toNat 0).toNat:Nat):Int)=b at*
  refine bg (λh=>bs (by omega) ?_) λh=> .inr ⟨(FL _ l).2 λi hi=>he i (by omega),rfl⟩
  repeat' (first |refine bg (λ_=> ?_) (λ_=> ?_)|refine hY (λ_=> ?_) (λ_=> ?_)|refine Bk (λ_=> ?_) (λ_=> ?_))
  all_goals first
   |exact absurd (pF (k:=k) (by omega) (by omega)) (by simp;omega)
   |exact ec (hb.2 (by omega)) h
   |exact .inl ⟨b7 (λhh=>by have:=hb.1 hh;omega) h,rfl⟩)
 (by
  rintro s ae ⟨l,rfl,h1,h2,h3⟩;refine⟨l,0,rfl,⟨h1,by omega,by omega,λi hi=>by omega⟩,?_⟩;rintro x (⟨h,rfl⟩| ⟨h,rfl⟩)
  ·exact h2 h
  exact h3 h)
end
def pH(l:List (List UInt8)):List UInt8:=l.flatMap λx=>47::x
def W6(l:List (List UInt8)):Nat:=(pH l).length
def Z1m(s:List UInt8):S:=S.mk 64 ((0,P.d (D.str s))::Z13) []
theorem W7(s:List UInt8)(ae:P×List (Nat×En)->Prop):(bif s==[] then Z4 ae else bif decide (C3 s>(32:Int)) then Z4 ae else bif s==QM then Z4 ae else bif s==(46:UInt8)::QM then Z4 ae else∃(l:List UInt8),Z1m s=Z1m l/\rJ l<=32/\((¬∀(b:UInt8),b∈l->iC b=true)->Z4 ae)/\((∀(b:UInt8),b∈l->iC b=true)->ZP ae))=(aK [] [(4,ah (aO 138 4) gNm)] 138 [sD s] []) ae:=by kernel_rfl
section
variable{X:XF}
theorem C4:FD X 138 Bm:=FD.mk (H:=[]) (hk:=[(4,ah (aO 138 4) gNm)]) (by kernel_rfl) .nil (.cons qcr .nil) (by
 intro ps R ae hh;obtain⟨s,rfl,rfl,hp⟩:=hh
 (rw[<-W7];delta ZO ZP rJ Z7 Z13 Z1m QM C3 Z3 Z4)
 refine ay (λh1=> ?_) λh1=>bg (λh2=> ?_) λh2=>ay (λh3=> ?_) λh3=>ay (λh4=> ?_) λh4=>⟨s,rfl,by omega,λb7=> ?_,λec=> ?_⟩
 ·exact fL hp (k9 λh=>h.1 (by simpa using h1))
 ·exact fL hp (k9 λh=>by omega)
 ·exact fL hp (k9 λh=>h.2.2.1 (by simpa using h3))
 ·exact fL hp (k9 λh=>h.2.2.2.1 (by simpa using h4))
 ·exact fL hp (k9 λh=>b7 h.2.2.2.2)
 exact fL hp (k8 ⟨by simpa using h1,by omega,by simpa using h3,by simpa using h4,ec⟩))
theorem yp{t r i:Int}:la t r i=[]↔cu t r i=false:=by
 unfold la;split
 next h=>simp[h,Bl]
 rename_i h;simpa using h
theorem QR:FD X 152 IK:=FD.mk (H:=[(138,Bm),(177,QL)]) (hk:=[]) (by kernel_rfl) (.cons C4 (.cons W5 .nil)) .nil (by
 intro ps R ae hh;obtain⟨s,t,r,i,rfl,rfl,hp⟩:=hh
 (rw[<-QQ];delta Z7 qy Zy rJ ZR ZX Zt ZE Hb yn Zx vi)
 unfold lb at hp;refine⟨s,rfl,rfl,ay (λh=> ?_) λh=>⟨t,r,i,rfl,rfl,ay (λh2=> ?_) λh2=> ?_⟩⟩
 ·rw[zam (by simpa using h)] at hp;exact hp
 ·have h2:cu t r i=false:=yp.1 (by simpa using h2);rw[zao (by simpa using h),zam (by simp[h2])] at hp;exact hp
 have hn:dw s=true:=by simpa using h
 have hi:cu t r i=true:=by
  cases hi:cu t r i with
  |true=>rfl
  |false=>rw[yp.2 hi] at h2;simp at h2
 rw[zao hn,zao hi] at hp;have hl:=IJ t r i;simp only[dw,zah] at hn;refine bs (by omega) (bs (by simp;omega) ?_);rw[la,zao hi];simpa using hp)
end
def IL:br:=λps R ae=> ∃s,ps=[sD s]/\R=[]/\s.length<=2000000/\ae (lD (Lib.validD s),[])
def IP:br:=λps R ae=> ∃s,ps=[sD s]/\R=[]/\s.length<=2000000/\ae (iD (Lib.runeCount ⟨⟨s⟩⟩),[])
def Z1o:List P:=[P.d (D.int .i64 (60:Int))]
def Hc(iF:List UInt8):Prop:=rJ iF<=2000000
theorem qfG(s:List UInt8)(ae:P×List (Nat×En)->Prop):(∃(iF:List UInt8),vi s=vi iF/\Zx/\Hc iF/\bif !Lib.validD iF then ae (P.cX (P.d Z7::Z1o),[]) else∃(s_2:List UInt8),vi s=vi s_2/\Zx/\Hc s_2/\ae (P.cX (P.d (D.int .i64 (↑(Lib.runeCount (ByteArray.mk (Array.mk s_2))):Int))::qy),[]))=(aK [(148,IL),(149,IP)] [] 115 [sD s] []) ae:=by kernel_rfl
section
variable{X:XF}
theorem W8:FD X 148 IL:=FD.sP Tryz.func148 (by kernel_rfl) (by kernel_rfl) (by rintro ps R ae ⟨s,rfl,rfl,hs,hp⟩;exact⟨_,zao (by omega),hp⟩)
theorem W9:FD X 149 IP:=FD.sP Tryz.func149 (by kernel_rfl) (by kernel_rfl) (by rintro ps R ae ⟨s,rfl,rfl,hs,hp⟩;exact⟨_,zao (by omega),hp⟩)
end
abbrev En3:=List UInt8×Bool×List UInt8
def SmE(l:List En3):Prop:=l.length<=2000000/\ ∀e∈l,e.1.length<=2000000/\e.2.2.length<=2000000
def SmX(l:List En3):Prop:=l.length<=2000/\ ∀e∈l,e.1.length<=10000/\e.2.2.length<=10000
section
variable{X:XF}
theorem SmX.e{l:List En3}(h:SmX l):SmE l:=⟨by have:=h.1;omega,λe he=>by have:=h.2 e he;omega⟩
end
def IQ(s:List UInt8):Prop:=(Lib.decodeL s).1=65533/\(Lib.decodeL s).2=1
def IU:br:=λps R ae=> ∃s,ps=[sD s]/\R=[]/\(s≠[]/\s.length<=2000000)/\(IQ s-> ∀c n,ae (.cX [iD c,iD n,lD false],[]))/\(¬IQ s-> ∀(c:Int) (n:Int),n=(Lib.decodeL s).2->1<=n->n.toNat<=s.length->ae (.cX [iD c,iD n,lD true],[]))
def Ou:List P:=[ZO]
def Z1K(s:List UInt8):Int:=(↑(UInt8.toNat (List.getD s 3 (0:UInt8))):Int)
def FM(s:List UInt8):Int:=(↑(UInt8.toNat (List.getD s 2 (0:UInt8))):Int)
def D0(s:List UInt8):Int:=(↑(UInt8.toNat (List.getD s 1 (0:UInt8))):Int)
def Bn(s:List UInt8):Int:=(↑(UInt8.toNat (List.getD s 0 (0:UInt8))):Int)
def Z1I(s:List UInt8):Int:=(Bn s-(240:Int))*(64:Int)
def Z1J(s:List UInt8):Int:=(Z1I s+D0 s-(128:Int))*(64:Int)
def Z1L(s:List UInt8):Int:=(Z1J s+FM s-(128:Int))*(64:Int)
def Z1M(s:List UInt8):Int:=Z1L s+Z1K s-(128:Int)
def Z1N(ae:P×List (Nat×En)->Prop)(s:List UInt8):Prop:=ae (P.cX (P.d (D.int .i64 (Z1M s))::P.d (D.int .i64 (4:Int))::Ou),[])
def Z1D(s:List UInt8):Bool:=decide ((0:Int)<=(1:Int)+(1:Int)/\(1:Int)+(1:Int)<C3 s)
def Z1x(s:List UInt8):Bool:=decide (D0 s>=(192:Int))
def Z1w(s:List UInt8):Bool:=decide (D0 s<(128:Int))
def Z1v(s:List UInt8):Bool:=decide (Z9<=D0 s/\D0 s<=Za)
def Z1t(s:List UInt8):Bool:=decide ((0:Int)<=(1:Int)/\(1:Int)<C3 s)
def Vp:List P:=[P.d Z3]
def vj(ae:P×List (Nat×En)->Prop):Prop:=ae (P.cX (P.d Z7::P.d Z7::Vp),[])
def Z1O(s:List UInt8)(ae:P×List (Nat×En)->Prop):Prop:=bif decide (Bn s>=(240:Int)) then bif decide (Bn s<(245:Int)) then bif decide (Z9<=Bn s-(240:Int)/\Bn s-(240:Int)<=Za) then bif decide (C3 s<(4:Int)) then vj ae else bif Z1t s then bif Z1v s then bif Z1w s then vj ae else bif Z1x s then vj ae else bif decide (Z9<=Z1I s/\Z1I s<=Za) then bif decide (Z9<=Z1I s+D0 s/\Z1I s+D0 s<=Za) then bif decide (Z9<=Z1I s+D0 s-(128:Int)/\Z1I s+D0 s-(128:Int)<=Za) then bif Z1D s then bif decide (Z9<=FM s/\FM s<=Za) then bif decide (FM s<(128:Int)) then vj ae else bif decide (FM s>=(192:Int)) then vj ae else bif decide (Z9<=Z1J s/\Z1J s<=Za) then bif decide (Z9<=Z1J s+FM s/\Z1J s+FM s<=Za) then bif decide (Z9<=Z1J s+FM s-(128:Int)/\Z1J s+FM s-(128:Int)<=Za) then bif decide ((0:Int)<=(1:Int)+(1:Int)+(1:Int)/\(1:Int)+(1:Int)+(1:Int)<C3 s) then bif decide (Z9<=Z1K s/\Z1K s<=Za) then bif decide (Z1K s<(128:Int)) then vj ae else bif decide (Z1K s>=(192:Int)) then vj ae else bif decide (Z9<=Z1L s/\Z1L s<=Za) then bif decide (Z9<=Z1L s+Z1K s/\Z1L s+Z1K s<=Za) then bif decide (Z9<=Z1M s/\Z1M s<=Za) then bif decide (Z1M s<(65536:Int)) then vj ae else bif decide (Z1M s>(1114111:Int)) then vj ae else bif decide (Z1M s>=(55296:Int)) then bif decide (Z1M s<(57344:Int)) then vj ae else Z1N ae s else Z1N ae s else False else False else False else False else False else False else False else False else False else False else False else False else False else False else False else False else vj ae else vj ae
def Z1C(s:List UInt8):Int:=(Bn s-(224:Int))*(64:Int)
def Z1F(s:List UInt8):Int:=(Z1C s+D0 s-(128:Int))*(64:Int)
def Z1G(s:List UInt8):Int:=Z1F s+FM s-(128:Int)
def Z1H(ae:P×List (Nat×En)->Prop)(s:List UInt8):Prop:=ae (P.cX (P.d (D.int .i64 (Z1G s))::P.d (D.int .i64 (3:Int))::Ou),[])
def Z1P(s:List UInt8)(ae:P×List (Nat×En)->Prop):Prop:=bif decide (Bn s>=(224:Int)) then bif decide (Bn s<(240:Int)) then bif decide (Z9<=Bn s-(224:Int)/\Bn s-(224:Int)<=Za) then bif decide (C3 s<(3:Int)) then vj ae else bif Z1t s then bif Z1v s then bif Z1w s then vj ae else bif Z1x s then vj ae else bif decide (Z9<=Z1C s/\Z1C s<=Za) then bif decide (Z9<=Z1C s+D0 s/\Z1C s+D0 s<=Za) then bif decide (Z9<=Z1C s+D0 s-(128:Int)/\Z1C s+D0 s-(128:Int)<=Za) then bif Z1D s then bif decide (Z9<=FM s/\FM s<=Za) then bif decide (FM s<(128:Int)) then vj ae else bif decide (FM s>=(192:Int)) then vj ae else bif decide (Z9<=Z1F s/\Z1F s<=Za) then bif decide (Z9<=Z1F s+FM s/\Z1F s+FM s<=Za) then bif decide (Z9<=Z1G s/\Z1G s<=Za) then bif decide (Z1G s<(2048:Int)) then vj ae else bif decide (Z1G s>(1114111:Int)) then vj ae else bif decide (Z1G s>=(55296:Int)) then bif decide (Z1G s<(57344:Int)) then vj ae else Z1H ae s else Z1H ae s else False else False else False else False else False else False else False else False else False else False else False else Z1O s ae else Z1O s ae
def Xa:D:=D.int .i64 (2:Int)
def Z1y(s:List UInt8):Int:=(Bn s-(192:Int))*(64:Int)
def Z1z(s:List UInt8):Int:=Z1y s+D0 s-(128:Int)
def Z1B(ae:P×List (Nat×En)->Prop)(s:List UInt8):Prop:=ae (P.cX (P.d (D.int .i64 (Z1z s))::P.d Xa::Ou),[])
theorem Xb(s:List UInt8)(ae:P×List (Nat×En)->Prop):(bif decide ((0:Int)<=(0:Int)/\(0:Int)<C3 s) then bif decide (Z9<=Bn s/\Bn s<=Za) then bif decide (Bn s<(128:Int)) then ae (P.cX (P.d (D.int .i64 (Bn s))::P.d ZR::Ou),[]) else bif decide (Bn s>=(194:Int)) then bif decide (Bn s<(224:Int)) then bif decide (Z9<=Bn s-(192:Int)/\Bn s-(192:Int)<=Za) then bif decide (C3 s<(2:Int)) then vj ae else bif Z1t s then bif Z1v s then bif Z1w s then vj ae else bif Z1x s then vj ae else bif decide (Z9<=Z1y s/\Z1y s<=Za) then bif decide (Z9<=Z1y s+D0 s/\Z1y s+D0 s<=Za) then bif decide (Z9<=Z1z s/\Z1z s<=Za) then bif decide (Z1z s>(1114111:Int)) then vj ae else bif decide (Z1z s>=(55296:Int)) then bif decide (Z1z s<(57344:Int)) then vj ae else Z1B ae s else Z1B ae s else False else False else False else False else False else False else Z1P s ae else Z1P s ae else False else False)=(aK [] [] 168 [sD s] []) ae:=by kernel_rfl
abbrev rsH(s:List UInt8)(o:List (List UInt8)):S:=⟨29,[(0,sD s),(4,.sl 0 0 o.length)],[(0,⟨0,none,.arr 9 false (o.map D.str)⟩)]⟩
def QS(o:List (List UInt8)):En:=En.mk 0 none (Obj.arr (9:TypeId) false (List.map D.str o))
def Z1W(ae:P×List (Nat×En)->Prop)(o:List (List UInt8)):Prop:=ae (P.cX (P.sl 0 0 (List.length o)::qy),[(0,QS o)])
def QT(iF:List UInt8):Prop:=Lib.validD iF=true
def Z1Q:En:=En.mk 0 none (Obj.arr (9:TypeId) false [])
def QU(iF:List UInt8):Prop:=Lib.validD iF=false
def Z1T(iF:List UInt8)(ae:P×List (Nat×En)->Prop):Prop:=QU iF-> ∀(_:List (List UInt8)),ae (P.cX (ZQ::Z1o),[(0,Z1Q)])
def Z1R(s:List UInt8):S:=S.mk 29 [(0,P.d (D.str s)),(4,ZQ)] [(0,Z1Q)]
def Z1X(ae:P×List (Nat×En)->Prop)(o:List (List UInt8)):Prop:=ae (P.cX (P.d (D.int .i64 (↑(List.length o):Int))::qy),[])
def Z1Z(o:List (List UInt8))(n:Int)(s:List UInt8):Nat:=List.length o+List.length [D.str (List.drop 0 (List.take (Zg n) s))]
def KP(o:List (List UInt8)):Nat×En:=(1,QS o)
theorem qfH(s:List UInt8)(o:List (List UInt8))(ae:PX×S->Prop):(bif decide (C3 s>(0:Int)) then∃(iF:List UInt8),vi s=vi iF/\Zx/\(iF≠[]/\Hc iF)/\(IQ iF-> ∀(_ _:Int),ae (PX.ret,S.mk 29 [(2,ZQ),(3,P.d (D.int .i64 (60:Int))),(4,P.sl 1 0 (List.length o))] [(0,Z1Q),KP o]))/\(¬IQ iF-> ∀(_ n:Int),n=(↑(Prod.snd (Lib.decodeL iF)):Int)->(1:Int)<=n->Zg n<=rJ iF->bif decide ((0:Int)<=n/\n<=C3 s) then bif Nat.ble (List.length o) (List.length (List.map D.str o))&&aM (Z1Z o n s) 16 then bif decide ((0:Int)<=n/\n<=C3 s) then ae (PX.normal,S.mk 29 [(0,P.d (D.str (List.drop (Zg n) (List.take (rJ s) s)))),(4,P.sl 0 0 (Z1Z o n s))] [(0,En.mk 0 none (Obj.arr (9:TypeId) false (List.take (List.length o) (List.map D.str o)++[D.str (List.drop 0 (List.take (Zg n) s))])))]) else False else False else False) else ae (PX.exit 0,S.mk 29 [(4,P.sl 0 0 (List.length o))] [(0,QS o)]))=(aG [(168,IU)] [] 144 2 (rsH s o)) ae:=by kernel_rfl
def FO(n b0 b1 b2 b3:Nat):Nat×Nat:=
 if b0<128 then(b0,1) else
 if b0/32=6/\1<n/\b1/64=2 then(if 128<=(b0%32)*64+b1%64 then((b0%32)*64+b1%64,2) else(65533,1)) else
 if b0/16=14/\(1<n/\b1/64=2)/\2<n/\b2/64=2 then(if 2048<=(b0%16)*4096+(b1%64)*64+b2%64/\((b0%16)*4096+(b1%64)*64+b2%64<55296\/57344<=(b0%16)*4096+(b1%64)*64+b2%64/\(b0%16)*4096+(b1%64)*64+b2%64<=1114111) then((b0%16)*4096+(b1%64)*64+b2%64,3) else(65533,1)) else
 if b0/8=30/\(1<n/\b1/64=2)/\(2<n/\b2/64=2)/\3<n/\b3/64=2 then(if 65536<=(b0%8)*262144+(b1%64)*4096+(b2%64)*64+b3%64/\((b0%8)*262144+(b1%64)*4096+(b2%64)*64+b3%64<55296\/57344<=(b0%8)*262144+(b1%64)*4096+(b2%64)*64+b3%64/\(b0%8)*262144+(b1%64)*4096+(b2%64)*64+b3%64<=1114111) then((b0%8)*262144+(b1%64)*4096+(b2%64)*64+b3%64,4) else(65533,1)) else(65533,1)
theorem QV(s:List UInt8)(k:Nat):(ByteArray.mk s.toArray).get! k=s.getD k 0:=by
 show s.toArray.getD k 0=_;simp[Array.getD,zac];split
 next h=>simp[h]
 rename_i h;simp[zbn (by omega:s.length<=k)]
theorem M0(s:List UInt8):Lib.decodeL s=FO s.length (s.getD 0 0).toNat (s.getD 1 0).toNat (s.getD 2 0).toNat (s.getD 3 0).toNat:=by
 have hs:(ByteArray.mk s.toArray).size=s.length:=rfl;have hv: ∀c:Nat,Utf8.valid (c:Int)=decide (c<55296\/57344<=c/\c<=1114111):=λc=>by unfold Utf8.valid;rw[zaF];simp only[zba,zab,zah];omega
 unfold Lib.decodeL Utf8.decode FO;simp only[QV,zaG,hs,hv,zab,zaR,zah,ge_iff_le,Utf8.runeError,and_assoc]
section
variable{X:XF}
theorem Xc:FD X 168 IU:=FD.mk (H:=[]) (hk:=[]) (by kernel_rfl) .nil .nil (by
 intro ps R ae hh;obtain⟨s,rfl,rfl,⟨dI,hs⟩,h1,h2⟩:=hh
 (rw[<-Xb];delta ZO Ou Z1K FM D0 Bn Z1I Z1J Z1L Z1M Z1N rJ C3 Z1D Z1x Z1w Za Z9 Z1v Z1t Z3 Vp Z7 vj Z1O Z1C Z1F Z1G Z1H Z1P Xa Z1y Z1z Z1B ZR)
 have qh7:0<s.length:=zbM.2 dI;unfold IQ at h1 h2;rw[M0] at h1 h2;have Co:=(s.getD 0 0).toNat_lt;have jL:=(s.getD 1 0).toNat_lt;have cr:=(s.getD 2 0).toNat_lt;have lE:=(s.getD 3 0).toNat_lt;generalize (s.getD 0 0).toNat=b0 at Co h1 h2;generalize (s.getD 1 0).toNat=b1 at jL h1 h2;generalize (s.getD 2 0).toNat=b2 at cr h1 h2;generalize (s.getD 3 0).toNat=b3 at lE h1 h2;generalize s.length=n at qh7 hs h1 h2;have bad:FO n b0 b1 b2 b3=(65533,1)->ae (.cX [iD 0,iD 0,lD false],[]):=λh=>h1 (by rw[h];exact⟨rfl,rfl⟩) 0 0;have qfI:b0<128-> ∀c,ae (.cX [iD c,iD 1,lD true],[]):=λh c=>by
  have e:FO n b0 b1 b2 b3=(b0,1):=by unfold FO;rw[zao h]
  rw[e] at h2;exact h2 (λh=>by have:=h.1;simp only at this;omega) c 1 rfl (by omega) (by omega)
 have qcs: ∀c (k:Int),(FO n b0 b1 b2 b3).2=k.toNat->2<=k->k.toNat<=n->ae (.cX [iD c,iD k,lD true],[]):=λc k h3 h4 h5=>h2 (λh=>by rw[h3] at h;omega) c k (by omega) (by omega) h5;clear h1 h2
 repeat' (first |refine bs (by omega) ?_ |refine bg (λh=> ?_) (λh=> ?_))
 all_goals first
  | (refine bad ?_;unfold FO;(repeat' split);all_goals first |rfl | (exfalso;omega))
  |exact qfI (by omega) _
  | (refine qcs _ _ ?_ (by omega) (by omega);unfold FO;(repeat' split);all_goals first |rfl | (exfalso;omega)))
end
def qz(x y:Int):Int:=if x<y then-1 else if x>y then 1 else 0
def KQ(x y:Int):Int:=if x≠0 then x else y
def pI(t r t' r':Int):Int:=KQ (qz t t') (qz r r')
def yq(t r i t' r' i':Int):Int:=KQ (pI t r t' r') (qz i i')
def rK(t r t' r':Int):Bool:=decide (t<t'\/t=t'/\r<r')
abbrev itD(t r i:Int)(p:List UInt8)(d b:Bool):D:= .agg [.int .i64 t,.int .i64 r,.int .i64 i,.str p,.bool d,.bool b]
def Z22(ae:P×List (Nat×En)->Prop):Prop:=ae (P.d ZR,[])
def QW:P:=P.d (D.int .i64 (-1:Int))
def oO(ae:P×List (Nat×En)->Prop):Prop:=ae (QW,[])
def Z23(x:Int)(y:Int)(ae:P×List (Nat×En)->Prop):Prop:=bif ZI x y then oO ae else bif decide (x>y) then Z22 ae else Z8 ae
theorem M1(x y:Int)(ae:P×List (Nat×En)->Prop):(bif x !=x then bif y !=y then Z8 ae else oO ae else bif y !=y then Z22 ae else Z23 x y ae)=(aK [] [] 100 [.d (.int .i64 x),.d (.int .i64 y)] []) ae:=by kernel_rfl
theorem qh8(x y:Int)(ae:P×List (Nat×En)->Prop):(bif D.aj (D.nth (Zt x::ZE y) 0) !=(0:Int) then ae (P.d (D.int .i64 (D.aj (D.nth (Zt x::ZE y) 0))),[]) else bif D.aj (D.nth (Zt x::ZE y) 1) !=(0:Int) then ae (P.d (D.int .i64 (D.aj (D.nth (Zt x::ZE y) 1))),[]) else Z8 ae)=(aK [] [] 99 [.d (.sl 1 [.int .i64 x,.int .i64 y])] []) ae:=by kernel_rfl
theorem QX(t r t' r':Int)(ae:P×List (Nat×En)->Prop):(bif decide (t<t') then ae (P.d (D.bool true),[]) else bif t==t' then ae (P.d (D.bool (decide (r<r'))),[]) else ae (P.d (D.bool false),[]))=(aK [] [] 14 [.d (Vl t r),.d (Vl t' r')] []) ae:=by kernel_rfl
def gg:br:=λps R ae=> ∃x y,ps=[.d (.int .i64 x),.d (.int .i64 y)]/\R=[]/\ae (.d (.int .i64 (qz x y)),[])
def hOr:br:=λps R ae=> ∃x y,ps=[.d (.sl 1 [.int .i64 x,.int .i64 y])]/\R=[]/\ae (.d (.int .i64 (KQ x y)),[])
def wH:br:=λps R ae=> ∃t r t' r',ps=[.d (Vl t r),.d (Vl t' r')]/\R=[]/\ae (.d (.bool (rK t r t' r')),[])
def ug:br:=λps R ae=> ∃t r t' r',ps=[.d (Vl t r),.d (Vl t' r')]/\R=[]/\ae (.d (.int .i64 (pI t r t' r')),[])
def iS:br:=λps R ae=> ∃t r i t' r' i',ps=[.d (MT t r i),.d (MT t' r' i')]/\R=[]/\ae (.d (.int .i64 (yq t r i t' r' i')),[])
def Z24(t:Int)(t':Int)(x:Int)(y:Int):Prop:=P.d (Zt t)::Zv t'=P.d (Zt x)::Zv y
theorem qfJ(t r t' r':Int)(ae:P×List (Nat×En)->Prop):(∃(x:Int) (y:Int),Z24 t t' x y/\Zx/\ ∃(aJ:Int) (C5:Int),Z24 r r' aJ C5/\Zx/\ ∃(x_2:Int) (y_2:Int),[P.d (D.sl 1 [D.int .i64 (qz x y),D.int .i64 (qz aJ C5)])]=[P.d (D.sl 1 (Zt x_2::ZE y_2))]/\Zx/\ae (P.d (D.int .i64 (KQ x_2 y_2)),[]))=(aK [(100,gg),(99,hOr)] [] 66 [.d (Vl t r),.d (Vl t' r')] []) ae:=by kernel_rfl
def IV(t:Int)(r:Int)(t':Int)(r':Int):List P:=[P.d (D.agg (Zt t::ZE r)),P.d (D.agg (Zt t'::ZE r'))]
theorem qct(t r t' r':Int)(ae:P×List (Nat×En)->Prop):(∃(pG:Int) (cB:Int) (C6:Int) (C7:Int),IV t r t' r'=IV pG cB C6 C7/\Zx/\bif rK pG cB C6 C7 then oO ae else∃(t_2:Int) (vn:Int) (qfK:Int) (qfL:Int),IV t' r' t r=IV t_2 vn qfK qfL/\Zx/\bif rK t_2 vn qfK qfL then Z22 ae else Z8 ae)=(aK [(14,wH)] [] 117 [.d (Vl t r),.d (Vl t' r')] []) ae:=by kernel_rfl
theorem Xd(t r i t' r' i':Int)(ae:P×List (Nat×En)->Prop):(∃(pG:Int) (cB:Int) (C6:Int) (C7:Int),IV t r t' r'=IV pG cB C6 C7/\Zx/\ ∃(x:Int) (y:Int),Z24 i i' x y/\Zx/\ ∃(aJ:Int) (C5:Int),[P.d (D.sl 1 [D.int .i64 (pI pG cB C6 C7),D.int .i64 (qz x y)])]=[P.d (D.sl 1 (Zt aJ::ZE C5))]/\Zx/\ae (P.d (D.int .i64 (KQ aJ C5)),[]))=(aK [(100,gg),(99,hOr),(66,ug)] [] 150 [.d (MT t r i),.d (MT t' r' i')] []) ae:=by kernel_rfl
theorem QY(t r i t' r' i':Int)(ae:P×List (Nat×En)->Prop):(∃(pG:Int) (cB:Int) (C6:Int) (C7:Int),IV t r t' r'=IV pG cB C6 C7/\Zx/\bif pI pG cB C6 C7 !=(0:Int) then ae (P.d (D.int .i64 (pI pG cB C6 C7)),[]) else Z23 i i' ae)=(aK [(117,ug)] [] 88 [.d (MT t r i),.d (MT t' r' i')] []) ae:=by kernel_rfl
theorem pJ{ae:P×List (Nat×En)->Prop}{k:IntKind}{a b:Int}{R:List (Nat×En)}(hp:ae (P.d (D.int k a),R))(h:a=b):ae (P.d (D.int k b),R):=h▸hp
theorem yr{ae:P×List (Nat×En)->Prop}{a b:Bool}{R:List (Nat×En)}(hp:ae (P.d (D.bool a),R))(h:a=b):ae (P.d (D.bool b),R):=h▸hp
theorem yu(x:Int):(x !=x)=false:=by simp
theorem FP: ∀ps R ae,gg ps R ae->aK [] [] 100 ps R ae:=by
 intro ps R ae hh;obtain⟨x,y,rfl,rfl,hp⟩:=hh
 (rw[<-M1];delta Z7 Z8 ZR Z22 QW oO ZI Z23)
 refine jq (yu x) (jq (yu y) ?_);refine ay (λh=> ?_) λh=>ay (λh'=> ?_) λh'=> ?_
 ·exact pJ hp (by
   have h:x<y:=by simpa using h
   simp[qz,h])
 ·exact pJ hp (by
   have h: ¬x<y:=by simpa using h
   have h':x>y:=by simpa using h'
   simp[qz,h,h'])
 exact pJ hp (by
  have h: ¬x<y:=by simpa using h
  have h': ¬x>y:=by simpa using h'
  simp[qz,h,h'])
theorem bOr: ∀ps R ae,hOr ps R ae->aK [] [] 99 ps R ae:=by
 intro ps R ae hh;obtain⟨x,y,rfl,rfl,hp⟩:=hh
 (rw[<-qh8];delta Z7 Z8 Zt ZE)
 refine ay (λh=> ?_) λh=>ay (λh'=> ?_) λh'=> ?_
 ·exact pJ hp (by
   have h:x≠0:=by simpa [D.nth,D.aj] using h
   simp[KQ,h,D.nth,D.aj])
 ·exact pJ hp (by
   have h:x=0:=by simpa [D.nth,D.aj] using h
   simp[KQ,h,D.nth,D.aj])
 exact pJ hp (by
  have h:x=0:=by simpa [D.nth,D.aj] using h
  have h':y=0:=by simpa [D.nth,D.aj] using h'
  simp[KQ,h,h'])
theorem Xe: ∀ps R ae,wH ps R ae->aK [] [] 14 ps R ae:=by
 intro ps R ae hh;obtain⟨t,r,t',r',rfl,rfl,hp⟩:=hh;rw[<-QX];refine ay (λh=> ?_) λh=>ay (λh'=> ?_) λh'=> ?_
 ·exact yr hp (by
   have h:t<t':=by simpa using h
   simp[rK,h])
 ·exact yr hp (by
   have h':t=t':=by simpa using h'
   simp[rK,h'])
 exact yr hp (by
  have h: ¬t<t':=by simpa using h
  have h': ¬t=t':=by simpa using h'
  simp[rK,h'];omega)
theorem qfM: ∀ps R ae,ug ps R ae->aK [(100,gg),(99,hOr)] [] 66 ps R ae:=by
 intro ps R ae hh;obtain⟨t,r,t',r',rfl,rfl,hp⟩:=hh
 (rw[<-qfJ];delta Zt ZE Zx Zv Z24)
 exact⟨_,_,rfl,rfl,_,_,rfl,rfl,_,_,rfl,rfl,hp⟩
theorem qcu: ∀ps R ae,iS ps R ae->aK [(100,gg),(99,hOr),(66,ug)] [] 150 ps R ae:=by
 intro ps R ae hh;obtain⟨t,r,i,t',r',i',rfl,rfl,hp⟩:=hh
 (rw[<-Xd];delta Zt ZE Zv Z24 Zx IV)
 exact⟨_,_,_,_,rfl,rfl,_,_,rfl,rfl,_,_,rfl,rfl,hp⟩
section
variable{X:XF}
theorem FQ:FD X 14 wH:=FD.mk (H:=[]) (by kernel_rfl) .nil .nil Xe
theorem qcv:FD X 117 ug:=FD.mk (H:=[(14,wH)]) (by kernel_rfl) (.cons FQ .nil) .nil (by
 intro ps R ae hh;obtain⟨t,r,t',r',rfl,rfl,hp⟩:=hh
 (rw[<-qct];delta Z7 Z8 ZR Z22 QW oO Zx Zt ZE IV)
 refine⟨_,_,_,_,rfl,rfl,ay (λh=> ?_) λh=>⟨_,_,_,_,rfl,rfl,ay (λh'=> ?_) λh'=> ?_⟩⟩
 all_goals exact pJ hp (by simp only[rK,zah,zaO] at*;simp only[pI,KQ,qz];(repeat' split)<;>omega))
theorem mQ:FD X 88 iS:=FD.mk (H:=[(117,ug)]) (by kernel_rfl) (.cons qcv .nil) .nil (by
 intro ps R ae hh;obtain⟨t,r,i,t',r',i',rfl,rfl,hp⟩:=hh
 (rw[<-QY];delta Z7 Z8 ZR Z22 QW oO ZI Z23 Zx Zt ZE IV)
 refine⟨_,_,_,_,rfl,rfl,ay (λh=> ?_) λh=>ay (λh'=> ?_) λh'=>ay (λh''=> ?_) λh''=> ?_⟩
 all_goals exact pJ hp (by simp only[bne_iff_ne,bne_eq_false_iff_eq,ne_eq,zah,zaO] at*;simp only[yq,KQ,qz];(repeat' split)<;>omega))
theorem Bo:FD X 100 gg:=FD.mk (H:=[]) (by kernel_rfl) .nil .nil FP
theorem qfN:FD X 99 hOr:=FD.mk (H:=[]) (by kernel_rfl) .nil .nil bOr
theorem qaP:FD X 66 ug:=FD.mk (H:=[(100,gg),(99,hOr)]) (by kernel_rfl) (.cons Bo (.cons qfN .nil)) .nil qfM
theorem Xf:FD X 150 iS:=FD.mk (H:=[(100,gg),(99,hOr),(66,ug)]) (by kernel_rfl) (.cons Bo (.cons qfN (.cons qaP .nil))) .nil qcu
end
theorem M3:FC 100 gg:=FC.mk (H:=[]) (by kernel_rfl) .nil FP
theorem qh9:FC 99 hOr:=FC.mk (H:=[]) (by kernel_rfl) .nil bOr
theorem qaQ:FC 66 ug:=FC.mk (H:=[(100,gg),(99,hOr)]) (by kernel_rfl) (.cons M3 (.cons qh9 .nil)) qfM
theorem FC.qfO{g:Nat}{h:br}(hf:FC g h){x y:D}{i:Int}(hp:h [.d x,.d y] [] (λz=>z=(.d (.int .i64 i),[]))):ya PR yh g x y i:=by obtain⟨z,h1,h2⟩:=hf _ _ _ hp;subst h2;exact h1
abbrev av:=Int×Int×Int
def bE(x:av):D:= .agg [.int .i64 x.1,.int .i64 x.2.1,.int .i64 x.2.2]
abbrev cR(l:List av):P:= .d (.sl 3 (l.map bE))
abbrev Pl:=av×av×List UInt8×Bool
def bK(p:Pl):D:= .agg [.int .i64 p.1.1,.int .i64 p.1.2.1,.int .i64 p.1.2.2,.int .i64 p.2.1.1,.int .i64 p.2.1.2.1,.int .i64 p.2.1.2.2,.str p.2.2.1,.bool p.2.2.2]
abbrev eH(l:List Pl):P:= .d (.sl 8 (l.map bK))
def yw(p:Pl):Bool:=cu p.1.1 p.1.2.1 p.1.2.2&&dw p.2.2.1
def eo(T:List Pl)(x:av):Option Pl:=T.find? λp=>p.1==x
def IW(T:List Pl)(p:Pl):List Pl:=if(eo T p.1).isSome then T else if yw p then T++[p] else T
def oP(l:List Pl):List Pl:=l.foldl IW []
theorem hZ(p:Pl):cD PR 104 (bK p)=true:=by obtain⟨⟨a,b,c⟩,⟨d,e,f⟩,g,h⟩:=p;kernel_rfl
theorem lJ(x:av):cD PR 50 (bE x)=true:=by obtain⟨a,b,c⟩:=x;kernel_rfl
def sV:Pl:=((0,0,0),(0,0,0),[],false)
theorem iT{l:List Pl}{i:Nat}(h:i<l.length):D.nth (l.map bK) i=bK (l.getD i sV):=by rw[aA bK l i h];simp[zac,h]
theorem qcw{l:List av}{i:Nat}(h:i<l.length):D.nth (l.map bE) i=bE (l.getD i (0,0,0)):=by rw[aA bE l i h];simp[zac,h]
theorem IX{α β:Type}(f:β->α->β)(b:β)(l:List α)(d:α)(k:Nat)(h:k<l.length):(l.take (k+1)).foldl f b=f ((l.take k).foldl f b) (l.getD k d):=by rw[zb7,zae h,za2];simp[zac,h]
section
variable{X:XF}
end
def Xg(T:List Pl):Nat->av->List av->Option (List av)
 |0,_,_=>none
 |n+1,x,out=>match eo T x with
  |none=>none
  |some p=>if 0<out.length/\p.2.2.2=false then none else if p.2.1=(0,0,0) then some (out++[x]) else Xg T n p.2.1 (out++[x])
def wy(T:List Pl)(x:av):Option (List av):=Xg T (T.length+1) x []
def mj(x y:av):Bool:=decide (x.1<y.1\/x.1=y.1/\(x.2.1<y.2.1\/x.2.1=y.2.1/\x.2.2<y.2.2))
theorem h9(x y:av):yq x.1 x.2.1 x.2.2 y.1 y.2.1 y.2.2<0↔mj x y=true:=by
 unfold mj;simp only[zah,yq,pI,KQ,qz]
 (repeat' split)<;>omega
structure He{α:Type}(lt:α->α->Bool):Prop where
 Ky: ∀x,lt x x=false
 tr: ∀x y z,lt x y=true->lt y z=true->lt x z=true
 ri: ∀x y,lt x y=false->lt y x=false->x=y
theorem qaR:He mj where
 Ky x:=by simp[mj]
 tr x y z:=by simp only[mj,zah];omega
 ri x y:=by
  simp only[mj,zaO];intro h1 h2;obtain⟨a,b,c⟩:=x;obtain⟨d,e,f⟩:=y;simp only at h1 h2;have:a=d:=by omega
  have:b=e:=by omega
  have:c=f:=by omega
  subst_vars
  rfl
theorem He.asymm{α:Type}{lt:α->α->Bool}(h:He lt){x y:α}(h1:lt x y=true):lt y x=false:=by
 cases h2:lt y x with
 |false=>rfl
 |true=>have:=h.tr _ _ _ h1 h2;rw[h.Ky] at this;cases this
theorem He.ntr{α:Type}{lt:α->α->Bool}(h:He lt){x y z:α}(h1:lt x y=false)(h2:lt y z=false):lt x z=false:=by
 cases h3:lt x z with
 |false=>rfl
 |true=>
  cases h4:lt y x with
  |true=>rw[h.tr _ _ _ h4 h3] at h2;cases h2
  |false=>have:=h.ri _ _ h1 h4;subst this;rw[h3] at h2;cases h2
section
variable{α:Type}(lt:α->α->Bool)
def nU(a:α):List α->List α
 | []=>[a]
 |b::r=>if lt a b then b::nU a r else a::b::r
def cL(o:List α)(a:α):List α:=(nU lt a o.reverse).reverse
def cj(l:List α):List α:=l.foldl (cL lt) []
variable{lt}
theorem uh(a:α): ∀l,(nU lt a l).Perm (a::l)
 | []=> .refl _
 |b::r=>by
  unfold nU;split
  ·exact((uh a r).cons b).trans (.swap a b r)
  exact .refl _
theorem gL(o:List α)(a:α):(cL lt o a).Perm (o++[a]):=by unfold cL;refine(zcW _).trans ((uh a _).trans ?_);exact((zcW o).cons a).trans (List.perm_append_comm (l₁:=[a]) (l₂:=o))
theorem yx: ∀(l o:List α),(l.foldl (cL lt) o).Perm (o++l)
 | [],o=>by simp
 |a::r,o=>by refine(yx r _).trans ?_;exact((gL o a).append_right r).trans (by simp)
theorem b9(l:List α):(cj lt l).Perm l:=by simpa [cj] using yx (lt:=lt) l []
theorem KR(h:He lt)(a:α): ∀l,l.Pairwise (λx y=>lt x y=false)->(nU lt a l).Pairwise (λx y=>lt x y=false)
 | [],_=>by simp[nU]
 |b::r,hp=>by
  unfold nU;have Oo:=zcl.1 hp;split
  next hl=>
   refine zcl.2 ⟨λy hy=> ?_,KR h a r Oo.2⟩;rcases zav.1 ((uh a r).mem_iff.1 hy) with rfl |hy
   ·exact h.asymm hl
   exact Oo.1 _ hy
  rename_i hl;have hl:lt a b=false:=by simpa using hl
  refine zcl.2 ⟨λy hy=> ?_,hp⟩;rcases zav.1 hy with rfl |hy
  ·exact hl
  exact h.ntr hl (Oo.1 _ hy)
theorem KS(h:He lt){o:List α}(a:α)(hp:o.Pairwise (λx y=>lt y x=false)):(cL lt o a).Pairwise (λx y=>lt y x=false):=by unfold cL;rw[zcE];exact KR h a _ (by rw[zcE];exact hp)
theorem FR(h:He lt): ∀(l o:List α),o.Pairwise (λx y=>lt y x=false)->(l.foldl (cL lt) o).Pairwise (λx y=>lt y x=false)
 | [],_,hp=>hp
 |a::r,_,hp=>FR h r _ (KS h a hp)
theorem FT(h:He lt)(l:List α):(cj lt l).Pairwise (λx y=>lt y x=false):=FR h l [] .nil
end
theorem yy{α β:Type}{lt:β->β->Bool}(h:He lt)(key:α->β){a b:List α}(hk: ∀x∈a,∀y∈a,key x=key y->x=y)(hp:a.Perm b)
  (ha:a.Pairwise (λx y=>lt (key y) (key x)=false)) (hb:b.Pairwise (λx y=>lt (key y) (key x)=false)):a=b:=
 List.Perm.eq_of_pairwise (le:=λx y=>lt (key y) (key x)=false) (λx y hx hy h1 h2=>hk x hx y (hp.mem_iff.2 hy) (h.ri _ _ h2 h1)) ha hb hp
theorem FU{α β:Type}{lt:β->β->Bool}(key:α->β)(a:α): ∀l:List α,(nU (λx y=>lt (key x) (key y)) a l).map key=nU lt (key a) (l.map key)
 | []=>rfl
 |b::r=>by
  simp only[nU,zbm];split
  ·simp[FU key a r]
  simp
theorem QZ{α β:Type}{lt:β->β->Bool}(key:α->β)(o:List α)(a:α):(cL (λx y=>lt (key x) (key y)) o a).map key=cL lt (o.map key) (key a):=by unfold cL;rw[List.map_reverse,FU,List.map_reverse]
theorem Bp{α β:Type}{lt:β->β->Bool}(key:α->β): ∀l o:List α,(l.foldl (cL (λx y=>lt (key x) (key y))) o).map key=(l.map key).foldl (cL lt) (o.map key)
 | [],_=>rfl
 |a::r,o=>by simp only[za9,zbm];rw[Bp key r,QZ]
theorem mR{α β:Type}{lt:β->β->Bool}(h:He lt)(key:α->β)(l:List α):(cj (λx y=>lt (key x) (key y)) l).Pairwise (λx y=>lt (key y) (key x)=false):=by have e:(cj (λx y=>lt (key x) (key y)) l).map key=cj lt (l.map key):=Bp key l [];have:=FT h (l.map key);rw[<-e,zcs] at this;exact this
abbrev aB:av:=(0,0,0)
inductive Up(T:List Pl):av->List av->Prop
 |top {x:av} {p:Pl} (h:eo T x=some p) (h0:p.2.1=aB):Up T x [x]
 |step {x:av} {p q:Pl} {w:List av} (h:eo T x=some p) (h0:p.2.1≠aB) (hq:eo T p.2.1=some q) (hd:q.2.2.2=true) (hw:Up T p.2.1 w):Up T x (x::w)
section
variable{T:List Pl}
theorem jr{x:av}{p:Pl}(h:eo T x=some p):p∈T/\p.1=x:=by unfold eo at h;exact⟨zco h,by simpa using zc7 h⟩
theorem Up.one{x:av}{w:List av}(h:Up T x w): ∀{w'},Up T x w'->w=w':=by
 induction h with
 |top h h0=>
  intro w' h';cases h' with
  |top=>rfl
  |step h1 h2=>rw[h] at h1;cases h1;exact absurd h0 h2
 |step h h0 hq hd hw ih=>
  intro w' h';cases h' with
  |top h1 h2=>rw[h] at h1;cases h1;exact absurd h2 h0
  |step h1 h2 _ _ h5=>rw[h] at h1;cases h1;rw[ih h5]
theorem Up.hd{x:av}{w:List av}(h:Up T x w): ∃r,w=x::r:=by
 cases h with
 |top=>exact⟨_,rfl⟩
 |step=>exact⟨_,rfl⟩
theorem Up.at{x:av}{w:List av}(h:Up T x w): ∃p,eo T x=some p:=by
 cases h with
 |top h=>exact⟨_,h⟩
 |step h=>exact⟨_,h⟩
theorem Up.sub{x:av}{w:List av}(h:Up T x w): ∀u∈w,∃w',Up T u w'/\w'.length<=w.length/\ ∃v,w=v++w':=by
 induction h with
 |top h h0=>intro u hu;simp at hu;subst hu;exact⟨_,.top h h0,by simp,[],rfl⟩
 | @step x p q w h h0 hq hd hw ih=>
  intro u hu;rcases zav.1 hu with rfl |hu
  ·exact⟨_,.step h h0 hq hd hw,zaj _,[],rfl⟩
  obtain⟨w',h1,h2,v,h3⟩:=ih u hu;exact⟨w',h1,by simp;omega,x::v,by rw[h3];rfl⟩
theorem Up.nodup{x:av}{w:List av}(h:Up T x w):w.Nodup:=by
 induction h with
 |top=>simp
 | @step x p q w h h0 hq hd hw ih=>refine za8.2 ⟨λhx=> ?_,ih⟩;obtain⟨w',h1,h2,_⟩:=hw.sub x hx;have:=h1.one (.step h h0 hq hd hw);rw[this] at h2;simp at h2;omega
theorem Up.len{x:av}{w:List av}(h:Up T x w):w.length<=T.length:=by
 have:w⊆T.map (·.1):=λu hu=>by obtain⟨w',h1,_⟩:=h.sub u hu;obtain⟨p,hp⟩:=h1.at;obtain⟨h2,h3⟩:=jr hp;exact zaA.2 ⟨p,h2,h3⟩
 simpa using h.nodup.length_le_of_subset this
theorem Q0: ∀(n:Nat) (x:av) (out l:List av),Xg T n x out=some l->(∀p,0<out.length->eo T x=some p->p.2.2.2=true)-> ∃w,l=out++w/\Up T x w
 |0,_,_,_,h,_=>by cases h
 |n+1,x,out,l,h,hd=>by
  unfold Xg at h;cases hp:eo T x with
  |none=>rw[hp] at h;cases h
  |some p=>
   rw[hp] at h;simp only at h;split at h
   ·cases h
   split at h
   ·cases h;exact⟨[x],rfl,.top hp (by assumption)⟩
   rename_i h0 h1;cases hq:eo T p.2.1 with
   |none=>
    cases n with
    |zero=>cases h
    |succ n=>unfold Xg at h;rw[hq] at h;cases h
   |some q=>
    have qfP:q.2.2.2=true:=by
     cases n with
     |zero=>cases h
     |succ n=>
      unfold Xg at h;rw[hq] at h;simp only at h;split at h
      ·cases h
      rename_i hh;cases hqd:q.2.2.2 with
      |true=>rfl
      |false=>exact absurd ⟨by simp,hqd⟩ hh
    obtain⟨w,e,hw⟩:=Q0 n p.2.1 (out++[x]) l h λp' _ Oo=>by rw[hq] at Oo;cases Oo;exact qfP
    exact⟨x::w,by rw[e];simp,.step hp h1 hq qfP hw⟩
theorem qcx{x:av}{w:List av}(h:Up T x w): ∀(n:Nat) (out:List av),w.length<=n->(∀p,0<out.length->eo T x=some p->p.2.2.2=true)->Xg T n x out=some (out++w):=by
 induction h with
 | @top x p h h0=>
  intro n out hn hd;cases n with
  |zero=>simp at hn
  |succ n=>unfold Xg;simp only[h];rw[zam (λhh=>by have:=hd p hh.1 h;rw[hh.2] at this;cases this),zao h0]
 | @step x p q w h h0 hq Qa hw ih=>
  intro n out hn hd;cases n with
  |zero=>simp at hn
  |succ n=>unfold Xg;simp only[h];rw[zam (λhh=>by have:=hd p hh.1 h;rw[hh.2] at this;cases this),zam h0];rw[ih n (out++[x]) (by simp at hn;omega) λp' _ Oo=>by rw[hq] at Oo;cases Oo;exact Qa];simp
theorem IY{x:av}{w:List av}:wy T x=some w↔Up T x w:=by
 constructor
 ·intro h;obtain⟨w',e,hw⟩:=Q0 _ _ _ _ h (λ_ h=>by simp at h);rw[e];exact hw
 intro h;have:=qcx h (T.length+1) [] (by have:=h.len;omega) (λ_ h=>by simp at h);rw[zbg] at this;exact this
def sW(T:List Pl):Nat->av->Bool
 |0,_=>false
 |n+1,x=>match eo T x with
  |none=>false
  |some p=>if p.2.1=aB then true else match eo T p.2.1 with
   |none=>false
   |some q=>if q.2.2.2=false then false else sW T n p.2.1
def lg(T:List Pl)(x:av):Bool:=sW T (T.length+1) x
theorem FV: ∀(n:Nat) (x:av),sW T n x=true-> ∃w,Up T x w
 |0,_,h=>by cases h
 |n+1,x,h=>by
  unfold sW at h;cases hp:eo T x with
  |none=>rw[hp] at h;cases h
  |some p=>
   rw[hp] at h;simp only at h;split at h
   ·exact⟨_,.top hp (by assumption)⟩
   rename_i h0;cases hq:eo T p.2.1 with
   |none=>rw[hq] at h;cases h
   |some q=>
    rw[hq] at h;simp only at h;split at h
    ·cases h
    rename_i hd;obtain⟨w,hw⟩:=FV n _ h;exact⟨_,.step hp h0 hq (by simpa using hd) hw⟩
theorem Q5{x:av}{w:List av}(h:Up T x w): ∀n,w.length<=n->sW T n x=true:=by
 induction h with
 | @top x p h h0=>
  intro n hn;cases n with
  |zero=>simp at hn
  |succ n=>unfold sW;simp only[h];rw[zao h0]
 | @step x p q w h h0 hq hd hw ih=>
  intro n hn;cases n with
  |zero=>simp at hn
  |succ n=>unfold sW;simp only[h,hq];rw[zam h0,zam (by rw[hd];simp)];exact ih n (by simp at hn;omega)
theorem yz{x:av}:lg T x=true↔ ∃w,Up T x w:=
 ⟨FV _ _,λ⟨_,h⟩=>Q5 h _ (by have:=h.len;omega)⟩
def lV(T:List Pl):Nat->av->av->Bool
 |0,_,_=>true
 |n+1,x,up=>if x=up then true else match eo T x with
  |none=>false
  |some p=>lV T n p.2.1 up
def within(T:List Pl)(x up:av):Bool:=lV T (T.length+1) x up
theorem IZ{x:av}{w:List av}(h:Up T x w){up:av}(hu:up≠aB)(h00:eo T aB=none): ∀n,w.length<n->lV T n x up=decide (up∈w):=by
 induction h with
 | @top x p h h0=>
  intro n hn
  match n,hn with
  |n+2,_=>
   unfold lV;simp only[h];split
   next e=>simp[e]
   rename_i e;unfold lV;rw[h0,zam (λh=>hu h.symm)];simp only[h00];simpa using λh:up=x=>e h.symm
  |1,hn=>simp at hn
 | @step x p q w h h0 hq hd hw ih=>
  intro n hn;cases n with
  |zero=>simp at hn
  |succ n=>
   unfold lV;simp only[h];split
   next e=>simp[e]
   rename_i e;rw[ih n (by simp at hn;omega)];have:up≠x:=λh=>e h.symm;simp[this]
def marked(T:List Pl)(live:List av)(z:av):Bool:=live.any λx=>match wy T x with |some w=>w.contains z |none=>false
theorem rL{live:List av}{z:av}:marked T live z=true↔ ∃x∈live,∃w,Up T x w/\z∈w:=by
 unfold marked;rw[zbz];constructor
 ·rintro⟨x,hx,h⟩;cases hw:wy T x with
  |none=>rw[hw] at h;cases h
  |some w=>rw[hw] at h;exact⟨x,hx,w,IY.1 hw,by simpa using h⟩
 rintro⟨x,hx,w,hw,hz⟩;exact⟨x,hx,by rw[IY.2 hw];simpa using hz⟩
def bc(T:List Pl)(live:List av):List Pl:=T.filter λp=>marked T live p.1
theorem Bq{live:List av}{z:av}(h:marked T live z=true): ∃w,Up T z w/\ ∀u∈w,marked T live u=true:=by obtain⟨x,hx,w,hw,hz⟩:=rL.1 h;obtain⟨w',h1,_,v,h3⟩:=hw.sub z hz;exact⟨w',h1,λu hu=>rL.2 ⟨x,hx,w,hw,by rw[h3];exact zbc _ hu⟩⟩
def mkF(S:List av):List av->List av
 | []=>S
 |u::r=>if u∈S then S else mkF (S++[u]) r
def UpC(T:List Pl)(S:List av):Prop:= ∀z∈S,∃w,Up T z w/\ ∀u∈w,u∈S
theorem Xh{x:av}{w:List av}(h:Up T x w): ∀{S:List av},(∀u∈w,u∈S-> ∀w',Up T u w'-> ∀z∈w',z∈S)-> ∀z,z∈mkF S w↔z∈S\/z∈w:=by
 induction h with
 | @top x p h h0=>
  intro S hC z;unfold mkF;split
  next hx=>exact⟨.inl,λh=>h.elim id λhz=>by simp at hz;exact hz▸hx⟩
  simp[mkF]
 | @step x p q w h h0 hq hd hw ih=>
  intro S hC z;unfold mkF;split
  next hx=>exact⟨.inl,λhz=>hz.elim id λhz=>hC x (by simp) hx _ (.step h h0 hq hd hw) z hz⟩
  rename_i hx;have hn:=(Up.step h h0 hq hd hw).nodup;have hxw:x∉w:=(za8.1 hn).1;rw[ih (λu hu hS w' Fp z hz=>by
   have hS':u∈S:=by
    rcases zaE.1 hS with h |h
    ·exact h
    simp at h;subst h;exact absurd hu hxw
   exact zbr _ (hC u (by simp[hu]) hS' w' Fp z hz))]
  simp[or_assoc]
theorem UpC.in{S:List av}(h:UpC T S){z:av}(hz:z∈S){w:List av}(hw:Up T z w): ∀u∈w,u∈S:=by obtain⟨w',h1,h2⟩:=h z hz;rw[hw.one h1];exact h2
theorem UpC.mk{x:av}{w:List av}(h:Up T x w){S:List av}(hS:UpC T S):UpC T (mkF S w)/\ ∀z,z∈mkF S w↔z∈S\/z∈w:=by
 have hm:=Xh h (S:=S) λu _ hu w' Fp=>hS.in hu Fp;refine⟨λz hz=> ?_,hm⟩;rcases(hm z).1 hz with hz |hz
 ·obtain⟨w',h1,h2⟩:=hS z hz;exact⟨w',h1,λu hu=>(hm u).2 (.inl (h2 u hu))⟩
 obtain⟨w',h1,_,v,h3⟩:=h.sub z hz;exact⟨w',h1,λu hu=>(hm u).2 (.inr (by rw[h3];exact zbc _ hu))⟩
def qfQ(T:List Pl)(live:List av):List av:=(bc T live).map (·.1)
def Uq(T:List Pl):Prop:=(T.map (·.1)).Nodup
theorem KT(hu:Uq T){p:Pl}(hp:p∈T):eo T p.1=some p:=by
 unfold eo;unfold Uq at hu
 induction T with
 |nil=>cases hp
 |cons a r ih=>
  rw[zbm,za8] at hu;rw[List.find?_cons];rcases zav.1 hp with rfl |hp
  ·simp
  have:(a.1==p.1)=false:=by simp only[zcN,ne_eq];exact λe=>hu.1 (e▸za7 hp)
  rw[this];exact ih hu.2 hp
theorem FW(hu:Uq T)(live:List av):(qfQ T live).Nodup:=
 List.Nodup.sublist (zcf.map _) hu
end
abbrev az:=Int×Int
structure aX where
 kind:Int
 node:av
 parent:av
 name:List UInt8
 dir:Bool
 ca:List az
 after:av
 elem:av
 text:List UInt8
 elems:List av
structure ak where
 s:az
 n:Int
 deps:List Int
 bY:az
 ops:List aX
abbrev lW(a b:az):Bool:=rK a.1 a.2 b.1 b.2
abbrev FX(a:az):Bool:=uc a.1 a.2
abbrev rgX(x:av):Bool:=cu x.1 x.2.1 x.2.2
abbrev FY(x:av):az:=(x.1,x.2.1)
def lh(n:Nat)(f:Nat->Bool):Bool:=(List.range n).all f
theorem FZ{n:Nat}{f:Nat->Bool}:lh n f=true↔ ∀i,i<n->f i=true:=by simp[lh]
theorem C8{n i:Nat}{f:Nat->Bool}(hi:i<n)(h:f i=false):lh n f=false:=by
 cases hh:lh n f with
 |false=>rfl
 |true=>rw[FZ.1 hh i hi] at h;cases h
theorem ui{n:Nat}{f:Nat->Bool}(h: ∀i,i<n->f i=true):lh n f=true:=FZ.2 h
def cV(s:az)(k:Int)(x:av):Bool:=rgX x&&(lW (FY x) s ||FY x==s&&decide (x.2.2<k))
def lj(s:az)(k:Int)(x:av):Bool:=x==aB ||cV s k x
def lK(s:az)(l:List az)(i:Nat):Bool:=FX (l.getD i (0,0))&& !lW s (l.getD i (0,0))&&(i==0 ||lW (l.getD (i-1) (0,0)) (l.getD i (0,0)))
def mS(s:az)(l:List az):Bool:=lh l.length (lK s l)&&decide (l.length<=200)
def Br(s:az)(k:Int)(l:List av)(i:Nat):Bool:=cV s k (l.getD i aB)&&(i==0 ||mj (l.getD (i-1) aB) (l.getD i aB))
def sX(s:az)(k:Int)(l:List av):Bool:=lh l.length (Br s k l)&&decide (1<=l.length/\l.length<=2000)
def js(o:aX)(place dir ca run elems:Bool):Bool:=
 (place ||o.parent==aB&&o.name==[])&&(dir || !o.dir)&&(ca ||o.ca.length==0)&&(run ||o.after==aB&&o.elem==aB&&o.text==[])&&(elems ||o.elems.length==0)
def eX(o:aX):Bool:=js o (o.kind==0 ||o.kind==1) (o.kind==0) (o.kind==2) (o.kind==3) (o.kind==4)
def Ag(s:List UInt8):Int:=Lib.runeCount ⟨⟨s⟩⟩
def mT(s:List UInt8):Bool:=Lib.validD s&&decide (1<=Ag s/\Ag s<=2000)
def jR(s:az)(k:Int)(o:aX):Option Int:=
 if eX o=false then none
 else if o.kind=0 then(if o.node=(s.1,s.2,k)/\lj s k o.parent=true/\dw o.name=true then some 1 else none)
 else if o.kind=1 then(if cV s k o.node=true/\lj s k o.parent=true/\dw o.name=true then some 0 else none)
 else if o.kind=2 then(if cV s k o.node=true/\mS s o.ca=true then some 0 else none)
 else if o.kind=3 then(if cV s k o.node=true/\lj s k o.after=true/\o.elem=(s.1,s.2,k)/\mT o.text=true then some (Ag o.text) else none)
 else if o.kind=4 then(if cV s k o.node=true/\sX s k o.elems=true then some 0 else none)
 else none
def iu(s:az):Int->List aX->Bool
 |_,[]=>true
 |k,o::r=>match jR s k o with |some n=>iu s (k+n) r |none=>false
def Q6(g:ak):Bool:=FX g.s&&decide (1<=g.n/\g.n<=1099511627776)&&cQ g.deps&&(eG g.deps g.s.2==g.n-1)
def ct(g:ak):Bool:=Q6 g&&(if g.bY≠(0,0) then FX g.bY&&lW g.bY g.s&&g.ops.length==0 else decide (1<=g.ops.length/\g.ops.length<=200)&&iu g.s 0 g.ops)
def Q7:Nat->List UInt8->List (List UInt8)
 |0,_=>[]
 |n+1,s=>if s=[] then [] else s.take (Lib.decodeL s).2::Q7 n (s.drop (Lib.decodeL s).2)
def Hf(s:List UInt8):List (List UInt8):=Q7 s.length s
theorem wI{s:List UInt8}(h:s≠[]):1<=(Lib.decodeL s).2:=by refine Lib.decode_width_pos ⟨s.toArray⟩ 0 ?_;exact zbM.2 h
theorem uj: ∀(n m:Nat) (s:List UInt8),s.length<=n->s.length<=m->Q7 n s=Q7 m s
 |0,0,_,_,_=>rfl
 |0,m+1,s,h,_=>by have:s=[]:=zax (by omega);subst this;rfl
 |n+1,0,s,_,h=>by have:s=[]:=zax (by omega);subst this;rfl
 |n+1,m+1,s,h1,h2=>by
  unfold Q7;split
  ·rfl
  rename_i dI;have:=wI dI;have hl:0<s.length:=zbM.2 dI;rw[uj n m _ (by rw[zbd];omega) (by rw[zbd];omega)]
theorem Xi:Hf []=[]:=rfl
theorem F4{s:List UInt8}(h:s≠[]):Hf s=s.take (Lib.decodeL s).2::Hf (s.drop (Lib.decodeL s).2):=by have hl:0<s.length:=zbM.2 h;have:=wI h;unfold Hf;rw[uj s.length ((s.length-1)+1) s (zaj _) (by omega)];show(if s=[] then [] else _)=_;rw[zam h];rw[uj (s.length-1) (s.drop (Lib.decodeL s).2).length _ (by rw[zbd];omega) (zaj _)]
theorem Xj{s:List UInt8}(h:s≠[]):Lib.runeCount ⟨s.toArray⟩=1+Lib.runeCount ⟨(s.drop (Lib.decodeL s).2).toArray⟩:=by
 have hl:0<s.length:=zbM.2 h;have hp:=wI h;have hle:=Lib.decodeL_le s h;have hs:(ByteArray.mk s.toArray).size=s.length:=rfl;have e1:Lib.runeCount ⟨s.toArray⟩=Lib.runeCountFrom ⟨s.toArray⟩ ((s.length-1)+1) 0:=by unfold Lib.runeCount;exact Lib.fuel_enough _ _ _ _ (by omega) (by omega)
 rw[e1];unfold Lib.runeCountFrom;rw[zao (by rw[hs];exact hl)];have ex:(ByteArray.mk (s.drop (Lib.decodeL s).2).toArray)=(ByteArray.mk s.toArray).extract (Lib.decodeL s).2 (ByteArray.mk s.toArray).size:=by apply ByteArray.ext;simp[ByteArray.data_extract,hs];rw[<-zbd,zak]
 have e2:Lib.runeCount ⟨(s.drop (Lib.decodeL s).2).toArray⟩=Lib.runeCountFrom ⟨s.toArray⟩ (s.length-(Lib.decodeL s).2) (Lib.decodeL s).2:=by
  unfold Lib.runeCount;have hz:(ByteArray.mk (s.drop (Lib.decodeL s).2).toArray).size=s.length-(Lib.decodeL s).2:=by show(s.drop (Lib.decodeL s).2).toArray.size=_;simp
  rw[hz,ex,Lib.tail_count];rfl
 rw[e2];show 1+Lib.runeCountFrom _ (s.length-1) (0+(Lib.decodeL s).2)=_;rw[zaG];congr 1;exact Lib.fuel_enough _ _ _ _ (by omega) (by omega)
theorem I0: ∀(n:Nat) (s:List UInt8),s.length<=n->Lib.runeCount ⟨s.toArray⟩=(Hf s).length
 |0,s,h=>by have:s=[]:=zax (by omega);subst this;rfl
 |n+1,s,h=>by
  by_cases hs:s=[]
  ·subst hs;rfl
  have:=wI hs;have hl:0<s.length:=zbM.2 hs;rw[Xj hs,F4 hs,zap,I0 n _ (by rw[zbd];omega)];omega
theorem yA(s:List UInt8):Ag s=((Hf s).length:Nat):=by unfold Ag;rw[<-I0 s.length s (zaj _)]
theorem C9(s:List UInt8):(Hf s).length<=s.length:=by rw[<-I0 s.length s (zaj _)];exact Lib.runeCount_le _
def qcy:S->K (PX×S):=λst ae=> ∃s,st=rsH s []/\s.length<=2000000/\(Lib.validD s=false-> ∀o:List (List UInt8),ae (.ret,⟨29,[(2,.sl 0 0 0),(3,iD 60),(4,.sl 1 0 o.length)],[(0,⟨0,none,.arr 9 false []⟩),(1,⟨0,none,.arr 9 false (o.map D.str)⟩)]⟩))/\(Lib.validD s=true-> ∀o:List (List UInt8),o=Hf s->ae (.exit 0,⟨29,[(4,.sl 0 0 o.length)],[(0,⟨0,none,.arr 9 false (o.map D.str)⟩)]⟩))
def sY:br:=λps R ae=> ∃s,ps=[sD s]/\R=[]/\s.length<=2000000/\(Lib.validD s=false->ae (.cX [.sl 0 0 0,iD 60],[(0,⟨0,none,.arr 9 false []⟩)]))/\(Lib.validD s=true-> ∀o:List (List UInt8),o=Hf s->ae (.cX [.sl 0 0 o.length,iD 0],[(0,⟨0,none,.arr 9 false (o.map D.str)⟩)]))
def Bs:br:=λps R ae=> ∃s,ps=[sD s]/\R=[]/\s.length<=2000000/\(Lib.validD s=false->ae (.cX [iD 0,iD 60],[]))/\(Lib.validD s=true-> ∀n,n=Ag s->ae (.cX [iD n,iD 0],[]))
theorem qfR(s:List UInt8)(ae:P×List (Nat×En)->Prop):(∃(iF:List UInt8),Z1R s=Z1R iF/\Hc iF/\Z1T iF ae/\(QT iF-> ∀(o:List (List UInt8)),o=Hf iF->Z1W ae o))=(aK [] [(2,ah (aO 144 2) qcy)] 144 [sD s] []) ae:=by kernel_rfl
theorem qfS(s:List UInt8)(ae:P×List (Nat×En)->Prop):(∃(iF:List UInt8),vi s=vi iF/\Zx/\Hc iF/\(QU iF->ae (P.cX (P.d Z7::Z1o),[]))/\(QT iF-> ∀(o:List (List UInt8)),o=Hf iF->Z1X ae o))=(aK [(144,sY)] [] 142 [sD s] []) ae:=by kernel_rfl
section
variable{X:XF}
theorem Xk:LD X 144 2 (ah (aO 144 2) qcy):=LD.par (H:=[(168,IU)]) (hk:=[]) (by kernel_rfl) (by kernel_rfl) (.cons Xc .nil) .nil
 (A:=List UInt8) (B:=List UInt8×List (List UInt8)) (λ_ b=>rsH b.1 b.2)
 (λa b=>a.length<=2000000/\b.1.length+b.2.length<=a.length/\Lib.validD b.1=Lib.validD a/\b.2++Hf b.1=Hf a)
 (λ_ b=>b.1.length)
 (λa x=>(Lib.validD a=false/\ ∃o:List (List UInt8),x=(.ret,⟨29,[(2,.sl 0 0 0),(3,iD 60),(4,.sl 1 0 o.length)],[(0,⟨0,none,.arr 9 false []⟩),(1,⟨0,none,.arr 9 false (o.map D.str)⟩)]⟩))\/(Lib.validD a=true/\ ∃o:List (List UInt8),o=Hf a/\x=(.exit 0,⟨29,[(4,.sl 0 0 o.length)],[(0,⟨0,none,.arr 9 false (o.map D.str)⟩)]⟩)))
 (by
  rintro a ⟨s,o⟩ ⟨ha,hl,hv,hpc⟩;dsimp only at*
  (rw[<-qfH];delta QS Zg Z1Z rJ KP Z1Q ZQ Hc Zx vi C3)
  refine bg (λh=> ?_) λh=> ?_
  ·have dI:s≠[]:=λe=>by subst e;simp at h
   have kO:=Lib.validD_step s dI;refine⟨s,rfl,rfl,⟨dI,by omega⟩,λhb c n=> .inl ⟨?_,o,rfl⟩,λhb c n hn h1 hle=> ?_⟩
   ·unfold IQ at hb;rw[<-hv,kO,zao hb]
   unfold IQ at hb;rw[zam hb] at kO;refine bs (by omega) (aq (qft (by simp;omega) (by simp;omega) _ (by simp)) (bs (by omega) ?_));refine⟨_,?_,(s.drop n.toNat,o++[s.take n.toNat]),?_,⟨ha,?_,?_,?_⟩,rfl⟩
   ·dsimp only;rw[zbd];omega
   ·rw[zak,zai (l:=List.map D.str o) (by simp),zcn];simp only[rsH,zaz,zbm,List.map_nil,zan,zap,zat]
   ·dsimp only;rw[zbd,zan];simp;omega
   ·dsimp only;rw[<-hv,kO,hn];rfl
   dsimp only;rw[<-hpc,F4 dI,zaZ,hn];rfl
  have:s=[]:=zax (by omega);subst this;exact .inr ⟨hv.symm.trans Lib.validD_nil,o,by rw[<-hpc,Xi,zbi],rfl⟩)
 (by
  rintro st ae ⟨s,rfl,hs,h1,h2⟩;refine⟨s,(s,[]),rfl,⟨hs,by simp,rfl,rfl⟩,?_⟩;rintro x (⟨h3,o,rfl⟩| ⟨h3,o,h4,rfl⟩)
  ·exact h1 h3 o
  exact h2 h3 o h4)
theorem F5:FD X 144 sY:=FD.mk (H:=[]) (hk:=[(2,ah (aO 144 2) qcy)]) (by kernel_rfl) .nil (.cons Xk .nil) (by
 intro ps R ae hh;obtain⟨s,rfl,rfl,hs,h1,h2⟩:=hh
 (rw[<-qfR];delta QS Z7 qy Z1W QT Z1Q Z1o ZQ QU Z1T rJ Hc Z1R)
 exact⟨s,rfl,hs,λh o=>h1 h,λh o=>h2 h o⟩)
theorem Xl:FD X 142 Bs:=FD.mk (H:=[(144,sY)]) (hk:=[]) (by kernel_rfl) (.cons F5 .nil) .nil (by
 intro ps R ae hh;obtain⟨s,rfl,rfl,hs,h1,h2⟩:=hh
 (rw[<-qfS];delta Z7 qy Z1X QT Z1o QU rJ Hc Zx vi)
 refine⟨s,rfl,rfl,hs,λh=>h1 h,λh o ho=>h2 h _ ?_⟩;rw[ho,yA])
theorem qcz:FD X 115 Bs:=FD.mk (H:=[(148,IL),(149,IP)]) (hk:=[]) (by kernel_rfl) (.cons W8 (.cons W9 .nil)) .nil (by
 intro ps R ae hh;obtain⟨s,rfl,rfl,hs,h1,h2⟩:=hh
 (rw[<-qfG];delta Z7 qy Z1o rJ Hc Zx vi)
 refine⟨s,rfl,rfl,hs,ay (λh=>h1 (by simpa using h)) λh=>⟨s,rfl,rfl,hs,h2 (by simpa using h) _ rfl⟩⟩)
end
def uk{α:Type}(t:α->Bool)(l:List α):Int:=match l.findIdx? t with |some i=>(i:Int)|none=> -1
theorem F6{α:Type}{t:α->Bool}{l:List α}{i:Nat}(hi:i<l.length)(ht:t l[i]=true)(hb: ∀j (hj:j<i),t (l[j]'(by omega))=false):uk t l=(i:Int):=by unfold uk;rw[zbJ.2 ⟨hi,ht,λj hj=>by rw[hb j hj];simp⟩]
theorem KU{α:Type}{t:α->Bool}{l:List α}(h: ∀j (hj:j<l.length),t l[j]=false):uk t l= -1:=by unfold uk;rw[zbX.2 λx hx=>by obtain⟨j,hj,rfl⟩:=zaW hx;exact h j hj]
theorem yB{α:Type}(t:α->Bool)(l:List α):uk t l<0↔l.any t=false:=by
 unfold uk;split
 next i h=>
  obtain⟨hi,ht,_⟩:=zbJ.1 h;constructor
  ·intro h;omega
  intro h2;rw[zct] at h2;exact absurd ht (h2 _ (zas hi))
 rename_i h;refine⟨λ_=> ?_,λ_=>by omega⟩;rw[zct];intro x hx;have:=(zbX.1 h) x hx;simp[this]
variable{X:XF}
theorem LD.idx{H:List (FuncId×br)}{hk:List (Nat×(S->K (PX×S)))}{f id:Nat}{g:S->K (PX×S)}(hu:uniq PR f=true)(hc:b8 (qe f) (bA PR f id)=true)(hH:HD X H)(hl:QC X f hk)
  {A B:Type} (hd:A->B->Int->S) (len:A->Nat) (Inv:A->Nat->B->Prop) (Out:A->PX×S->Prop)
  (hr: ∀a b (k:Int) ae,0<=k->k<len a->k.toNat<len a->Inv a k.toNat b->(∀b',Inv a (k.toNat+1) b'->ae (.normal,hd a b' (k+1)))->(∀x,x.1≠ .normal->Out a x->ae x)->aG H hk f id (hd a b k) ae)
  (hx: ∀a b (k:Int) ae,k=len a->Inv a (len a) b->(∀x,x.1≠ .normal->Out a x->ae x)->aG H hk f id (hd a b k) ae)
  (hg: ∀s ae,g s ae-> ∃a b,s=hd a b 0/\Inv a 0 b/\ ∀x,Out a x->ae x):LD X f id (ah (aO f id) g):=
 LD.par hu hc hH hl (A:=A) (B:=B×Int) (λa b=>hd a b.1 b.2) (λa b=>0<=b.2/\b.2.toNat<=len a/\Inv a b.2.toNat b.1) (λa b=>(len a-b.2).toNat) Out
  (by
   rintro a ⟨b,k⟩ ⟨h1,h2,h3⟩;dsimp only at*
   have bw: ∀x:PX×S,x.1≠ .normal->Out a x->roundPost ((len a-k).toNat) (λm s=> ∃b':B×Int,s=hd a b'.1 b'.2/\(0<=b'.2/\b'.2.toNat<=len a/\Inv a b'.2.toNat b'.1)/\m=(len a-b'.2).toNat) (Out a) x:=by
    rintro⟨e,s⟩ dI hx;cases e with
    |normal=>exact absurd rfl dI
    |exit i=>exact hx
    |ret=>exact hx
   by_cases hk:k<len a
   ·refine hr a b k _ h1 hk (by omega) h3 (λb' hb=> ?_) bw;exact⟨((len a:Int)-(k+1)).toNat,by omega,(b',k+1),rfl,⟨by show 0<=k+1;omega,by show(k+1).toNat<=len a;omega,by show Inv a (k+1).toNat b';rw[show(k+1).toNat=k.toNat+1 by omega];exact hb⟩,rfl⟩
   have e:k=len a:=by omega
   refine hx a b k _ e ?_ bw;have:k.toNat=len a:=by omega
   rwa [this] at h3)
  (by intro s ae hp;obtain⟨a,b,h1,h2,h3⟩:=hg s ae hp;exact⟨a,(b,0),h1,⟨zbA _,by simp,h2⟩,h3⟩)
theorem LD.find{H:List (FuncId×br)}{hk:List (Nat×(S->K (PX×S)))}{f id:Nat}{g:S->K (PX×S)}(hu:uniq PR f=true)(hc:b8 (qe f) (bA PR f id)=true)(hH:HD X H)(hl:QC X f hk)
  {A α:Type} (hd:A->Int->S) (oG:A->List α) (t:A->Nat->α->Bool) (C:A->Prop) (rt:A->Int->PX×S) (ex:A->PX×S) (qia: ∀a k,(rt a k).1≠ .normal) (qib: ∀a,(ex a).1≠ .normal)
  (hr: ∀a (k:Int) ae (dQ:k.toNat<(oG a).length),C a->0<=k->k<(oG a).length->(t a k.toNat (oG a)[k.toNat]=true->ae (rt a k))->(t a k.toNat (oG a)[k.toNat]=false->ae (.normal,hd a (k+1)))->aG H hk f id (hd a k) ae)
  (hx: ∀a (k:Int) ae,C a->k=(oG a).length->ae (ex a)->aG H hk f id (hd a k) ae)
  (hg: ∀s ae,g s ae-> ∃a,s=hd a 0/\C a/\(∀(i:Int) (hi:i.toNat<(oG a).length),0<=i->t a i.toNat (oG a)[i.toNat]=true->(∀j (hj:j<i.toNat),t a j ((oG a)[j]'(by omega))=false)->ae (rt a i))/\((∀j (hj:j<(oG a).length),t a j (oG a)[j]=false)->ae (ex a))):LD X f id (ah (aO f id) g):=
 LD.idx hu hc hH hl (A:=A) (B:=Unit) (λa _ k=>hd a k) (λa=>(oG a).length) (λa k _=>C a/\ ∀j (hj:j<(oG a).length),j<k->t a j (oG a)[j]=false)
  (λa x=>(∃(i:Int) (hi:i.toNat<(oG a).length),0<=i/\t a i.toNat (oG a)[i.toNat]=true/\(∀j (hj:j<i.toNat),t a j ((oG a)[j]'(by omega))=false)/\x=rt a i)\/((∀j (hj:j<(oG a).length),t a j (oG a)[j]=false)/\x=ex a))
  (by
   intro a _ k ae h0 hk dQ ⟨hC,hI⟩ hn ho;refine hr a k ae dQ hC h0 hk (λht=>ho _ (qia a k) (.inl ⟨k,dQ,h0,ht,λj hj=>hI j (by omega) hj,rfl⟩)) λht=>hn () ⟨hC,λj hj hjk=> ?_⟩;by_cases e:j=k.toNat
   ·subst e;exact ht
   exact hI j hj (by omega))
  (by intro a _ k ae hk ⟨hC,hI⟩ ho;exact hx a k ae hC hk (ho _ (qib a) (.inr ⟨λj hj=>hI j hj hj,rfl⟩)))
  (by
   intro s ae hp;obtain⟨a,h1,h2,h3,h4⟩:=hg s ae hp;refine⟨a,(),h1,⟨h2,λj _ hj=>by omega⟩,?_⟩;rintro x (⟨i,hi,g1,g2,g3,rfl⟩| ⟨g1,rfl⟩)
   ·exact h3 i hi g1 g2 g3
   exact h4 g1)
abbrev iE(n:Int):D:= .int .i64 n
def bh(s:az):D:= .agg [iE s.1,iE s.2]
def eI(o:aX):D:= .agg [iE o.kind,iE o.node.1,iE o.node.2.1,iE o.node.2.2,iE o.parent.1,iE o.parent.2.1,iE o.parent.2.2,.str o.name,.bool o.dir,.sl 2 (o.ca.map bh),
 iE o.after.1,iE o.after.2.1,iE o.after.2.2,iE o.elem.1,iE o.elem.2.1,iE o.elem.2.2,.str o.text,.sl 3 (o.elems.map bE)]
def aV(g:ak):D:= .agg [iE g.s.1,iE g.s.2,iE g.n,.sl 1 (aZ g.deps),iE g.bY.1,iE g.bY.2,.sl 18 (g.ops.map eI)]
abbrev bT(l:List ak):P:= .d (.sl 7 (l.map aV))
abbrev qcA(l:List aX):P:= .d (.sl 18 (l.map eI))
abbrev ki(l:List az):P:= .d (.sl 2 (l.map bh))
structure M4(a b:az)(c:Int):Prop where
 lt:c<0↔lW a b=true
 gt:c>0↔lW b a=true
structure KV(a b:av)(c:Int):Prop where
 lt:c<0↔mj a b=true
 gt:c>0↔mj b a=true
def yC:br:=λps R ae=> ∃a b,ps=[.d (bh a),.d (bh b)]/\R=[]/\ ∀c,M4 a b c->ae (iD c,[])
def qf:br:=λps R ae=> ∃x y,ps=[.d (bE x),.d (bE y)]/\R=[]/\ ∀c,KV x y c->ae (iD c,[])
def vP:br:=λps R ae=> ∃s,ps=[.d (bh s)]/\R=[]/\ ∀b,b=FX s->ae (lD b,[])
def M5:br:=λps R ae=> ∃x,ps=[.d (bE x)]/\R=[]/\ ∀b,b=rgX x->ae (lD b,[])
def pK:br:=λps R ae=> ∃a b,ps=[.d (bh a),.d (bh b)]/\R=[]/\ ∀r,r=lW a b->ae (lD r,[])
abbrev ckB(g:ak)(k:Int):Obj:= .box 149 [iD g.s.1,iD g.s.2,iD g.n,.d (.sl 1 (aZ g.deps)),iD g.bY.1,iD g.bY.2,qcA g.ops,iD k]
abbrev vo(g:ak)(k:Int):List (Nat×En):=[(0,⟨0,some 0,ckB g k⟩)]
theorem qfT(s:az)(ae:P×List (Nat×En)->Prop):(bif decide (Prod.fst s>=(1:Int)) then bif decide (Prod.fst s<=Z1) then bif decide (Prod.snd s>=(1:Int)) then ae (P.d (D.bool (decide (Prod.snd s<=(16:Int)))),[]) else Z4 ae else Z4 ae else Z4 ae)=(aK [] [] 82 [.d (bh s)] []) ae:=by kernel_rfl
theorem qcB(s:az)(ae:P×List (Nat×En)->Prop):(bif decide (Prod.fst s>=(1:Int)) then bif decide (Prod.fst s<=Z1) then bif decide (Prod.snd s>=(1:Int)) then ae (P.d (D.bool (decide (Prod.snd s<=(16:Int)))),[]) else Z4 ae else Z4 ae else Z4 ae)=(aK [] [] 104 [.d (bh s)] []) ae:=by kernel_rfl
def oQ(g:ak):P:=P.d (D.sl 18 (List.map eI (ak.ops g)))
def jy(g:ak):D:=D.int .i64 (Prod.snd (ak.bY g))
def jz(g:ak):D:=D.int .i64 (Prod.fst (ak.bY g))
def nV(g:ak):P:=P.d (D.sl 1 (aZ (ak.deps g)))
def qA(g:ak):P:=P.d (D.int .i64 (ak.n g))
def jA(g:ak):Int:=Prod.snd (ak.s g)
def gO(g:ak):D:=D.int .i64 (jA g)
def jB(g:ak):Int:=Prod.fst (ak.s g)
def gQ(g:ak):D:=D.int .i64 (jB g)
def M6(g:ak)(k:Int):Obj:=Obj.box (149:TypeId) (P.d (gQ g)::P.d (gO g)::qA g::nV g::P.d (jz g)::P.d (jy g)::oQ g::Zv k)
def q6(g:ak)(k:Int):List (Nat×En):=[(0,En.mk 0 (some 0) (M6 g k))]
def I1(ae:P×List (Nat×En)->Prop)(g:ak)(k:Int):Prop:=ae (P.d Z3,q6 g k)
def gR(x:av):Int:=Prod.snd (Prod.snd x)
def ia(x:av):Int:=Prod.fst (Prod.snd x)
def Z2w(x:av)(g:ak):Bool:=Prod.fst x==jB g&&(ia x==jA g&&true)
def ll(a:az):D:=D.int .i64 (Prod.snd a)
def ln(a:az):D:=D.int .i64 (Prod.fst a)
def tH(a:az):P:=P.d (D.agg [ln a,ll a])
def qg(b:az):List P:=[tH b]
def Da(a:az)(b:az):List P:=tH a::qg b
def M7(g:ak):P:=P.d (D.agg [gQ g,gO g])
def I2(g:ak):List P:=[M7 g]
def gC(x:av):D:=D.int .i64 (ia x)
def gD(x:av):D:=D.int .i64 (Prod.fst x)
def gP(x:av):D:=D.int .i64 (gR x)
def um(x:av):P:=P.d (D.agg [gD x,gC x,gP x])
def iU(x:av):List P:=[um x]
theorem Xm(g:ak)(k:Int)(x:av)(ae:P×List (Nat×En)->Prop):(∃(aJ:av),iU x=iU aJ/\Zx/\ ∀(b:Bool),b=rgX aJ->bif b then∃(a:az) (b:az),P.d (D.agg [gD x,gC x])::I2 g=Da a b/\Zx/\ ∀(c:Int),M4 a b c->bif Vn c then ae (ZO,q6 g k) else bif Z2w x g then ae (P.d (D.bool (decide (gR x<k))),q6 g k) else I1 ae g k else I1 ae g k)=(aK [(147,M5),(66,yC)] [] 113 [.ref 0 0 0,.d (bE x)] (vo g k)) ae:=by kernel_rfl
def rM:br:=λps R ae=> ∃g k x,ps=[.ref 0 0 0,.d (bE x)]/\R=vo g k/\ ∀b,b=cV g.s k x->ae (lD b,vo g k)
def gh(b:Bool):P:=P.d (D.bool b)
def zo(b:Bool)(aQ:ak)(bS:Int)(aJ:av):Prop:=b=cV (ak.s aQ) bS aJ
def Bt(g:ak)(k:Int)(aQ:ak)(bS:Int):Prop:=q6 g k=q6 aQ bS
def cb:P:=P.ref 0 0 0
def Z2y(x:av):Bool:=Prod.fst x==(0:Int)&&(ia x==(0:Int)&&true)&&(gR x==(0:Int)&&true)
theorem Q8(g:ak)(k:Int)(x:av)(ae:P×List (Nat×En)->Prop):(bif Z2y x then ae (ZO,q6 g k) else∃(aQ:ak) (bS:Int) (aJ:av),cb::iU x=cb::iU aJ/\Bt g k aQ bS/\ ∀(b:Bool),zo b aQ bS aJ->ae (gh b,q6 aQ bS))=(aK [(113,rM)] [] 111 [.ref 0 0 0,.d (bE x)] (vo g k)) ae:=by kernel_rfl
def Db:br:=λps R ae=> ∃g k x,ps=[.ref 0 0 0,.d (bE x)]/\R=vo g k/\ ∀b,b=lj g.s k x->ae (lD b,vo g k)
def plainO(o:aX):aX:=
 if o.kind=0 then⟨o.kind,o.node,o.parent,o.name,o.dir,[],aB,aB,[],[]⟩
 else if o.kind=1 then⟨o.kind,o.node,o.parent,o.name,false,[],aB,aB,[],[]⟩
 else if o.kind=2 then⟨o.kind,o.node,aB,[],false,o.ca,aB,aB,[],[]⟩
 else if o.kind=3 then⟨o.kind,o.node,aB,[],false,[],o.after,o.elem,o.text,[]⟩
 else if o.kind=4 then⟨o.kind,o.node,aB,[],false,[],aB,aB,[],o.elems⟩
 else⟨o.kind,o.node,aB,[],false,[],aB,aB,[],[]⟩
def Dc:br:=λps R ae=> ∃o,ps=[.d (eI o)]/\R=[]/\ ∀p,p=plainO o->ae (.d (eI p),[])
def Q9(o:aX):List D:=[D.sl 3 (List.map bE (aX.elems o))]
def Z2N:List D:=[D.sl 3 []]
def vQ(o:aX):Int:=Prod.snd (Prod.snd (aX.elem o))
def vR(o:aX):Int:=Prod.fst (Prod.snd (aX.elem o))
def vS(o:aX):Int:=Prod.fst (aX.elem o)
def zp(o:aX):Int:=Prod.snd (Prod.snd (aX.after o))
def Ah(o:aX):D:=D.int .i64 (zp o)
def zq(o:aX):Int:=Prod.fst (Prod.snd (aX.after o))
def Ai(o:aX):D:=D.int .i64 (zq o)
def Aj(o:aX):D:=D.int .i64 (Prod.fst (aX.after o))
def lq(o:aX):D:=D.sl 2 (List.map bh (aX.ca o))
def Ra:List D:=Z7::Z7::Z7::Z7::Z7::Z7::yn::Z2N
def M8:D:=D.sl 2 []
def Xn:List D:=Z3::M8::Ra
def zr(o:aX):Int:=Prod.snd (Prod.snd (aX.parent o))
def zs(o:aX):D:=D.int .i64 (zr o)
def zt(o:aX):Int:=Prod.fst (Prod.snd (aX.parent o))
def zu(o:aX):D:=D.int .i64 (zt o)
def zw(o:aX):D:=D.int .i64 (Prod.fst (aX.parent o))
def uo(o:aX):D:=D.int .i64 (Prod.snd (Prod.snd (aX.node o)))
def uq(o:aX):D:=D.int .i64 (Prod.fst (Prod.snd (aX.node o)))
def ur(o:aX):D:=D.int .i64 (Prod.fst (aX.node o))
def vT(o:aX):D:=D.int .i64 (aX.kind o)
theorem Rb(o:aX)(ae:P×List (Nat×En)->Prop):(bif aX.kind o==(0:Int) then ae (P.d (D.agg (vT o::ur o::uq o::uo o::zw o::zu o::zs o::D.str (aX.name o)::D.bool (aX.dir o)::M8::Ra)),[]) else bif aX.kind o==(1:Int) then ae (P.d (D.agg (vT o::ur o::uq o::uo o::zw o::zu o::zs o::D.str (aX.name o)::Xn)),[]) else bif aX.kind o==(2:Int) then ae (P.d (D.agg (vT o::ur o::uq o::uo o::Z7::Z7::Z7::yn::Z3::lq o::Ra)),[]) else bif aX.kind o==(3:Int) then ae (P.d (D.agg (vT o::ur o::uq o::uo o::Z7::Z7::Z7::yn::Z3::M8::Aj o::Ai o::Ah o::D.int .i64 (vS o)::D.int .i64 (vR o)::D.int .i64 (vQ o)::D.str (aX.text o)::Z2N)),[]) else bif aX.kind o==(4:Int) then ae (P.d (D.agg (vT o::ur o::uq o::uo o::Z7::Z7::Z7::yn::Z3::M8::Z7::Z7::Z7::Z7::Z7::Z7::yn::Q9 o)),[]) else ae (P.d (D.agg (vT o::ur o::uq o::uo o::Z7::Z7::Z7::yn::Xn)),[]))=(aK [] [] 145 [.d (eI o)] []) ae:=by kernel_rfl
def Z32(p:aX):Int:=(↑(List.length (List.map bE (aX.elems p))):Int)
def nj(p:aX):Int:=(↑(List.length (List.map bh (aX.ca p))):Int)
def Ak(o:aX):D:=D.agg (vT o::ur o::uq o::uo o::zw o::zu o::zs o::D.str (aX.name o)::D.bool (aX.dir o)::lq o::Aj o::Ai o::Ah o::D.int .i64 (vS o)::D.int .i64 (vR o)::D.int .i64 (vQ o)::D.str (aX.text o)::Q9 o)
theorem qcC(o:aX)(ae:P×List (Nat×En)->Prop):(∃(aP:aX),[P.d (Ak o)]=[P.d (Ak aP)]/\Zx/\ ∀(p:aX),p=plainO aP->bif Prod.fst (aX.parent p)==Prod.fst (aX.parent o)&&(zt p==zt o&&true)&&(zr p==zr o&&true) then bif aX.name p==aX.name o then bif aX.dir p==aX.dir o then bif Prod.fst (aX.after p)==Prod.fst (aX.after o)&&(zq p==zq o&&true)&&(zp p==zp o&&true) then bif vS p==vS o&&(vR p==vR o&&true)&&(vQ p==vQ o&&true) then bif aX.text p==aX.text o then bif nj p==nj o then ae (P.d (D.bool (Z32 p==Z32 o)),[]) else Z4 ae else Z4 ae else Z4 ae else Z4 ae else Z4 ae else Z4 ae else Z4 ae)=(aK [(145,Dc)] [] 109 [.d (eI o)] []) ae:=by kernel_rfl
def I3:br:=λps R ae=> ∃o,ps=[.d (eI o)]/\R=[]/\ ∀b,b=eX o->ae (lD b,[])
abbrev dtH(g:ak)(k:Int)(l:List az)(i:Int):S:=⟨45,[(0,.ref 0 0 0),(1,ki l),(7,ki l),(8,iD ((l.map bh).length:Int)),(9,iD i)],vo g k⟩
def eL(l:List az):List D:=List.map bh l
def uu(l:List az):P:=P.d (D.sl 2 (eL l))
def I4(l:List az):Nat×P:=(1,uu l)
def eY:Nat×P:=(0,cb)
def Dd(l:List az):Int:=(↑(List.length (eL l)):Int)
def Z3i(i:Int)(ae:PX×S->Prop)(l:List az)(g:ak)(k:Int):Prop:=bif Zj i then ae (PX.normal,S.mk 45 (eY::I4 l::(7,uu l)::(8,P.d (D.int .i64 (Dd l)))::ZH i) (q6 g k)) else False
def Xo(l:List az)(i:Int):List D:=[D.int .i64 (D.aj (D.ar (D.nth (eL l) (Zc i)) 0)),D.int .i64 (D.aj (D.ar (D.nth (eL l) (Zc i)) 1))]
noncomputable def Xp(l:List az)(i:Int):Bool:=cD PR (30:TypeId) (D.nth (eL l) (Zc i))
def Z3f(ae:PX×S->Prop)(l:List az)(g:ak)(k:Int):Prop:=ae (PX.ret,S.mk 45 (eY::I4 l::Zi) (q6 g k))
def lr(b:Bool):Bool:= !b
def I5(l:List az)(i:Int):Int:=D.aj (D.ar (D.nth (eL l) (Zg i)) 1)
def Hg(l:List az)(i:Int):Int:=D.aj (D.ar (D.nth (eL l) (Zg i)) 0)
def Al(l:List az)(i:Int):List D:=[D.int .i64 (Hg l i),D.int .i64 (I5 l i)]
noncomputable def vU(l:List az)(i:Int):Bool:=cD PR (30:TypeId) (D.nth (eL l) (Zg i))
def Rc(i:Int)(l:List az):Bool:=decide ((0:Int)<=i/\i<Dd l)
def Xq(i:Int)(l:List az):Bool:=decide (i<Dd l)
theorem KX(g:ak)(k:Int)(l:List az)(i:Int)(ae:PX×S->Prop):(bif Xq i l then bif Rc i l then bif vU l i then∃(s:az),[P.d (D.agg (Al l i))]=qg s/\Zx/\ ∀(b:Bool),b=FX s->bif lr b then Z3f ae l g k else∃(a:az) (b:az),P.d (D.agg (Al l i))::I2 g=Da a b/\Zx/\ ∀(c:Int),M4 a b c->bif Zr c then Z3f ae l g k else bif Zr i then bif Zb i then bif decide ((0:Int)<=i-(1:Int)/\i-(1:Int)<Dd l) then bif Xp l i then∃(a:az) (b:az),[P.d (D.agg (Xo l i)),P.d (D.agg (Al l i))]=Da a b/\Zx/\ ∀(c:Int),M4 a b c->bif Z2 c then Z3f ae l g k else Z3i i ae l g k else False else False else False else Z3i i ae l g k else False else False else ae (PX.exit 0,S.mk 45 [eY,I4 l] (q6 g k)))=(aG [(82,vP),(66,yC)] [] 114 2 (dtH g k l i)) ae:=by kernel_rfl
abbrev elH(g:ak)(k:Int)(l:List av)(i:Int):S:=⟨41,[(0,.ref 0 0 0),(1,cR l),(7,cR l),(8,iD ((l.map bE).length:Int)),(9,iD i)],vo g k⟩
def gu(l:List av):List D:=List.map bE l
def pL(l:List av):Nat:=List.length (gu l)
def vp(l:List av):Int:=(↑(pL l):Int)
def lL(l:List av):P:=P.d (D.sl 3 (gu l))
def nk(l:List av):Nat×P:=(1,lL l)
def Z3x(i:Int)(ae:PX×S->Prop)(l:List av)(aQ:ak)(bS:Int):Prop:=bif Zj i then ae (PX.normal,S.mk 41 (eY::nk l::(7,lL l)::(8,P.d (D.int .i64 (vp l)))::ZH i) (q6 aQ bS)) else False
def I6(l:List av)(i:Int):Int:=D.aj (D.ar (D.nth (gu l) (Zg i)) 2)
def I7(l:List av)(i:Int):Int:=D.aj (D.ar (D.nth (gu l) (Zg i)) 1)
def I8(l:List av)(i:Int):Int:=D.aj (D.ar (D.nth (gu l) (Zg i)) 0)
def M9(l:List av)(i:Int):List D:=[D.int .i64 (I8 l i),D.int .i64 (I7 l i),D.int .i64 (I6 l i)]
def Vq(l:List av)(i:Int):List D:=[D.int .i64 (D.aj (D.ar (D.nth (gu l) (Zc i)) 0)),D.int .i64 (D.aj (D.ar (D.nth (gu l) (Zc i)) 1)),D.int .i64 (D.aj (D.ar (D.nth (gu l) (Zc i)) 2))]
def Z3w(l:List av)(i:Int)(x:av)(y:av):Prop:=[P.d (D.agg (Vq l i)),P.d (D.agg (M9 l i))]=um x::iU y
noncomputable def Ov(l:List av)(i:Int):Bool:=cD PR (50:TypeId) (D.nth (gu l) (Zc i))
noncomputable def wJ(l:List av)(i:Int):Bool:=cD PR (50:TypeId) (D.nth (gu l) (Zg i))
def Na(i:Int)(l:List av):Bool:=decide ((0:Int)<=i/\i<vp l)
theorem F7(g:ak)(k:Int)(l:List av)(i:Int)(ae:PX×S->Prop):(bif decide (i<vp l) then bif Na i l then bif wJ l i then∃(aQ:ak) (bS:Int) (x:av),[cb,P.d (D.agg (M9 l i))]=cb::iU x/\Bt g k aQ bS/\ ∀(b:Bool),zo b aQ bS x->bif lr b then ae (PX.ret,S.mk 41 (eY::nk l::Zi) (q6 aQ bS)) else bif Zr i then bif Zb i then bif decide ((0:Int)<=i-(1:Int)/\i-(1:Int)<vp l) then bif Ov l i then∃(x:av) (y:av),Z3w l i x y/\Zx/\ ∀(c:Int),KV x y c->bif Z2 c then ae (PX.ret,S.mk 41 (eY::nk l::Zi) (q6 aQ bS)) else Z3x i ae l aQ bS else False else False else False else Z3x i ae l aQ bS else False else False else ae (PX.exit 0,S.mk 41 [eY,nk l] (q6 g k)))=(aG [(113,rM),(150,qf)] [] 116 2 (elH g k l i)) ae:=by kernel_rfl
theorem De(a b:az):M4 a b (pI a.1 a.2 b.1 b.2) where
 lt:=by
  simp only[rK,pI,KQ,qz,zah]
  (repeat' split)<;>omega
 gt:=by
  simp only[rK,pI,KQ,qz,zah]
  (repeat' split)<;>omega
theorem F8(a b:av):KV a b (yq a.1 a.2.1 a.2.2 b.1 b.2.1 b.2.2) where
 lt:=h9 a b
 gt:=by
  simp only[mj,yq,pI,KQ,qz,zah]
  (repeat' split)<;>omega
theorem jS(s:az):cD PR 30 (bh s)=true:=by kernel_rfl
theorem I9(o:aX):cD PR 54 (eI o)=true:=by kernel_rfl
theorem gi(g:ak):cD PR 34 (aV g)=true:=by kernel_rfl
theorem Nb(a b:az):(a.1==b.1&&(a.2==b.2&&true))=(a==b):=by obtain⟨x,y⟩:=a;obtain⟨z,u⟩:=b;rw[zaF];simp
theorem D1(a b:av):(a.1==b.1&&(a.2.1==b.2.1&&true)&&(a.2.2==b.2.2&&true))=(a==b):=by obtain⟨x,y,z⟩:=a;obtain⟨u,v,w⟩:=b;rw[zaF];simp[and_assoc]
theorem lnE(m n:Nat):((m:Int)==(n:Int))=(m==n):=by rw[zaF,zaR,zaR];omega
theorem Re(o:aX):eX o=((plainO o).parent==o.parent&&((plainO o).name==o.name&&((plainO o).dir==o.dir&&((plainO o).after==o.after&&((plainO o).elem==o.elem&&((plainO o).text==o.text&&((plainO o).ca.length==o.ca.length&&(plainO o).elems.length==o.elems.length))))))):=by
 have h0: ∀x:av,(aB==x)=(x==aB):=λx=>by rw[zaF,zaR,zaR];exact eq_comm
 have h1: ∀s:List UInt8,(([]:List UInt8)==s)=(s==[]):=λs=>by rw[zaF,zaR,zaR];exact eq_comm
 have h2:(false==o.dir)= !o.dir:=by cases o.dir<;>rfl
 have h3: ∀n:Nat,((0:Nat)==n)=(n==0):=λn=>by rw[zaF,zaR,zaR];exact eq_comm
 unfold eX js plainO;by_cases e0:o.kind=0
 ·have g0:(o.kind==0)=true:=by simpa using e0
  have g1:(o.kind==1)=false:=by rw[e0];rfl
  have g2:(o.kind==2)=false:=by rw[e0];rfl
  have g3:(o.kind==3)=false:=by rw[e0];rfl
  have g4:(o.kind==4)=false:=by rw[e0];rfl
  rw[zao e0,g0,g1,g2,g3,g4];simp only[zbl,zat,h0,h1,h3,zca,zaQ,zbv,zbp,zbU];rw[zaF];simp only[zab];constructor
  ·rintro⟨⟨a,⟨b,c⟩,d⟩,e⟩;exact⟨b,c,d,a,e⟩
  rintro⟨b,c,d,a,e⟩;exact⟨⟨a,⟨b,c⟩,d⟩,e⟩
 have f0:(o.kind==0)=false:=by simpa using e0
 by_cases e1:o.kind=1
 ·have g1:(o.kind==1)=true:=by simpa using e1
  have g2:(o.kind==2)=false:=by rw[e1];rfl
  have g3:(o.kind==3)=false:=by rw[e1];rfl
  have g4:(o.kind==4)=false:=by rw[e1];rfl
  rw[zam e0,zao e1,f0,g1,g2,g3,g4];simp only[zbl,zat,h0,h1,h2,h3,zca,Bool.or_true,zaQ,zbp];rw[zaF];simp only[zab];constructor
  ·rintro⟨⟨⟨a,f⟩,⟨b,c⟩,d⟩,e⟩;exact⟨a,b,c,d,f,e⟩
  rintro⟨a,b,c,d,f,e⟩;exact⟨⟨⟨a,f⟩,⟨b,c⟩,d⟩,e⟩
 have f1:(o.kind==1)=false:=by simpa using e1
 by_cases e2:o.kind=2
 ·have g2:(o.kind==2)=true:=by simpa using e2
  have g3:(o.kind==3)=false:=by rw[e2];rfl
  have g4:(o.kind==4)=false:=by rw[e2];rfl
  rw[zam e0,zam e1,zao e2,f0,f1,g2,g3,g4];simp only[zbl,zat,h0,h1,h2,h3,zca,zaQ,zbv,zbp,zbU];rw[zaF];simp only[zab];constructor
  ·rintro⟨⟨⟨⟨a,b⟩,c⟩,⟨d,e⟩,f⟩,g⟩;exact⟨a,b,c,d,e,f,g⟩
  rintro⟨a,b,c,d,e,f,g⟩;exact⟨⟨⟨⟨a,b⟩,c⟩,⟨d,e⟩,f⟩,g⟩
 have g2:(o.kind==2)=false:=by simpa using e2
 by_cases e3:o.kind=3
 ·have g3:(o.kind==3)=true:=by simpa using e3
  have g4:(o.kind==4)=false:=by rw[e3];rfl
  rw[zam e0,zam e1,zam e2,zao e3,f0,f1,g2,g3,g4];simp only[zbl,zat,h0,h1,h2,h3,zca,zaQ,zbv,zbp,zbU];rw[zaF];simp only[zab];constructor
  ·rintro⟨⟨⟨⟨a,b⟩,c⟩,f⟩,g⟩;exact⟨a,b,c,f,g⟩
  rintro⟨a,b,c,f,g⟩;exact⟨⟨⟨⟨a,b⟩,c⟩,f⟩,g⟩
 have g3:(o.kind==3)=false:=by simpa using e3
 by_cases e4:o.kind=4
 ·have g4:(o.kind==4)=true:=by simpa using e4
  rw[zam e0,zam e1,zam e2,zam e3,zao e4,f0,f1,g2,g3,g4];simp only[zat,h0,h1,h2,h3,zbl,zca,zbv,zbp,zbU];rw[zaF];simp only[zab];constructor
  ·rintro⟨⟨⟨⟨a,b⟩,c⟩,f⟩,⟨d,e⟩,g⟩;exact⟨a,b,c,d,e,g,f⟩
  rintro⟨a,b,c,d,e,g,f⟩;exact⟨⟨⟨⟨a,b⟩,c⟩,f⟩,⟨d,e⟩,g⟩
 have g4:(o.kind==4)=false:=by simpa using e4
 rw[zam e0,zam e1,zam e2,zam e3,zam e4,f0,f1,g2,g3,g4];simp only[zat,h0,h1,h2,h3,zbp,zbU];rw[zaF];simp only[zab];constructor
 ·rintro⟨⟨⟨⟨⟨a,b⟩,c⟩,f⟩,⟨d,e⟩,g⟩,h⟩;exact⟨a,b,c,d,e,g,f,h⟩
 rintro⟨a,b,c,d,e,g,f,h⟩;exact⟨⟨⟨⟨⟨a,b⟩,c⟩,f⟩,⟨d,e⟩,g⟩,h⟩
theorem yD{p:Prop}[Decidable p] {A B:Prop}(h1:p)(h2:A):cond (decide p) A B:=gI (zaT h1) h2
section
variable{X:XF}
theorem Ja:FD X 66 yC:=qaP.weaken λps R ae h=>by obtain⟨a,b,rfl,rfl,hp⟩:=h;exact⟨_,_,_,_,rfl,rfl,hp _ (De a b)⟩
theorem Rf:FD X 150 qf:=Xf.weaken λps R ae h=>by obtain⟨a,b,rfl,rfl,hp⟩:=h;exact⟨_,_,_,_,_,_,rfl,rfl,hp _ (F8 a b)⟩
theorem Nc:FD X 88 qf:=mQ.weaken λps R ae h=>by obtain⟨a,b,rfl,rfl,hp⟩:=h;exact⟨_,_,_,_,_,_,rfl,rfl,hp _ (F8 a b)⟩
theorem yE:FD X 14 pK:=FQ.weaken λps R ae h=>by obtain⟨a,b,rfl,rfl,hp⟩:=h;exact⟨_,_,_,_,rfl,rfl,hp _ rfl⟩
theorem qfU:FD X 147 M5:=MV.weaken λps R ae h=>by obtain⟨x,rfl,rfl,hp⟩:=h;exact⟨_,_,_,rfl,rfl,hp _ rfl⟩
theorem qcD:FD X 151 M5:=rH.weaken λps R ae h=>by obtain⟨x,rfl,rfl,hp⟩:=h;exact⟨_,_,_,rfl,rfl,hp _ rfl⟩
theorem Rg:FD X 82 vP:=FD.mk (H:=[]) (by kernel_rfl) .nil .nil (by
 intro ps R ae hh;obtain⟨s,rfl,rfl,hp⟩:=hh
 (rw[<-qfT];delta Z3 Z4 Z1)
 refine bg (λh1=>bg (λh2=>bg (λh3=>hp _ ?_) λh3=>hp _ ?_) λh2=>hp _ ?_) λh1=>hp _ ?_
 all_goals (simp only[uc];rw[eq_comm];first | (rw[zbH];omega)| (rw[zaO];omega)))
theorem Rh:FD X 104 vP:=FD.mk (H:=[]) (by kernel_rfl) .nil .nil (by
 intro ps R ae hh;obtain⟨s,rfl,rfl,hp⟩:=hh
 (rw[<-qcB];delta Z3 Z4 Z1)
 refine bg (λh1=>bg (λh2=>bg (λh3=>hp _ ?_) λh3=>hp _ ?_) λh2=>hp _ ?_) λh1=>hp _ ?_
 all_goals (simp only[uc];rw[eq_comm];first | (rw[zbH];omega)| (rw[zaO];omega)))
theorem Df:FD X 113 rM:=FD.mk (H:=[(147,M5),(66,yC)]) (by kernel_rfl) (.cons qfU (.cons Ja .nil)) .nil (by
 intro ps R ae hh;obtain⟨g,k,x,rfl,rfl,hp⟩:=hh
 (rw[<-Xm];delta Zt Zv oQ jy jz nV qA jA gO jB gQ M6 q6 Z3 I1 gR ia Z2w ZO Vn ll ln tH qg Da M7 I2 gC gD Zx gP um iU)
 refine⟨x,rfl,rfl,λb hb=>ay (λh1=>⟨FY x,g.s,rfl,rfl,λc hc=>bg (λh2=>hp _ ?_) λh2=>ay (λh3=>hp _ ?_) λh3=>hp _ ?_⟩) λh1=>hp _ ?_⟩
 ·rw[cV,<-hb,h1,hc.lt.1 h2];rfl
 ·have e:FY x=g.s:=by rw[Nb (FY x) g.s] at h3;simpa using h3
  have e2:lW (FY x) g.s=false:=by rw[<-zaP,<-hc.lt];exact h2
  rw[cV,<-hb,h1,e2,e];simp
 ·have e:(FY x==g.s)=false:=by rw[<-Nb (FY x) g.s];exact h3
  have e2:lW (FY x) g.s=false:=by rw[<-zaP,<-hc.lt];exact h2
  rw[cV,<-hb,h1,e2,e];rfl
 rw[cV,<-hb,h1];rfl)
theorem Ri:FD X 111 Db:=FD.mk (H:=[(113,rM)]) (by kernel_rfl) (.cons Df .nil) .nil (by
 intro ps R ae hh;obtain⟨g,k,x,rfl,rfl,hp⟩:=hh
 (rw[<-Q8];delta gh zo Zt Zv oQ jy jz nV qA jA gO jB gQ M6 q6 Bt gR gP ia gC gD um iU cb ZO Z2y)
 refine ay (λh1=>hp _ ?_) λh1=>⟨g,k,x,rfl,rfl,λb hb=>hp _ ?_⟩
 ·rw[lj,<-D1 x aB,h1];rfl
 rw[lj,<-D1 x aB,h1,hb];rfl)
theorem Rj:FD X 145 Dc:=FD.mk (H:=[]) (by kernel_rfl) .nil .nil (by
 intro ps R ae hh;obtain⟨o,rfl,rfl,hp⟩:=hh
 (rw[<-Rb];delta Q9 Z2N vQ vR vS zp Ah zq Ai Aj lq Z3 yn Z7 Ra M8 Xn zr zs zt zu zw uo uq ur vT)
 refine hY (λh1=> ?_) λh1=>hY (λh2=> ?_) λh2=>hY (λh3=> ?_) λh3=>hY (λh4=> ?_) λh4=>hY (λh5=> ?_) λh5=> ?_
 ·exact hp _ (by rw[plainO,zao h1])
 ·exact hp _ (by rw[plainO,zam h1,zao h2])
 ·exact hp _ (by rw[plainO,zam h1,zam h2,zao h3])
 ·exact hp _ (by rw[plainO,zam h1,zam h2,zam h3,zao h4])
 ·exact hp _ (by rw[plainO,zam h1,zam h2,zam h3,zam h4,zao h5])
 exact hp _ (by rw[plainO,zam h1,zam h2,zam h3,zam h4,zam h5]))
theorem Xr:FD X 109 I3:=FD.mk (H:=[(145,Dc)]) (by kernel_rfl) (.cons Rj .nil) .nil (by
 intro ps R ae hh;obtain⟨o,rfl,rfl,hp⟩:=hh
 (rw[<-qcC];delta Z3 Z4 Z32 nj vQ vR vS zp zq zr zt Zx Q9 Ah Ai Aj lq zs zu zw uo uq ur vT Ak)
 refine⟨o,rfl,rfl,λp Xs=> ?_⟩;have key:=Re o;rw[<-Xs] at key;rw[D1,D1,D1];simp only[zaa,lnE];refine ay (λh1=>ay (λh2=>ay (λh3=>ay (λh4=>ay (λh5=>ay (λh6=>ay (λh7=>hp _ ?_) λh7=>hp _ ?_) λh6=>hp _ ?_) λh5=>hp _ ?_) λh4=>hp _ ?_) λh3=>hp _ ?_) λh2=>hp _ ?_) λh1=>hp _ ?_
 all_goals (clear Xs;rw[key];simp only[*,zaQ,Bool.false_and]))
def Rk:S->K (PX×S):=λst ae=> ∃g k l,st=dtH g k l 0/\l.length<=9223372036854775807/\(lh l.length (lK g.s l)=false->ae (.ret,⟨45,[(0,.ref 0 0 0),(1,ki l),(4,lD false)],vo g k⟩))/\(lh l.length (lK g.s l)=true->ae (.exit 0,⟨45,[(0,.ref 0 0 0),(1,ki l)],vo g k⟩))
theorem dT{α:Type}{l:List α}{i:Nat}(h:i<l.length)(d:α):l.getD i d=l[i]:=by simp[zac,h]
theorem Rl:LD X 114 2 (ah (aO 114 2) Rk):=LD.find (H:=[(82,vP),(66,yC)]) (hk:=[]) (by kernel_rfl) (by kernel_rfl) (.cons Rg (.cons Ja .nil)) .nil
 (A:=ak×Int×List az) (λa k=>dtH a.1 a.2.1 a.2.2 k) (λa=>a.2.2) (λa j _=> !lK a.1.s a.2.2 j) (λa=>a.2.2.length<=9223372036854775807)
 (λa _=>(.ret,⟨45,[(0,.ref 0 0 0),(1,ki a.2.2),(4,lD false)],vo a.1 a.2.1⟩)) (λa=>(.exit 0,⟨45,[(0,.ref 0 0 0),(1,ki a.2.2)],vo a.1 a.2.1⟩)) (λ_ _ h=>by cases h) (λ_ h=>by cases h)
 (by
  rintro⟨g,k,l⟩ i ae hi hC h0 bQ ht hn;dsimp only at*
  (rw[<-KX];delta Zt Zv oQ jy jz nV qA jA gO jB gQ M6 q6 eL uu I4 cb eY Zn ZH Dd Za Z9 Zj Z3i Z2 Zc Xo Xp Zb Zr ll ln tH qg Da M7 I2 Z3 Zi Z3f lr Zx Zg I5 Hg Al vU Rc Xq)
  have e1:D.nth (l.map bh) i.toNat=bh l[i.toNat]:=aA _ _ _ hi;have d1:=dT hi ((0,0):az);rw[e1];simp only[dtH,zaa] at hn⊢;refine yD bQ (bs ⟨h0,bQ⟩ (aq (jS _) ⟨l[i.toNat],rfl,rfl,λb hb=>ay (λh1=> ?_) λh1=>⟨l[i.toNat],g.s,rfl,rfl,λc hc=>bg (λh2=> ?_) λh2=>bg (λh3=> ?_) λh3=> ?_⟩⟩))
  ·refine ht ?_;rw[lK,d1,<-hb,show b=false by simpa using h1];rfl
  ·refine ht ?_;rw[lK,d1,hc.gt.1 h2];simp
  ·have e2:D.nth (l.map bh) (i-1).toNat=bh (l[(i-1).toNat]'(by omega)):=aA _ _ _ (by omega);have d2:=dT (show(i-1).toNat<l.length by omega) ((0,0):az);rw[e2];have e3:lW g.s l[i.toNat]=false:=by rw[<-zaP,<-hc.gt];exact h2
   refine bs (by omega) (bs ⟨by omega,by omega⟩ (aq (jS _) ⟨l[(i-1).toNat],l[i.toNat],rfl,rfl,λc' qV=>bg (λh4=>ht ?_) λh4=>bs (by omega) (hn ?_)⟩))
   ·have e4:lW l[(i-1).toNat] l[i.toNat]=false:=by rw[<-zaP,<-qV.lt];omega
    rw[lK,d1,show i.toNat-1=(i-1).toNat by omega,d2,e4,show(i.toNat==0)=false by simp;omega];simp
   have e4:lW l[(i-1).toNat] l[i.toNat]=true:=by rw[<-qV.lt];omega
   rw[lK,d1,show i.toNat-1=(i-1).toNat by omega,d2,e3,e4,<-hb,show b=true by simpa using h1];simp
  have e3:lW g.s l[i.toNat]=false:=by rw[<-zaP,<-hc.gt];exact h2
  refine bs (by omega) (hn ?_);rw[lK,d1,e3,<-hb,show b=true by simpa using h1,show(i.toNat==0)=true by simp;omega];simp)
 (by
  rintro⟨g,k,l⟩ i ae hC hi hp;dsimp only at*
  (rw[<-KX];delta Zt Zv oQ jy jz nV qA jA gO jB gQ M6 q6 eL uu I4 cb eY Zn ZH Dd Za Z9 Zj Z3i Z2 Zc Xo Xp Zb Zr ll ln tH qg Da M7 I2 Z3 Zi Z3f lr Zx Zg I5 Hg Al vU Rc Xq)
  simp only[zaa];exact bg (λh=>by omega) λh=>hp)
 (by rintro s ae ⟨g,k,l,rfl,hl,h1,h2⟩;refine⟨(g,k,l),rfl,hl,λi hi h0 ht _=>h1 (C8 (i:=i.toNat) hi (by simpa using ht)),λh=>h2 (ui λi hi=>by simpa using h i hi)⟩)
def Jb:S->K (PX×S):=λst ae=> ∃g k l,st=elH g k l 0/\l.length<=9223372036854775807/\(lh l.length (Br g.s k l)=false->ae (.ret,⟨41,[(0,.ref 0 0 0),(1,cR l),(4,lD false)],vo g k⟩))/\(lh l.length (Br g.s k l)=true->ae (.exit 0,⟨41,[(0,.ref 0 0 0),(1,cR l)],vo g k⟩))
theorem Nd:LD X 116 2 (ah (aO 116 2) Jb):=LD.find (H:=[(113,rM),(150,qf)]) (hk:=[]) (by kernel_rfl) (by kernel_rfl) (.cons Df (.cons Rf .nil)) .nil
 (A:=ak×Int×List av) (λa k=>elH a.1 a.2.1 a.2.2 k) (λa=>a.2.2) (λa j _=> !Br a.1.s a.2.1 a.2.2 j) (λa=>a.2.2.length<=9223372036854775807)
 (λa _=>(.ret,⟨41,[(0,.ref 0 0 0),(1,cR a.2.2),(4,lD false)],vo a.1 a.2.1⟩)) (λa=>(.exit 0,⟨41,[(0,.ref 0 0 0),(1,cR a.2.2)],vo a.1 a.2.1⟩)) (λ_ _ h=>by cases h) (λ_ h=>by cases h)
 (by
  rintro⟨g,k,l⟩ i ae hi hC h0 bQ ht hn;dsimp only at*
  (rw[<-F7];delta Zt Zv oQ jy jz nV qA jA gO jB gQ M6 q6 Zn ZH gu pL vp lL nk cb eY Za Z9 Zj Z3x Z2 Zx gR gP ia gC gD um iU Zg I6 I7 I8 M9 Zc Vq Z3w Ov Zb Zr Z3 Zi lr zo Bt wJ Na)
  have e1:D.nth (l.map bE) i.toNat=bE l[i.toNat]:=aA _ _ _ hi;have d1:=dT hi aB;rw[e1];simp only[elH,zaa] at hn⊢;refine yD bQ (bs ⟨h0,bQ⟩ (aq (lJ _) ⟨g,k,l[i.toNat],rfl,rfl,λb hb=>ay (λh1=> ?_) λh1=>bg (λh3=> ?_) λh3=> ?_⟩))
  ·refine ht ?_;rw[Br,d1,<-hb,show b=false by simpa using h1];rfl
  ·have e2:D.nth (l.map bE) (i-1).toNat=bE (l[(i-1).toNat]'(by omega)):=aA _ _ _ (by omega);have d2:=dT (show(i-1).toNat<l.length by omega) aB;rw[e2];refine bs (by omega) (bs ⟨by omega,by omega⟩ (aq (lJ _) ⟨l[(i-1).toNat],l[i.toNat],rfl,rfl,λc' qV=>bg (λh4=>ht ?_) λh4=>bs (by omega) (hn ?_)⟩))
   ·have e4:mj l[(i-1).toNat] l[i.toNat]=false:=by rw[<-zaP,<-qV.lt];omega
    rw[Br,d1,show i.toNat-1=(i-1).toNat by omega,d2,e4,show(i.toNat==0)=false by simp;omega];simp
   have e4:mj l[(i-1).toNat] l[i.toNat]=true:=by rw[<-qV.lt];omega
   rw[Br,d1,show i.toNat-1=(i-1).toNat by omega,d2,e4,<-hb,show b=true by simpa using h1];simp
  refine bs (by omega) (hn ?_);rw[Br,d1,<-hb,show b=true by simpa using h1,show(i.toNat==0)=true by simp;omega];simp)
 (by
  rintro⟨g,k,l⟩ i ae hC hi hp;dsimp only at*
  (rw[<-F7];delta Zt Zv oQ jy jz nV qA jA gO jB gQ M6 q6 Zn ZH gu pL vp lL nk cb eY Za Z9 Zj Z3x Z2 Zx gR gP ia gC gD um iU Zg I6 I7 I8 M9 Zc Vq Z3w Ov Zb Zr Z3 Zi lr zo Bt wJ Na)
  simp only[zaa];exact bg (λh=>by omega) λh=>hp)
 (by rintro s ae ⟨g,k,l,rfl,hl,h1,h2⟩;refine⟨(g,k,l),rfl,hl,λi hi h0 ht _=>h1 (C8 (i:=i.toNat) hi (by simpa using ht)),λh=>h2 (ui λi hi=>by simpa using h i hi)⟩)
end
def eu(au:List az):Nat:=List.length au
def Z3y:List (Nat×P):=[(9,P.d Z7)]
def Z3z(l:List az)(g:ak)(k:Int):S:=S.mk 45 (eY::I4 l::(7,uu l)::(8,P.d (D.int .i64 (Dd l)))::Z3y) (q6 g k)
theorem qcE(g:ak)(k:Int)(l:List az)(ae:P×List (Nat×En)->Prop):(∃(aQ:ak) (bS:Int) (au:List az),Z3z l g k=Z3z au aQ bS/\eu au<=Zy/\(lh (eu au) (lK (ak.s aQ) au)=false->I1 ae aQ bS)/\(lh (eu au) (lK (ak.s aQ) au)=true->ae (P.d (D.bool (decide (Dd au<=(200:Int)))),q6 aQ bS)))=(aK [] [(2,ah (aO 114 2) Rk)] 114 [.ref 0 0 0,ki l] (vo g k)) ae:=by kernel_rfl
def ib(au:List av):Nat:=List.length au
def Z3B(l:List av)(g:ak)(k:Int):S:=S.mk 41 (eY::nk l::(7,lL l)::(8,P.d (D.int .i64 (vp l)))::Z3y) (q6 g k)
theorem Xt(g:ak)(k:Int)(l:List av)(ae:P×List (Nat×En)->Prop):(∃(aQ:ak) (bS:Int) (au:List av),Z3B l g k=Z3B au aQ bS/\ib au<=Zy/\(lh (ib au) (Br (ak.s aQ) bS au)=false->I1 ae aQ bS)/\(lh (ib au) (Br (ak.s aQ) bS au)=true->bif decide (vp au>=(1:Int)) then ae (P.d (D.bool (decide (vp au<=(2000:Int)))),q6 aQ bS) else I1 ae aQ bS))=(aK [] [(2,ah (aO 116 2) Jb)] 116 [.ref 0 0 0,cR l] (vo g k)) ae:=by kernel_rfl
def Jc:br:=λps R ae=> ∃g k l,ps=[.ref 0 0 0,ki l]/\R=vo g k/\l.length<=9223372036854775807/\ ∀b,b=mS g.s l->ae (lD b,vo g k)
def Dg:br:=λps R ae=> ∃g k l,ps=[.ref 0 0 0,cR l]/\R=vo g k/\l.length<=9223372036854775807/\ ∀b,b=sX g.s k l->ae (lD b,vo g k)
def uv:br:=λps R ae=> ∃s,ps=[sD s]/\R=[]/\ ∀b,b=dw s->ae (lD b,[])
def Rm(o:aX):List P:=[P.d (D.sl 3 (List.map bE (aX.elems o)))]
def Z3N(g:ak)(k:Int)(n:Int):List (Nat×En):=[(0,En.mk 0 (some 0) (Obj.box (149:TypeId) [P.d (gQ g),P.d (gO g),qA g,nV g,P.d (jz g),P.d (jy g),oQ g,P.d (D.int .i64 (k+n))]))]
def Z3M(k:Int)(n:Int):Bool:=decide (Z9<=k+n/\k+n<=Za)
def Z3O(k:Int)(n:Int)(ae:P×List (Nat×En)->Prop)(g:ak):Prop:=bif Z3M k n then ae (P.d Z3,Z3N g k n) else False
def Z3L(k:Int)(ae:P×List (Nat×En)->Prop)(g:ak):Prop:=bif decide (Z9<=k+(0:Int)/\k+(0:Int)<=Za) then ae (P.d Z3,[(0,En.mk 0 (some 0) (Obj.box (149:TypeId) [P.d (gQ g),P.d (gO g),qA g,nV g,P.d (jz g),P.d (jy g),oQ g,P.d (D.int .i64 (k+(0:Int)))]))]) else False
def Z3K(o:aX)(g:ak)(k:Int):Bool:=vS o==jB g&&(vR o==jA g&&true)&&(vQ o==k&&true)
def Z3J(o:aX):P:=P.d (D.agg [Aj o,Ai o,Ah o])
def Z3H(o:aX):P:=P.d (D.agg [ur o,uq o,uo o])
def Z3I(o:aX)(x:av):Prop:=[cb,Z3H o]=cb::iU x
def Z3G(aQ:ak)(bS:Int):List (Nat×En):=[(0,En.mk 0 (some 0) (Obj.box (149:TypeId) [P.d (gQ aQ),P.d (gO aQ),qA aQ,nV aQ,P.d (jz aQ),P.d (jy aQ),oQ aQ,P.d (Zn bS)]))]
def Z3F(o:aX)(s:List UInt8):Prop:=[P.d (D.str (aX.name o))]=vi s
def Z3E(o:aX):P:=P.d (D.agg [zw o,zu o,zs o])
def Z3D(o:aX)(g:ak)(k:Int):Bool:=Prod.fst (aX.node o)==jB g&&(Prod.fst (Prod.snd (aX.node o))==jA g&&true)&&(Prod.snd (Prod.snd (aX.node o))==k&&true)
theorem qfV(g:ak)(k:Int)(o:aX)(ae:P×List (Nat×En)->Prop):(∃(aP:aX),[P.d (Ak o)]=[P.d (Ak aP)]/\Zx/\ ∀(b:Bool),b=eX aP->bif lr b then I1 ae g k else bif aX.kind o==(0:Int) then bif Z3D o g k then∃(aQ:ak) (bS:Int) (x:av),[cb,Z3E o]=cb::iU x/\Bt g k aQ bS/\ ∀(b:Bool),b=lj (ak.s aQ) bS x->bif b then∃(s:List UInt8),Z3F o s/\Zx/\ ∀(b:Bool),b=dw s->bif Zj bS then ae (gh b,Z3G aQ bS) else False else bif Zj bS then ae (P.d Z3,Z3G aQ bS) else False else bif Zj k then ae (P.d Z3,Z3G g k) else False else bif aX.kind o==(1:Int) then∃(aQ:ak) (bS:Int) (x:av),Z3I o x/\Bt g k aQ bS/\ ∀(b:Bool),zo b aQ bS x->bif b then∃(g:ak) (k:Int) (x:av),[cb,Z3E o]=cb::iU x/\Bt aQ bS g k/\ ∀(b:Bool),b=lj (ak.s g) k x->bif b then∃(s:List UInt8),Z3F o s/\Zx/\ ∀(b:Bool),b=dw s->ae (gh b,q6 g k) else I1 ae g k else I1 ae aQ bS else bif aX.kind o==(2:Int) then∃(aQ:ak) (bS:Int) (x:av),Z3I o x/\Bt g k aQ bS/\ ∀(b:Bool),zo b aQ bS x->bif b then∃(g:ak) (k:Int) (l:List az),[cb,P.d (lq o)]=[cb,uu l]/\Bt aQ bS g k/\eu l<=Zy/\ ∀(b:Bool),b=mS (ak.s g) l->ae (gh b,q6 g k) else I1 ae aQ bS else bif aX.kind o==(3:Int) then∃(s:List UInt8),[P.d (D.str (aX.text o))]=vi s/\Zx/\Hc s/\(QU s-> ∃(aQ:ak) (bS:Int) (x:av),Z3I o x/\Bt g k aQ bS/\ ∀(b:Bool),zo b aQ bS x->bif b then∃(g:ak) (k:Int) (x:av),[cb,Z3J o]=cb::iU x/\Bt aQ bS g k/\ ∀(b:Bool),b=lj (ak.s g) k x->bif b then bif Z3K o g k then Z3L k ae g else Z3L k ae g else Z3L k ae g else Z3L bS ae aQ)/\(QT s-> ∀(n:Int),n=Ag s-> ∃(aQ:ak) (bS:Int) (x:av),Z3I o x/\Bt g k aQ bS/\ ∀(b:Bool),zo b aQ bS x->bif b then∃(g:ak) (k:Int) (x:av),[cb,Z3J o]=cb::iU x/\Bt aQ bS g k/\ ∀(b:Bool),b=lj (ak.s g) k x->bif b then bif Z3K o g k then bif Z0 n then bif Z3M k n then ae (P.d (D.bool (decide (n<=(2000:Int)))),Z3N g k n) else False else Z3O k n ae g else Z3O k n ae g else Z3O k n ae g else Z3O bS n ae aQ) else bif aX.kind o==(4:Int) then∃(aQ:ak) (bS:Int) (x:av),Z3I o x/\Bt g k aQ bS/\ ∀(b:Bool),zo b aQ bS x->bif b then∃(g:ak) (k:Int) (l:List av),cb::Rm o=[cb,lL l]/\Bt aQ bS g k/\ib l<=Zy/\ ∀(b:Bool),b=sX (ak.s g) k l->ae (gh b,q6 g k) else I1 ae aQ bS else I1 ae g k)=(aK [(109,I3),(113,rM),(111,Db),(112,uv),(114,Jc),(116,Dg),(115,Bs)] [] 83 [.ref 0 0 0,.d (eI o)] (vo g k)) ae:=by kernel_rfl
def SmO(o:aX):Prop:=o.text.length<=2000000/\o.ca.length<=9223372036854775807/\o.elems.length<=9223372036854775807
def kOk(k:Int):Prop:=0<=k/\k<=1000000000000
def qcF:br:=λps R ae=> ∃g k o,ps=[.ref 0 0 0,.d (eI o)]/\R=vo g k/\(SmO o/\kOk k)/\(jR g.s k o=none-> ∀k',ae (lD false,vo g k'))/\(∀n k',jR g.s k o=some n->k'=k+n->ae (lD true,vo g k'))
def Ow(g:ak):Prop:=(∀o∈g.ops,SmO o)/\g.ops.length<=9223372036854775807/\g.deps.length<=1000000
def Bu:br:=λps R ae=> ∃v,ps=[vD v]/\R=[]/\v.length<=1000000/\ ∀b,b=cQ v->ae (lD b,[])
def F9:br:=λps R ae=> ∃v r,ps=[vD v,iD r]/\R=[]/\v.length<=1000000/\ ∀n,n=eG v r->ae (iD n,[])
def Z3S(g:ak):Bool:=decide (Z9<=ak.n g-(1:Int)/\ak.n g-(1:Int)<=Za)
def Z3R(g:ak)(v:List Int)(r:Int):Prop:=[nV g,P.d (gO g)]=Zk v::Zv r
def Hh(v:List Int):Prop:=List.length v<=1000000
theorem Xu(g:ak)(ae:P×List (Nat×En)->Prop):(∃(s:az),I2 g=qg s/\Zx/\ ∀(b:Bool),b=FX s->bif b then bif decide (ak.n g>=(1:Int)) then bif decide (ak.n g<=Z1) then∃(v:List Int),[nV g]=ZW v/\Zx/\Hh v/\ ∀(b:Bool),b=cQ v->bif b then∃(v:List Int) (r:Int),Z3R g v r/\Zx/\Hh v/\ ∀(n:Int),n=eG v r->bif Z3S g then ae (P.d (D.bool (n==ak.n g-(1:Int))),[]) else False else Z4 ae else Z4 ae else Z4 ae else Z4 ae)=(aK [(82,vP),(108,Bu),(31,F9)] [] 81 [.d (aV g)] []) ae:=by kernel_rfl
def Jd:br:=λps R ae=> ∃g,ps=[.d (aV g)]/\R=[]/\Ow g/\ ∀b,b=Q6 g->ae (lD b,[])
abbrev qic(g:ak)(k:Int):List (Nat×En):=[(0,⟨0,none,ckB g k⟩)]
abbrev wcH(g:ak)(k i:Int):S:=⟨59,[(3,.ref 0 0 0),(48,qcA g.ops),(49,iD ((g.ops.map eI).length:Int)),(50,iD i)],qic g k⟩
def vV(g:ak):Int:=(↑(List.length (List.map eI (ak.ops g))):Int)
def dH:Nat×P:=(3,cb)
def Z45:List (Nat×P):=[(2,P.d (D.int .i64 (80:Int)))]
def jC(g:ak)(i:Int):D:=D.nth (List.map eI (ak.ops g)) (Zg i)
def Xv(g:ak)(i:Int):D:=D.int .i64 (D.aj (D.ar (jC g i) 6))
def Xw(g:ak)(i:Int):D:=D.int .i64 (D.aj (D.ar (jC g i) 5))
def Xx(g:ak)(i:Int):D:=D.int .i64 (D.aj (D.ar (jC g i) 4))
def Rn(g:ak)(i:Int):D:=D.int .i64 (D.aj (D.ar (jC g i) 3))
def Ro(g:ak)(i:Int):D:=D.int .i64 (D.aj (D.ar (jC g i) 2))
def Rp(g:ak)(i:Int):D:=D.int .i64 (D.aj (D.ar (jC g i) 1))
def Z44(g:ak)(i:Int):P:=P.d (D.agg [D.int .i64 (D.aj (D.ar (jC g i) 0)),Rp g i,Ro g i,Rn g i,Xx g i,Xw g i,Xv g i,D.str (D.eJ (D.ar (jC g i) 7)),D.bool (D.e9 (D.ar (jC g i) 8)),D.sl 2 (D.fa (D.ar (jC g i) 9)),D.int .i64 (D.aj (D.ar (jC g i) 10)),D.int .i64 (D.aj (D.ar (jC g i) 11)),D.int .i64 (D.aj (D.ar (jC g i) 12)),D.int .i64 (D.aj (D.ar (jC g i) 13)),D.int .i64 (D.aj (D.ar (jC g i) 14)),D.int .i64 (D.aj (D.ar (jC g i) 15)),D.str (D.eJ (D.ar (jC g i) 16)),D.sl 3 (D.fa (D.ar (jC g i) 17))])
noncomputable def Ox(g:ak)(i:Int):Bool:=cD PR (54:TypeId) (jC g i)
def Oy(i:Int)(g:ak):Bool:=decide ((0:Int)<=i/\i<vV g)
def Rq(i:Int)(g:ak):Bool:=decide (i<vV g)
theorem Rr(g:ak)(k i:Int)(ae:PX×S->Prop):(bif Rq i g then bif Oy i g then bif Ox g i then∃(aQ:ak) (bS:Int) (o:aX),[cb,Z44 g i]=[cb,P.d (Ak o)]/\Bt g k aQ bS/\(SmO o/\kOk bS)/\(jR (ak.s aQ) bS o=none-> ∀(_:Int),ae (PX.ret,S.mk 59 Z45 []))/\ ∀(n k':Int),jR (ak.s aQ) bS o=some n->k'=bS+n->bif Zj i then ae (PX.normal,S.mk 59 [dH,(48,oQ g),(49,P.d (D.int .i64 (vV g))),(50,P.d (Zn i))] [(0,En.mk 0 none (M6 aQ k'))]) else False else False else False else ae (PX.exit 1,S.mk 59 [] []))=(aG [(83,qcF)] [] 51 11 (wcH g k i)) ae:=by kernel_rfl
def qcG:S->K (PX×S):=λst ae=> ∃g,st=wcH g 0 0/\(Ow g/\g.ops.length<=200)/\(iu g.s 0 g.ops=false->ae (.ret,⟨59,[(2,iD 80)],[]⟩))/\(iu g.s 0 g.ops=true->ae (.exit 1,⟨59,[],[]⟩))
def Dh(ae:P×List (Nat×En)->Prop):Prop:=ae (P.d (D.int .i64 (80:Int)),[])
def Z4f(vq:ak):Prop:=List.length (ak.ops vq)<=200
def Z4g(vq:ak)(ae:P×List (Nat×En)->Prop):Prop:=(Ow vq/\Z4f vq)/\(iu (ak.s vq) (0:Int) (ak.ops vq)=false->Dh ae)/\(iu (ak.s vq) (0:Int) (ak.ops vq)=true->Z8 ae)
def Z4e(g:ak):S:=S.mk 59 [dH,(48,oQ g),(49,P.d (D.int .i64 (vV g))),(50,P.d Z7)] [(0,En.mk 0 none (Obj.box (149:TypeId) (P.d (gQ g)::P.d (gO g)::qA g::nV g::P.d (jz g)::P.d (jy g)::oQ g::qy)))]
def Z4d(g:ak):Bool:=decide (vV g>(0:Int))
def Z4c(g:ak)(a:az)(b:az):Prop:=P.d (D.agg [jz g,jy g])::I2 g=Da a b
def Z4b(g:ak)(s:az):Prop:=[P.d (D.agg [jz g,jy g])]=qg s
def Z4a(g:ak):Bool:= !(Prod.fst (ak.bY g)==(0:Int)&&(Prod.snd (ak.bY g)==(0:Int)&&true))
def oR(g:ak):P:=P.d (D.agg [gQ g,gO g,D.int .i64 (ak.n g),D.sl 1 (aZ (ak.deps g)),jz g,jy g,D.sl 18 (List.map eI (ak.ops g))])
def Je(g:ak):List P:=[oR g]
theorem qfW(g:ak)(ae:P×List (Nat×En)->Prop):(∃(aQ:ak),Je g=Je aQ/\Zx/\Ow aQ/\ ∀(b:Bool),b=Q6 aQ->bif lr b then Dh ae else bif Z4a g then∃(s:az),Z4b g s/\Zx/\ ∀(b:Bool),b=FX s->bif lr b then Dh ae else∃(a:az) (b:az),Z4c g a b/\Zx/\ ∀(c:Int),M4 a b c->bif Z2 c then Dh ae else bif Z4d g then Dh ae else Z8 ae else bif decide (vV g<(1:Int)) then Dh ae else bif decide (vV g>(200:Int)) then Dh ae else∃(vq:ak),Z4e g=Z4e vq/\Z4g vq ae)=(aK [(81,Jd),(82,vP),(66,yC)] [(11,ah (aO 51 11) qcG)] 51 [.d (aV g)] []) ae:=by kernel_rfl
def Ga:br:=λps R ae=> ∃g,ps=[.d (aV g)]/\R=[]/\Ow g/\ ∀e,e=(if ct g=true then 0 else 80)->ae (iD e,[])
section
variable{X:XF}
theorem Xy:FD X 114 Jc:=FD.mk (H:=[]) (hk:=[(2,ah (aO 114 2) Rk)]) (by kernel_rfl) .nil (.cons Rl .nil) (by
 intro ps R ae hh;obtain⟨g,k,l,rfl,rfl,hl,hp⟩:=hh
 (rw[<-qcE];delta Zt Zv oQ jy jz nV qA jA gO jB gQ M6 q6 eL Dd Z3 I1 Zy eu Z7 Z3y uu I4 cb eY Z3z)
 refine⟨g,k,l,rfl,hl,λh=>hp _ ?_,λh=>hp _ ?_⟩
 ·rw[mS,h];rfl
 rw[mS,h,zaa,zaQ,zbH];omega)
theorem Rs:FD X 116 Dg:=FD.mk (H:=[]) (hk:=[(2,ah (aO 116 2) Jb)]) (by kernel_rfl) .nil (.cons Nd .nil) (by
 intro ps R ae hh;obtain⟨g,k,l,rfl,rfl,hl,hp⟩:=hh
 (rw[<-Xt];delta Zt Zv oQ jy jz nV qA jA gO jB gQ M6 q6 gu pL vp Z3 I1 Zy ib Z7 Z3y lL nk cb eY Z3B)
 simp only[zaa];refine⟨g,k,l,by simp only[],hl,λh=>hp _ ?_,λh=>bg (λh2=>hp _ ?_) λh2=>hp _ ?_⟩
 ·rw[sX,h];rfl
 ·rw[sX,h,zaQ,zbH];omega
 rw[sX,h,zaQ];exact(zaL (by omega)).symm)
theorem Xz:FD X 112 uv:=qcq.weaken λps R ae h=>by obtain⟨s,rfl,rfl,hp⟩:=h;exact⟨s,rfl,rfl,hp _ rfl⟩
theorem Ru:FD X 138 uv:=C4.weaken λps R ae h=>by obtain⟨s,rfl,rfl,hp⟩:=h;exact⟨s,rfl,rfl,hp _ rfl⟩
theorem qcH:FD X 108 Bu:=qfC.weaken λps R ae h=>by obtain⟨s,rfl,rfl,hs,hp⟩:=h;exact⟨s,rfl,rfl,hs,hp _ rfl⟩
theorem qcI:FD X 105 Bu:=qfD.weaken λps R ae h=>by obtain⟨s,rfl,rfl,hs,hp⟩:=h;exact⟨s,rfl,rfl,hs,hp _ rfl⟩
theorem qaS:FD X 31 F9:=qh6.weaken λps R ae h=>by obtain⟨s,r,rfl,rfl,hs,hp⟩:=h;exact⟨s,r,rfl,rfl,by omega,hp _ rfl⟩
theorem qcJ:FD X 13 F9:=FI.weaken λps R ae h=>by obtain⟨s,r,rfl,rfl,hs,hp⟩:=h;exact⟨s,r,rfl,rfl,by omega,hp _ rfl⟩
theorem XA:FD X 81 Jd:=FD.mk (H:=[(82,vP),(108,Bu),(31,F9)]) (by kernel_rfl) (.cons Rg (.cons qcH (.cons qaS .nil))) .nil (by
 intro ps R ae hh;obtain⟨g,rfl,rfl,hs,hp⟩:=hh
 (rw[<-Xu];delta Z3 Z4 Za Z9 Z3S Zt Zv Zk jA gO nV Z3R Hh ZW Z1 Zx ll ln tH qg jB gQ M7 I2)
 have key: ∀b,b=(FX g.s&&(decide (g.n>=1)&&(decide (g.n<=1099511627776)&&(cQ g.deps&&(eG g.deps g.s.2==g.n-1)))))->b=Q6 g:=λb hb=>by
  rw[hb,Q6];rw[zaF];simp only[zab,zah];constructor
  ·rintro⟨a,b,c,d,e⟩;exact⟨⟨⟨a,b,c⟩,d⟩,e⟩
  rintro⟨⟨⟨a,b,c⟩,d⟩,e⟩;exact⟨a,b,c,d,e⟩
 refine⟨g.s,rfl,rfl,λb hb=>ay (λh1=>bg (λh2=>bg (λh3=>⟨g.deps,rfl,rfl,hs.2.2,λc hc=>ay (λh4=>⟨g.deps,g.s.2,rfl,rfl,hs.2.2,λn hn=>bs (by omega) (hp _ (key _ ?_))⟩) λh4=>hp _ (key _ ?_)⟩) λh3=>hp _ (key _ ?_)) λh2=>hp _ (key _ ?_)) λh1=>hp _ (key _ ?_)⟩
 ·rw[<-hb,h1,zaT h2,zaT h3,<-hc,h4,<-hn];rfl
 ·rw[<-hb,h1,zaT h2,zaT h3,<-hc,h4];rfl
 ·rw[<-hb,h1,zaT h2,zaL h3];rfl
 ·rw[<-hb,h1,zaL h2];rfl
 rw[<-hb,h1];rfl)
theorem Rv{s:az}{k n:Int}{o:aX}(h:jR s k o=some n)(ho:o.text.length<=2000000):0<=n/\n<=2000000:=by
 have h1:=yA o.text;have h2:=C9 o.text;unfold jR at h
 (repeat' split at h)<;>simp at h<;>omega
theorem qfX:FD X 83 qcF:=FD.mk (H:=[(109,I3),(113,rM),(111,Db),(112,uv),(114,Jc),(116,Dg),(115,Bs)]) (by kernel_rfl)
  (.cons Xr (.cons Df (.cons Ri (.cons Xz (.cons Xy (.cons Rs (.cons qcz .nil))))))) .nil (by
 intro ps R ae hh;obtain⟨g,k,o,rfl,rfl,⟨hs,hk⟩,h1,h2⟩:=hh;have fV:0<=k/\k<=1000000000000:=hk
 (rw[<-qfV];delta ib gu lL Rm oQ jy jz nV qA jA gO jB gQ Z3N Z3 Za Z9 Z3M Z3O Z0 QT Z3L vQ vR vS Z3K zp Ah zq Ai Aj Z3J QU rJ Hc vi Zy eu eL uu lq Zt Zv M6 q6 zo gR gP ia gC gD um iU uo uq ur Z3H cb Z3I Zn Z3G gh Zj Z3F Bt zr zs zt zu zw Z3E Z3D I1 lr Zx Q9 vT Ak)
 refine⟨o,rfl,rfl,λb hb=>ay (λh0=>h1 ?_ k) λh0=> ?_⟩
 ·have:eX o=false:=by rw[<-hb];simpa using h0
  rw[jR,zao this]
 have D2:eX o=true:=by rw[<-hb];simpa using h0
 have u:jR g.s k o=_:=jR.eq_1 g.s k o;rw[zam (by rw[D2];simp)] at u;refine hY (λe=> ?_) λe0=>hY (λe=> ?_) λe1=>hY (λe=> ?_) λe2=>hY (λe=> ?_) λe3=>hY (λe=> ?_) λe4=>h1 ?_ k
 ·rw[zao e] at u;rw[D1 o.node (g.s.1,g.s.2,k)];refine ay (λc1=>⟨g,k,o.parent,rfl,rfl,λb2 cr=>ay (λc2=>⟨o.name,rfl,rfl,λb3 lE=>bs (by omega) ?_⟩) λc2=>bs (by omega) (h1 ?_ _)⟩) λc1=>bs (by omega) (h1 ?_ _)
  ·cases b3 with
   |true=>exact h2 1 _ (by rw[u,zao ⟨by simpa using c1,by rw[<-cr,c2],lE.symm⟩]) rfl
   |false=>exact h1 (by rw[u,zam (λh=>by rw[h.2.2] at lE;cases lE)]) _
  ·rw[u,zam (λh=>by rw[h.2.1] at cr;rw[cr] at c2;cases c2)]
  rw[u,zam (λh=>by rw[h.1] at c1;simp at c1)]
 ·rw[zam e0,zao e] at u;refine⟨g,k,o.node,rfl,rfl,λb2 cr=>ay (λc2=>⟨g,k,o.parent,rfl,rfl,λb3 lE=>ay (λc3=>⟨o.name,rfl,rfl,λb4 hb4=> ?_⟩) λc3=>h1 ?_ _⟩) λc2=>h1 ?_ _⟩
  ·cases b4 with
   |true=>exact h2 0 k (by rw[u,zao ⟨by rw[<-cr,c2],by rw[<-lE,c3],hb4.symm⟩]) (by omega)
   |false=>exact h1 (by rw[u,zam (λh=>by rw[h.2.2] at hb4;cases hb4)]) _
  ·rw[u,zam (λh=>by rw[h.2.1] at lE;rw[lE] at c3;cases c3)]
  rw[u,zam (λh=>by rw[h.1] at cr;rw[cr] at c2;cases c2)]
 ·rw[zam e0,zam e1,zao e] at u;refine⟨g,k,o.node,rfl,rfl,λb2 cr=>ay (λc2=>⟨g,k,o.ca,rfl,rfl,hs.2.1,λb3 lE=> ?_⟩) λc2=>h1 ?_ _⟩
  ·cases b3 with
   |true=>exact h2 0 k (by rw[u,zao ⟨by rw[<-cr,c2],lE.symm⟩]) (by omega)
   |false=>exact h1 (by rw[u,zam (λh=>by rw[h.2] at lE;cases lE)]) _
  rw[u,zam (λh=>by rw[h.1] at cr;rw[cr] at c2;cases c2)]
 ·rw[zam e0,zam e1,zam e2,zao e] at u;have bX: ∀n,n=Ag o.text->0<=n/\n<=2000000:=λn hn=>by have g1:=yA o.text;have g2:=C9 o.text;have:=hs.1;omega
  refine⟨o.text,rfl,rfl,hs.1,λhv=> ?_,λhv n hn=> ?_⟩
  ·have hr:mT o.text=false:=by rw[mT,hv];rfl
   have b7:jR g.s k o=none:=by rw[u,zam (λh=>by rw[h.2.2.2] at hr;cases hr)]
   refine⟨g,k,o.node,rfl,rfl,λb2 cr=>ay (λc2=>⟨g,k,o.after,rfl,rfl,λb3 lE=>ay (λc3=>ay (λc4=>bs (by omega) (h1 b7 _)) λc4=>bs (by omega) (h1 b7 _)) λc3=>bs (by omega) (h1 b7 _)⟩) λc2=>bs (by omega) (h1 b7 _)⟩
  have:=bX n hn;have hr:mT o.text=decide (1<=n/\n<=2000):=by rw[mT,hv,zaQ,hn]
  refine⟨g,k,o.node,rfl,rfl,λb2 cr=>ay (λc2=>⟨g,k,o.after,rfl,rfl,λb3 lE=>ay (λc3=> ?_) λc3=>bs (by omega) (h1 ?_ _)⟩) λc2=>bs (by omega) (h1 ?_ _)⟩
  ·rw[D1 o.elem (g.s.1,g.s.2,k)];refine ay (λc4=>bg (λc5=>bs (by omega) ?_) λc5=>bs (by omega) (h1 ?_ _)) λc4=>bs (by omega) (h1 ?_ _)
   ·by_cases c6:n<=2000
    ·rw[show decide (n<=2000)=true from zaT c6];exact h2 n _ (by rw[u,zao ⟨by rw[<-cr,c2],by rw[<-lE,c3],by simpa using c4,by rw[hr];exact zaT ⟨c5,c6⟩⟩,hn]) rfl
    rw[show decide (n<=2000)=false from zaL c6];exact h1 (by rw[u,zam (λh=>by rw[hr] at h;exact c6 (zbE h.2.2.2).2)]) _
   ·rw[u,zam (λh=>by rw[hr] at h;exact c5 (zbE h.2.2.2).1)]
   rw[u,zam (λh=>by rw[h.2.2.1] at c4;simp at c4)]
  ·rw[u,zam (λh=>by rw[h.2.1] at lE;rw[lE] at c3;cases c3)]
  rw[u,zam (λh=>by rw[h.1] at cr;rw[cr] at c2;cases c2)]
 ·rw[zam e0,zam e1,zam e2,zam e3,zao e] at u;refine⟨g,k,o.node,rfl,rfl,λb2 cr=>ay (λc2=>⟨g,k,o.elems,rfl,rfl,hs.2.2,λb3 lE=> ?_⟩) λc2=>h1 ?_ _⟩
  ·cases b3 with
   |true=>exact h2 0 k (by rw[u,zao ⟨by rw[<-cr,c2],lE.symm⟩]) (by omega)
   |false=>exact h1 (by rw[u,zam (λh=>by rw[h.2] at lE;cases lE)]) _
  rw[u,zam (λh=>by rw[h.1] at cr;rw[cr] at c2;cases c2)]
 rw[u,zam e0,zam e1,zam e2,zam e3,zam e4])
theorem XB:LD X 51 11 (ah (aO 51 11) qcG):=LD.idx (H:=[(83,qcF)]) (hk:=[]) (by kernel_rfl) (by kernel_rfl) (.cons qfX .nil) .nil
 (A:=ak) (B:=Int) (λg k i=>wcH g k i) (λg=>g.ops.length) (λg i k=>(Ow g/\g.ops.length<=200)/\(0<=k/\k<=2000000*i)/\iu g.s 0 g.ops=iu g.s k (g.ops.drop i))
 (λg x=>(iu g.s 0 g.ops=false/\x=(.ret,⟨59,[(2,iD 80)],[]⟩))\/(iu g.s 0 g.ops=true/\x=(.exit 1,⟨59,[],[]⟩)))
 (by
  rintro g k i ae h0 bQ bj ⟨hs,hk,he⟩ hn ho
  (rw[<-Rr];delta Zt Zv oQ jy jz nV qA jA gO jB gQ M6 Zn vV cb dH Za Z9 Zj Z45 q6 Bt Q9 vQ vR vS zp Ah zq Ai Aj lq zr zs zt zu zw uo uq ur vT Ak Zg jC Xv Xw Xx Rn Ro Rp Z44 Ox Oy Rq)
  have e1:D.nth (g.ops.map eI) i.toNat=eI g.ops[i.toNat]:=aA _ _ _ bj;rw[e1];simp only[wcH,zaa] at hn⊢;have hd:g.ops.drop i.toNat=g.ops[i.toNat]::g.ops.drop (i.toNat+1):=za3 bj;have Oz:=hs.1.1 _ (zas bj);have G9:=hs.2;rw[hd] at he;generalize g.ops[i.toNat]=o at he Oz;refine yD bQ (bs ⟨h0,bQ⟩ (aq (I9 _) ⟨g,k,o,rfl,rfl,⟨Oz,by unfold kOk;omega⟩,λh k'=>ho _ (λh=>by cases h) (.inl ⟨?_,rfl⟩),λn k' h mz=>bs (by omega) (hn k' ⟨hs,?_,?_⟩)⟩))
  ·rw[he,iu,h]
  ·have:=Rv h Oz.1;omega
  rw[he,iu,h,mz])
 (by
  rintro g k i ae hi ⟨hs,hk,he⟩ ho
  (rw[<-Rr];delta Zt Zv oQ jy jz nV qA jA gO jB gQ M6 Zn vV cb dH Za Z9 Zj Z45 q6 Bt Q9 vQ vR vS zp Ah zq Ai Aj lq zr zs zt zu zw uo uq ur vT Ak Zg jC Xv Xw Xx Rn Ro Rp Z44 Ox Oy Rq)
  simp only[zaa];refine bg (λh=>by omega) λh=>ho _ (λh=>by cases h) (.inr ⟨?_,rfl⟩);rw[he,zc2];rfl)
 (by
  rintro s ae ⟨g,rfl,hs,h1,h2⟩;refine⟨g,0,rfl,⟨hs,by omega,rfl⟩,?_⟩;rintro x (⟨h,rfl⟩| ⟨h,rfl⟩)
  ·exact h1 h
  exact h2 h)
theorem qaT:FD X 51 Ga:=FD.mk (H:=[(81,Jd),(82,vP),(66,yC)]) (hk:=[(11,ah (aO 51 11) qcG)]) (by kernel_rfl) (.cons XA (.cons Rg (.cons Ja .nil))) (.cons XB .nil) (by
 intro ps R ae hh;obtain⟨g,rfl,rfl,hs,hp⟩:=hh
 (rw[<-qfW];delta Z7 Z8 Dh Z4f Z4g qy jy jz nV qA jA gO jB gQ vV oQ cb dH Z4e Z4d Z2 ll ln tH qg Da M7 I2 Z4c Z4b Z4a lr Zx oR Je)
 have b7:ct g=false->ae (.d (.int .i64 80),[]):=λh=>hp _ (by rw[h];rfl);have nf:ct g=true->ae (.d (.int .i64 0),[]):=λh=>hp _ (by rw[h];rfl);have u:=ct.eq_1 g;refine⟨g,rfl,rfl,hs,λb hb=>ay (λc1=>b7 ?_) λc1=> ?_⟩
 ·rw[u,<-hb,show b=false by simpa using c1];rfl
 rw[<-hb,show b=true by simpa using c1,zaQ] at u;rw[Nb g.bY (0,0)];simp only[zaa];refine ay (λc2=>⟨g.bY,rfl,rfl,λb2 cr=>ay (λc3=>b7 ?_) λc3=>⟨g.bY,g.s,rfl,rfl,λc hc=>bg (λc4=>b7 ?_) λc4=>bg (λc5=>b7 ?_) λc5=>nf ?_⟩⟩) λc2=>bg (λc3=>b7 ?_) λc3=>bg (λc4=>b7 ?_) λc4=>⟨g,by simp only[],⟨hs,by omega⟩,λh=>b7 ?_,λh=>nf ?_⟩
 ·rw[zao (by simpa using c2),<-cr,show b2=false by simpa using c3] at u;rw[u];rfl
 ·have e4:lW g.bY g.s=false:=by rw[<-zaP,<-hc.lt];omega
  rw[zao (by simpa using c2),e4] at u;rw[u];simp
 ·rw[zao (by simpa using c2)] at u;rw[u,show(g.ops.length==0)=false by rw[zcN];omega];simp
 ·have e4:lW g.bY g.s=true:=by rw[<-hc.lt];omega
  rw[zao (by simpa using c2),<-cr,show b2=true by simpa using c3,e4,show(g.ops.length==0)=true by rw[zaR];omega] at u;rw[u];rfl
 ·rw[zam (by simpa using c2),zaL (by omega)] at u;rw[u];rfl
 ·rw[zam (by simpa using c2),zaL (by omega)] at u;rw[u];rfl
 ·rw[zam (by simpa using c2),h] at u;rw[u];simp
 rw[zam (by simpa using c2),h,zaT (by omega)] at u;rw[u];rfl)
end
abbrev gbB(g:ak):Obj:= .box 34 [iD g.s.1,iD g.s.2,iD g.n,.d (.sl 1 (aZ g.deps)),iD g.bY.1,iD g.bY.2,qcA g.ops]
abbrev gbR(g:ak):List (Nat×En):=[(0,⟨0,none,gbB g⟩)]
def nW:br:=λps R ae=> ∃g k x,ps=[.d (aV g),.d (bE x),iD k]/\R=[]/\ ∀b,b=cV g.s k x->ae (lD b,[])
def Rw:br:=λps R ae=> ∃g k x,ps=[.d (aV g),.d (bE x),iD k]/\R=[]/\ ∀b,b=lj g.s k x->ae (lD b,[])
def Jf:br:=λps R ae=> ∃o a b c d e,ps=[.d (eI o),lD a,lD b,lD c,lD d,lD e]/\R=[]/\ ∀r,r=js o a b c d e->ae (lD r,[])
theorem Rx(g:ak)(k:Int)(x:av)(ae:P×List (Nat×En)->Prop):(∃(aJ:av),iU x=iU aJ/\Zx/\ ∀(b:Bool),b=rgX aJ->bif lr b then Z4 ae else∃(a:az) (b:az),P.d (D.agg [gD x,gC x])::I2 g=Da a b/\Zx/\ ∀(r:Bool),r=lW a b->bif r then ZP ae else bif Z2w x g then ae (P.d (D.bool (decide (gR x<k))),[]) else Z4 ae)=(aK [(151,M5),(14,pK)] [] 140 [.d (aV g),.d (bE x),iD k] []) ae:=by kernel_rfl
def OA(g:ak)(x:av)(k:Int):List P:=oR g::um x::Zv k
theorem qcK(g:ak)(k:Int)(x:av)(ae:P×List (Nat×En)->Prop):(bif Z2y x then ZP ae else∃(aQ:ak) (bS:Int) (aJ:av),OA g x k=OA aQ aJ bS/\Zx/\ ∀(b:Bool),zo b aQ bS aJ->ae (gh b,[]))=(aK [(140,nW)] [] 137 [.d (aV g),.d (bE x),iD k] []) ae:=by kernel_rfl
def Z4i(d:Bool)(e:Bool)(ae:P×List (Nat×En)->Prop)(o:aX):Prop:=bif d then bif e then ZP ae else ae (P.d (D.bool (Z32 o==(0:Int))),[]) else bif Prod.fst (aX.after o)==(0:Int)&&(zq o==(0:Int)&&true)&&(zp o==(0:Int)&&true) then bif vS o==(0:Int)&&(vR o==(0:Int)&&true)&&(vQ o==(0:Int)&&true) then bif aX.text o==[] then bif e then ZP ae else ae (P.d (D.bool (Z32 o==(0:Int))),[]) else Z4 ae else Z4 ae else Z4 ae
def Z4j(c:Bool)(o:aX)(ae:P×List (Nat×En)->Prop)(d:Bool)(e:Bool):Prop:=bif lr c then bif decide (nj o>(0:Int)) then Z4 ae else Z4i d e ae o else Z4i d e ae o
theorem XC(o:aX)(a b c d e:Bool)(ae:P×List (Nat×En)->Prop):(bif lr a then bif !(Prod.fst (aX.parent o)==(0:Int)&&(zt o==(0:Int)&&true)&&(zr o==(0:Int)&&true)) then Z4 ae else bif !aX.name o==[] then Z4 ae else bif lr b then bif aX.dir o then Z4 ae else Z4j c o ae d e else Z4j c o ae d e else bif lr b then bif aX.dir o then Z4 ae else Z4j c o ae d e else Z4j c o ae d e)=(aK [] [] 139 [.d (eI o),lD a,lD b,lD c,lD d,lD e] []) ae:=by kernel_rfl
abbrev qcL(g:ak)(l:List az)(i:Int):S:=⟨47,[(1,ki l),(2,.ref 0 0 0),(5,iD i)],gbR g⟩
def lu(g:ak):En:=En.mk 0 none (Obj.box (34:TypeId) [P.d (gQ g),P.d (gO g),qA g,nV g,P.d (jz g),P.d (jy g),oQ g])
def Gb(g:ak):List (Nat×En):=[(0,lu g)]
def Jg:Nat×P:=(2,cb)
def Z4o(i:Int)(ae:PX×S->Prop)(l:List az)(g:ak):Prop:=bif Zj i then ae (PX.normal,S.mk 47 (I4 l::Jg::Zo i) (Gb g)) else False
def Z4k(ae:PX×S->Prop)(l:List az):Prop:=ae (PX.ret,S.mk 47 (I4 l::Zi) [])
theorem Gc(g:ak)(l:List az)(i:Int)(ae:PX×S->Prop):(bif Xq i l then bif Rc i l then bif vU l i then∃(s:az),[P.d (D.agg (Al l i))]=qg s/\Zx/\ ∀(b:Bool),b=FX s->bif lr b then Z4k ae l else bif Rc i l then bif vU l i then∃(a:az) (b:az),[M7 g,P.d (D.agg (Al l i))]=Da a b/\Zx/\ ∀(r:Bool),r=lW a b->bif r then Z4k ae l else bif Zr i then bif Zb i then bif decide ((0:Int)<=i-(1:Int)/\i-(1:Int)<Dd l) then bif Xp l i then bif Rc i l then bif vU l i then∃(a:az) (b:az),[P.d (D.agg (Xo l i)),P.d (D.agg (Al l i))]=Da a b/\Zx/\ ∀(r:Bool),r=lW a b->bif lr r then Z4k ae l else Z4o i ae l g else False else False else False else False else False else Z4o i ae l g else False else False else False else False else ae (PX.exit 0,S.mk 47 [I4 l] []))=(aG [(104,vP),(14,pK)] [] 141 2 (qcL g l i)) ae:=by kernel_rfl
abbrev qcM(g:ak)(k:Int)(l:List av)(i:Int):S:=⟨47,[(1,cR l),(2,iD k),(3,.ref 0 0 0),(7,iD i)],gbR g⟩
def Z4q(i:Int)(ae:PX×S->Prop)(l:List av)(k:Int)(g:ak):Prop:=bif Zj i then ae (PX.normal,S.mk 47 (nk l::ZG k::dH::ZL i) (Gb g)) else False
def Z4p:List (Nat×P):=[(6,P.d Z3)]
theorem Bv(g:ak)(k:Int)(l:List av)(i:Int)(ae:PX×S->Prop):(bif decide (i<vp l) then bif Na i l then bif wJ l i then∃(aQ:ak) (bS:Int) (x:av),oR g::P.d (D.agg (M9 l i))::Zv k=OA aQ x bS/\Zx/\ ∀(b:Bool),zo b aQ bS x->bif lr b then ae (PX.ret,S.mk 47 (nk l::Z4p) []) else bif Zr i then bif Zb i then bif decide ((0:Int)<=i-(1:Int)/\i-(1:Int)<vp l) then bif Ov l i then bif Na i l then bif wJ l i then∃(x:av) (y:av),Z3w l i x y/\Zx/\ ∀(c:Int),KV x y c->bif Z2 c then ae (PX.ret,S.mk 47 (nk l::Z4p) []) else Z4q i ae l k g else False else False else False else False else False else Z4q i ae l k g else False else False else ae (PX.exit 0,S.mk 47 [nk l] []))=(aG [(140,nW),(88,qf)] [] 143 2 (qcM g k l i)) ae:=by kernel_rfl
section
variable{X:XF}
theorem yF:FD X 140 nW:=FD.mk (H:=[(151,M5),(14,pK)]) (by kernel_rfl) (.cons qcD (.cons yE .nil)) .nil (by
 intro ps R ae hh;obtain⟨g,k,x,rfl,rfl,hp⟩:=hh
 (rw[<-Rx];delta gR jA ia jB Z2w ZO ZP ll ln tH qg Da gO gQ M7 I2 gC gD Z3 Z4 lr Zx gP um iU)
 refine⟨x,rfl,rfl,λb hb=>ay (λh1=>hp _ ?_) λh1=>⟨FY x,g.s,rfl,rfl,λc hc=>ay (λh2=>hp _ ?_) λh2=>ay (λh3=>hp _ ?_) λh3=>hp _ ?_⟩⟩
 ·rw[cV,<-hb,show b=false by simpa using h1];rfl
 ·rw[cV,<-hb,show b=true by simpa using h1,<-hc,h2];rfl
 ·have e:(FY x==g.s)=true:=by rw[<-Nb (FY x) g.s];exact h3
  rw[cV,<-hb,show b=true by simpa using h1,<-hc,h2,e];simp
 have e:(FY x==g.s)=false:=by rw[<-Nb (FY x) g.s];exact h3
 rw[cV,<-hb,show b=true by simpa using h1,<-hc,h2,e];rfl)
theorem qcN:FD X 137 Rw:=FD.mk (H:=[(140,nW)]) (by kernel_rfl) (.cons yF .nil) .nil (by
 intro ps R ae hh;obtain⟨g,k,x,rfl,rfl,hp⟩:=hh
 (rw[<-qcK];delta gh zo Zx Zt Zv gR gP ia gC gD um jy jz jA gO jB gQ oR OA ZO ZP Z2y)
 refine ay (λh1=>hp _ ?_) λh1=>⟨g,k,x,rfl,rfl,λb hb=>hp _ ?_⟩
 ·rw[lj,<-D1 x aB,h1];rfl
 rw[lj,<-D1 x aB,h1,hb];rfl)
theorem XD:FD X 139 Jf:=FD.mk (H:=[]) (by kernel_rfl) .nil .nil (by
 intro ps R ae hh;obtain⟨o,a,b,c,d,e,rfl,rfl,hp⟩:=hh
 (rw[<-XC];delta Z3 Z4 vQ vR vS zp zq Z32 ZO ZP Z4i nj lr Z4j zr zt)
 rw[show(o.parent.1==0&&(o.parent.2.1==0&&true)&&(o.parent.2.2==0&&true))=(o.parent==aB) from D1 o.parent aB,show(o.after.1==0&&(o.after.2.1==0&&true)&&(o.after.2.2==0&&true))=(o.after==aB) from D1 o.after aB,
  show(o.elem.1==0&&(o.elem.2.1==0&&true)&&(o.elem.2.2==0&&true))=(o.elem==aB) from D1 o.elem aB]
 have e1:decide (((o.ca.map bh).length:Int)>0)= !(o.ca.length==0):=by
  rw[zaa];cases o.ca with
  |nil=>rfl
  |cons x t=>rw[zaT (by simp)];rfl
 have e2:(((o.elems.map bE).length:Int)==0)=(o.elems.length==0):=by rw[zaa];exact lnE _ 0
 rw[e1,e2];unfold js at hp;generalize (o.parent==aB)=P1 at*
 generalize (o.after==aB)=P2 at*
 generalize (o.elem==aB)=P3 at*
 generalize (o.ca.length==0)=P4 at*
 generalize (o.elems.length==0)=P5 at*
 generalize (o.name==[])=P6 at*
 generalize (o.text==[])=P7 at*
 generalize o.dir=P8 at*
 cases a<;>cases b<;>cases c<;>cases d<;>cases e
 all_goals (simp only[zdc,Bool.not_false,zbS,zbo,zca,zbp,zaQ,zbv] at hp⊢)
 all_goals (repeat' (first | (refine ay (λh=> ?_) (λh=> ?_))))
 all_goals (refine hp _ ?_;simp_all))
def Jh:S->K (PX×S):=λst ae=> ∃g l,st=qcL g l 0/\l.length<=9223372036854775807/\(lh l.length (lK g.s l)=false->ae (.ret,⟨47,[(1,ki l),(4,lD false)],[]⟩))/\(lh l.length (lK g.s l)=true->ae (.exit 0,⟨47,[(1,ki l)],[]⟩))
theorem Nf:LD X 141 2 (ah (aO 141 2) Jh):=LD.find (H:=[(104,vP),(14,pK)]) (hk:=[]) (by kernel_rfl) (by kernel_rfl) (.cons Rh (.cons yE .nil)) .nil
 (A:=ak×List az) (λa k=>qcL a.1 a.2 k) (λa=>a.2) (λa j _=> !lK a.1.s a.2 j) (λa=>a.2.length<=9223372036854775807)
 (λa _=>(.ret,⟨47,[(1,ki a.2),(4,lD false)],[]⟩)) (λa=>(.exit 0,⟨47,[(1,ki a.2)],[]⟩)) (λ_ _ h=>by cases h) (λ_ h=>by cases h)
 (by
  rintro⟨g,l⟩ i ae hi hC h0 bQ ht hn;dsimp only at*
  (rw[<-Gc];delta eL uu I4 oQ jy jz nV qA jA gO jB gQ lu Gb Zn Zo cb Jg Za Z9 Zj Z4o Zc Xo Xp Dd Zb Zr ll ln tH qg Da M7 Z3 Zi Z4k lr Zx Zg I5 Hg Al vU Rc Xq)
  have e1:D.nth (l.map bh) i.toNat=bh l[i.toNat]:=aA _ _ _ hi;have d1:=dT hi ((0,0):az);rw[e1];simp only[zaa];refine yD bQ (bs ⟨h0,bQ⟩ (aq (jS _) ⟨l[i.toNat],rfl,rfl,λb hb=>ay (λh1=> ?_) λh1=>bs ⟨h0,bQ⟩ (aq (jS _) ⟨g.s,l[i.toNat],rfl,rfl,λc hc=>ay (λh2=> ?_) λh2=>bg (λh3=> ?_) λh3=> ?_⟩)⟩))
  ·refine ht ?_;rw[lK,d1,<-hb,show b=false by simpa using h1];rfl
  ·refine ht ?_;rw[lK,d1,<-hc,h2];simp
  ·have e2:D.nth (l.map bh) (i-1).toNat=bh (l[(i-1).toNat]'(by omega)):=aA _ _ _ (by omega);have d2:=dT (show(i-1).toNat<l.length by omega) ((0,0):az);rw[e2];refine bs (by omega) (bs ⟨by omega,by omega⟩ (aq (jS _) (bs ⟨h0,bQ⟩ (aq (jS _) ⟨l[(i-1).toNat],l[i.toNat],rfl,rfl,λc' qV=>ay (λh4=>ht ?_) λh4=>bs (by omega) (hn ?_)⟩))))
   ·rw[lK,d1,show i.toNat-1=(i-1).toNat by omega,d2,<-qV,show c'=false by simpa using h4,show(i.toNat==0)=false by simp;omega];simp
   rw[lK,d1,show i.toNat-1=(i-1).toNat by omega,d2,<-hc,h2,<-qV,show c'=true by simpa using h4,<-hb,show b=true by simpa using h1];simp
  refine bs (by omega) (hn ?_);rw[lK,d1,<-hc,h2,<-hb,show b=true by simpa using h1,show(i.toNat==0)=true by simp;omega];simp)
 (by
  rintro⟨g,l⟩ i ae hC hi hp;dsimp only at*
  (rw[<-Gc];delta eL uu I4 oQ jy jz nV qA jA gO jB gQ lu Gb Zn Zo cb Jg Za Z9 Zj Z4o Zc Xo Xp Dd Zb Zr ll ln tH qg Da M7 Z3 Zi Z4k lr Zx Zg I5 Hg Al vU Rc Xq)
  simp only[zaa];exact bg (λh=>by omega) λh=>hp)
 (by rintro s ae ⟨g,l,rfl,hl,h1,h2⟩;refine⟨(g,l),rfl,hl,λi hi h0 ht _=>h1 (C8 (i:=i.toNat) hi (by simpa using ht)),λh=>h2 (ui λi hi=>by simpa using h i hi)⟩)
def Di:S->K (PX×S):=λst ae=> ∃g k l,st=qcM g k l 0/\l.length<=9223372036854775807/\(lh l.length (Br g.s k l)=false->ae (.ret,⟨47,[(1,cR l),(6,lD false)],[]⟩))/\(lh l.length (Br g.s k l)=true->ae (.exit 0,⟨47,[(1,cR l)],[]⟩))
theorem Ji:LD X 143 2 (ah (aO 143 2) Di):=LD.find (H:=[(140,nW),(88,qf)]) (hk:=[]) (by kernel_rfl) (by kernel_rfl) (.cons yF (.cons Nc .nil)) .nil
 (A:=ak×Int×List av) (λa k=>qcM a.1 a.2.1 a.2.2 k) (λa=>a.2.2) (λa j _=> !Br a.1.s a.2.1 a.2.2 j) (λa=>a.2.2.length<=9223372036854775807)
 (λa _=>(.ret,⟨47,[(1,cR a.2.2),(6,lD false)],[]⟩)) (λa=>(.exit 0,⟨47,[(1,cR a.2.2)],[]⟩)) (λ_ _ h=>by cases h) (λ_ h=>by cases h)
 (by
  rintro⟨g,k,l⟩ i ae hi hC h0 bQ ht hn;dsimp only at*
  (rw[<-Bv];delta oQ jy jz nV qA jA gO jB gQ lu Gb Zn ZL cb dH Zt ZG gu lL nk Za Z9 Zj Z4q Z2 gR gP ia gC gD um iU Zg I6 I7 I8 M9 Zc Vq Z3w Ov Zb Zr Z3 Z4p lr zo Zx Zv oR OA wJ pL vp Na)
  have e1:D.nth (l.map bE) i.toNat=bE l[i.toNat]:=aA _ _ _ hi;have d1:=dT hi aB;rw[e1];simp only[zaa];refine yD bQ (bs ⟨h0,bQ⟩ (aq (lJ _) ⟨g,k,l[i.toNat],rfl,rfl,λb hb=>ay (λh1=> ?_) λh1=>bg (λh3=> ?_) λh3=> ?_⟩))
  ·refine ht ?_;rw[Br,d1,<-hb,show b=false by simpa using h1];rfl
  ·have e2:D.nth (l.map bE) (i-1).toNat=bE (l[(i-1).toNat]'(by omega)):=aA _ _ _ (by omega);have d2:=dT (show(i-1).toNat<l.length by omega) aB;rw[e2];refine bs (by omega) (bs ⟨by omega,by omega⟩ (aq (lJ _) (bs ⟨h0,bQ⟩ (aq (lJ _) ⟨l[(i-1).toNat],l[i.toNat],rfl,rfl,λc' qV=>bg (λh4=>ht ?_) λh4=>bs (by omega) (hn ?_)⟩))))
   ·have e4:mj l[(i-1).toNat] l[i.toNat]=false:=by rw[<-zaP,<-qV.lt];omega
    rw[Br,d1,show i.toNat-1=(i-1).toNat by omega,d2,e4,show(i.toNat==0)=false by simp;omega];simp
   have e4:mj l[(i-1).toNat] l[i.toNat]=true:=by rw[<-qV.lt];omega
   rw[Br,d1,show i.toNat-1=(i-1).toNat by omega,d2,e4,<-hb,show b=true by simpa using h1];simp
  refine bs (by omega) (hn ?_);rw[Br,d1,<-hb,show b=true by simpa using h1,show(i.toNat==0)=true by simp;omega];simp)
 (by
  rintro⟨g,k,l⟩ i ae hC hi hp;dsimp only at*
  (rw[<-Bv];delta oQ jy jz nV qA jA gO jB gQ lu Gb Zn ZL cb dH Zt ZG gu lL nk Za Z9 Zj Z4q Z2 gR gP ia gC gD um iU Zg I6 I7 I8 M9 Zc Vq Z3w Ov Zb Zr Z3 Z4p lr zo Zx Zv oR OA wJ pL vp Na)
  simp only[zaa];exact bg (λh=>by omega) λh=>hp)
 (by rintro s ae ⟨g,k,l,rfl,hl,h1,h2⟩;refine⟨(g,k,l),rfl,hl,λi hi h0 ht _=>h1 (C8 (i:=i.toNat) hi (by simpa using ht)),λh=>h2 (ui λi hi=>by simpa using h i hi)⟩)
end
theorem XE(g:ak)(l:List az)(ae:P×List (Nat×En)->Prop):(∃(aQ:ak) (au:List az),S.mk 47 (I4 l::Jg::ZN) (Gb g)=S.mk 47 (I4 au::Jg::ZN) (Gb aQ)/\eu au<=Zy/\(lh (eu au) (lK (ak.s aQ) au)=false->Z4 ae)/\(lh (eu au) (lK (ak.s aQ) au)=true->ae (P.d (D.bool (decide (Dd au<=(200:Int)))),[])))=(aK [] [(2,ah (aO 141 2) Jh)] 141 [.d (aV g),ki l] []) ae:=by kernel_rfl
theorem Ry(g:ak)(k:Int)(l:List av)(ae:P×List (Nat×En)->Prop):(∃(aQ:ak) (bS:Int) (au:List av),S.mk 47 (nk l::ZG k::dH::rI) (Gb g)=S.mk 47 (nk au::ZG bS::dH::rI) (Gb aQ)/\ib au<=Zy/\(lh (ib au) (Br (ak.s aQ) bS au)=false->Z4 ae)/\(lh (ib au) (Br (ak.s aQ) bS au)=true->bif decide (vp au>=(1:Int)) then ae (P.d (D.bool (decide (vp au<=(2000:Int)))),[]) else Z4 ae))=(aK [] [(2,ah (aO 143 2) Di)] 143 [.d (aV g),cR l,iD k] []) ae:=by kernel_rfl
def Jj:br:=λps R ae=> ∃g l,ps=[.d (aV g),ki l]/\R=[]/\l.length<=9223372036854775807/\ ∀b,b=mS g.s l->ae (lD b,[])
def Dj:br:=λps R ae=> ∃g k l,ps=[.d (aV g),cR l,iD k]/\R=[]/\l.length<=9223372036854775807/\ ∀b,b=sX g.s k l->ae (lD b,[])
def Z4s(g:ak)(o:aX)(k:Int)(aQ:ak)(x:av)(bS:Int):Prop:=oR g::Z3H o::Zv k=OA aQ x bS
def Z4r(aP:aX)(a:Bool)(b:Bool)(c:Bool)(d:Bool)(e:Bool):List P:=[P.d (Ak aP),gh a,gh b,gh c,gh d,gh e]
theorem qfY(g:ak)(k:Int)(o:aX)(ae:P×List (Nat×En)->Prop):(bif aX.kind o==(0:Int) then bif Z3D o g k then∃(aQ:ak) (bS:Int) (x:av),oR g::Z3E o::Zv k=OA aQ x bS/\Zx/\ ∀(b:Bool),b=lj (ak.s aQ) bS x->bif b then∃(s:List UInt8),Z3F o s/\Zx/\ ∀(b:Bool),b=dw s->bif b then∃(aP:aX) (a:Bool) (b:Bool) (c:Bool) (d:Bool) (e:Bool),P.d (Ak o)::ZO::ZO::P.d Z3::P.d Z3::Vp=Z4r aP a b c d e/\Zx/\ ∀(r:Bool),r=js aP a b c d e->bif r then Z22 ae else oO ae else oO ae else oO ae else oO ae else bif aX.kind o==(1:Int) then∃(aQ:ak) (bS:Int) (x:av),Z4s g o k aQ x bS/\Zx/\ ∀(b:Bool),zo b aQ bS x->bif b then∃(vq:ak) (Rz:Int) (x:av),oR g::Z3E o::Zv k=OA vq x Rz/\Zx/\ ∀(b:Bool),b=lj (ak.s vq) Rz x->bif b then∃(s:List UInt8),Z3F o s/\Zx/\ ∀(b:Bool),b=dw s->bif b then∃(aP:aX) (a:Bool) (b:Bool) (c:Bool) (d:Bool) (e:Bool),P.d (Ak o)::ZO::P.d Z3::P.d Z3::P.d Z3::Vp=Z4r aP a b c d e/\Zx/\ ∀(r:Bool),r=js aP a b c d e->bif r then Z8 ae else oO ae else oO ae else oO ae else oO ae else bif aX.kind o==(2:Int) then∃(aQ:ak) (bS:Int) (x:av),Z4s g o k aQ x bS/\Zx/\ ∀(b:Bool),zo b aQ bS x->bif b then∃(vq:ak) (l:List az),[oR g,P.d (lq o)]=[oR vq,uu l]/\Zx/\eu l<=Zy/\ ∀(b:Bool),b=mS (ak.s vq) l->bif b then∃(aP:aX) (a:Bool) (b:Bool) (c:Bool) (d:Bool) (e:Bool),P.d (Ak o)::P.d Z3::P.d Z3::ZO::P.d Z3::Vp=Z4r aP a b c d e/\Zx/\ ∀(r:Bool),r=js aP a b c d e->bif r then Z8 ae else oO ae else oO ae else oO ae else bif aX.kind o==(3:Int) then∃(s:List UInt8),[P.d (D.str (aX.text o))]=vi s/\Zx/\Hc s/\(QU s-> ∃(aQ:ak) (bS:Int) (x:av),Z4s g o k aQ x bS/\Zx/\ ∀(b:Bool),zo b aQ bS x->bif b then∃(vq:ak) (Rz:Int) (x:av),oR g::Z3J o::Zv k=OA vq x Rz/\Zx/\ ∀(b:Bool),b=lj (ak.s vq) Rz x->bif b then bif Z3K o g k then oO ae else oO ae else oO ae else oO ae)/\(QT s-> ∀(n:Int),n=Ag s-> ∃(aQ:ak) (bS:Int) (x:av),Z4s g o k aQ x bS/\Zx/\ ∀(b:Bool),zo b aQ bS x->bif b then∃(vq:ak) (Rz:Int) (x:av),oR g::Z3J o::Zv k=OA vq x Rz/\Zx/\ ∀(b:Bool),b=lj (ak.s vq) Rz x->bif b then bif Z3K o g k then bif Z0 n then bif decide (n<=(2000:Int)) then∃(aP:aX) (a:Bool) (b:Bool) (c:Bool) (d:Bool) (e:Bool),P.d (Ak o)::P.d Z3::P.d Z3::P.d Z3::ZO::Vp=Z4r aP a b c d e/\Zx/\ ∀(r:Bool),r=js aP a b c d e->bif r then ae (P.d (Zt n),[]) else oO ae else oO ae else oO ae else oO ae else oO ae else oO ae) else bif aX.kind o==(4:Int) then∃(aQ:ak) (bS:Int) (x:av),Z4s g o k aQ x bS/\Zx/\ ∀(b:Bool),zo b aQ bS x->bif b then∃(vq:ak) (Rz:Int) (l:List av),oR g::P.d (D.sl 3 (List.map bE (aX.elems o)))::Zv k=oR vq::lL l::Zv Rz/\Zx/\ib l<=Zy/\ ∀(b:Bool),b=sX (ak.s vq) Rz l->bif b then∃(aP:aX) (a:Bool) (b:Bool) (c:Bool) (d:Bool) (e:Bool),P.d (Ak o)::P.d Z3::P.d Z3::P.d Z3::P.d Z3::Ou=Z4r aP a b c d e/\Zx/\ ∀(r:Bool),r=js aP a b c d e->bif r then Z8 ae else oO ae else oO ae else oO ae else oO ae)=(aK [(139,Jf),(140,nW),(137,Rw),(138,uv),(141,Jj),(143,Dj),(142,Bs)] [] 106 [.d (aV g),.d (eI o),iD k] []) ae:=by kernel_rfl
def qcO:br:=λps R ae=> ∃g k o,ps=[.d (aV g),.d (eI o),iD k]/\R=[]/\SmO o/\(jR g.s k o=none->ae (iD (-1),[]))/\(∀n,jR g.s k o=some n->ae (iD n,[]))
abbrev qcP(g:ak)(k i:Int):S:=⟨90,[(1,.ref 0 0 0),(3,iD k),(4,iD i)],gbR g⟩
def vr(i:Int):List (Nat×P):=[(4,P.d (Zn i))]
theorem RA(g:ak)(k i:Int)(ae:PX×S->Prop):(bif Rq i g then bif Oy i g then bif Ox g i then∃(aQ:ak) (bS:Int) (o:aX),oR g::Z44 g i::Zv k=oR aQ::P.d (Ak o)::Zv bS/\Zx/\SmO o/\(jR (ak.s aQ) bS o=none->ae (PX.ret,S.mk 90 Z45 []))/\ ∀(n:Int),jR (ak.s aQ) bS o=some n->bif Vn n then ae (PX.ret,S.mk 90 Z45 []) else bif Z3M k n then bif Zj i then ae (PX.normal,S.mk 90 ((1,cb)::(3,P.d (D.int .i64 (k+n)))::vr i) (Gb g)) else False else False else False else False else ae (PX.exit 0,S.mk 90 [] []))=(aG [(106,qcO)] [] 72 11 (qcP g k i)) ae:=by kernel_rfl
def qcQ:S->K (PX×S):=λst ae=> ∃g,st=qcP g 0 0/\(Ow g/\g.ops.length<=200)/\(iu g.s 0 g.ops=false->ae (.ret,⟨90,[(2,iD 80)],[]⟩))/\(iu g.s 0 g.ops=true->ae (.exit 0,⟨90,[],[]⟩))
def Ng:List (Nat×P):=[(4,P.d Z7)]
def Z4v(g:ak):S:=S.mk 90 ((1,cb)::(3,P.d Z7)::Ng) (Gb g)
theorem qfZ(g:ak)(ae:P×List (Nat×En)->Prop):(∃(s:az),I2 g=qg s/\Zx/\ ∀(b:Bool),b=FX s->bif lr b then Dh ae else bif decide (ak.n g<(1:Int)) then Dh ae else bif decide (ak.n g>Z1) then Dh ae else∃(v:List Int),[nV g]=ZW v/\Zx/\Hh v/\ ∀(b:Bool),b=cQ v->bif lr b then Dh ae else∃(v:List Int) (r:Int),Z3R g v r/\Zx/\Hh v/\ ∀(n:Int),n=eG v r->bif Z3S g then bif n !=ak.n g-(1:Int) then Dh ae else bif Z4a g then∃(s:az),Z4b g s/\Zx/\ ∀(b:Bool),b=FX s->bif lr b then Dh ae else∃(a:az) (b:az),Z4c g a b/\Zx/\ ∀(r:Bool),r=lW a b->bif lr r then Dh ae else bif Z4d g then Dh ae else Z8 ae else bif decide (vV g<(1:Int)) then Dh ae else bif decide (vV g>(200:Int)) then Dh ae else∃(aQ:ak),Z4v g=Z4v aQ/\Z4g aQ ae else False)=(aK [(104,vP),(105,Bu),(13,F9),(14,pK)] [(11,ah (aO 72 11) qcQ)] 72 [.d (aV g)] []) ae:=by kernel_rfl
section
variable{X:XF}
theorem XG:FD X 141 Jj:=FD.mk (H:=[]) (hk:=[(2,ah (aO 141 2) Jh)]) (by kernel_rfl) .nil (.cons Nf .nil) (by
 intro ps R ae hh;obtain⟨g,l,rfl,rfl,hl,hp⟩:=hh
 (rw[<-XE];delta eL Dd Z3 Z4 Zy eu oQ jy jz nV qA jA gO jB gQ lu Gb Z7 ZN cb Jg uu I4)
 refine⟨g,l,rfl,hl,λh=>hp _ ?_,λh=>hp _ ?_⟩
 ·rw[mS,h];rfl
 rw[mS,h,zaa,zaQ,zbH];omega)
theorem RB:FD X 143 Dj:=FD.mk (H:=[]) (hk:=[(2,ah (aO 143 2) Di)]) (by kernel_rfl) .nil (.cons Ji .nil) (by
 intro ps R ae hh;obtain⟨g,k,l,rfl,rfl,hl,hp⟩:=hh
 (rw[<-Ry];delta gu pL vp Z3 Z4 Zy ib oQ jy jz nV qA jA gO jB gQ lu Gb Z7 rI cb dH Zt ZG lL nk)
 simp only[zaa];refine⟨g,k,l,rfl,hl,λh=>hp _ ?_,λh=>bg (λh2=>hp _ ?_) λh2=>hp _ ?_⟩
 ·rw[sX,h];rfl
 ·rw[sX,h,zaQ,zbH];omega
 rw[sX,h,zaQ];exact(zaL (by omega)).symm)
theorem RC{s:az}{k n:Int}{o:aX}(h:jR s k o=some n):eX o=true:=by
 unfold jR at h;split at h
 ·cases h
 rename_i hb;simpa using hb
theorem qf0:FD X 106 qcO:=FD.mk (H:=[(139,Jf),(140,nW),(137,Rw),(138,uv),(141,Jj),(143,Dj),(142,Bs)]) (by kernel_rfl)
  (.cons XD (.cons yF (.cons qcN (.cons Ru (.cons XG (.cons RB (.cons Xl .nil))))))) .nil (by
 intro ps R ae hh;obtain⟨g,k,o,rfl,rfl,hs,h1,h2⟩:=hh
 (rw[<-qfY];delta ZO Ou ib gu lL Zt Z0 QT vQ jA vR jB vS Z3K zp Ah zq Ai Aj Z3J QU rJ Hc vi Zy eu eL uu lq Z7 Z8 zo Zv gR gP ia gC gD um jy jz gO gQ oR OA uo uq ur Z3H Z4s QW oO ZR Z22 gh Q9 zr zs zt zu zw vT Ak Z4r Z3 Vp Z3F Zx Z3E Z3D)
 have ub:eX o=false->jR g.s k o=none:=λh=>by
  cases hh:jR g.s k o with
  |none=>rfl
  |some n=>rw[RC hh] at h;cases h
 have u:eX o=true->jR g.s k o=_:=λh=>(jR.eq_1 g.s k o).trans (zam (by rw[h];simp));have kb:eX o=js o (o.kind==0 ||o.kind==1) (o.kind==0) (o.kind==2) (o.kind==3) (o.kind==4):=rfl;refine hY (λe=> ?_) λe0=>hY (λe=> ?_) λe1=>hY (λe=> ?_) λe2=>hY (λe=> ?_) λe3=>hY (λe=> ?_) λe4=>h1 ?_
 ·rw[e] at kb;simp only[zao e] at u;have no: ¬(o.node=(g.s.1,g.s.2,k)/\lj g.s k o.parent=true/\dw o.name=true)->jR g.s k o=none:=λh=>by
   cases hb:eX o with
   |false=>exact ub hb
   |true=>rw[u hb,zam h]
  rw[D1 o.node (g.s.1,g.s.2,k)];refine ay (λc1=>⟨g,k,o.parent,rfl,rfl,λb2 cr=>ay (λc2=>⟨o.name,rfl,rfl,λb3 lE=>ay (λc3=>⟨o,_,_,_,_,_,rfl,rfl,λr hr=>ay (λc4=>h2 _ ?_) λc4=>h1 (ub ?_)⟩) λc3=>h1 (no ?_)⟩) λc2=>h1 (no ?_)⟩) λc1=>h1 (no ?_)
  ·rw[u (by rw[kb,<-c4,hr];rfl),zao ⟨by simpa using c1,by rw[<-cr,c2],by rw[<-lE,c3]⟩]
  ·rw[kb,<-c4,hr];rfl
  ·exact λh=>by rw[h.2.2] at lE;rw[lE] at c3;cases c3
  ·exact λh=>by rw[h.2.1] at cr;rw[cr] at c2;cases c2
  exact λh=>by rw[h.1] at c1;simp at c1
 ·rw[e] at kb;simp only[zam e0,zao e] at u;have no: ¬(cV g.s k o.node=true/\lj g.s k o.parent=true/\dw o.name=true)->jR g.s k o=none:=λh=>by
   cases hb:eX o with
   |false=>exact ub hb
   |true=>rw[u hb,zam h]
  refine⟨g,k,o.node,rfl,rfl,λb1 jL=>ay (λc1=>⟨g,k,o.parent,rfl,rfl,λb2 cr=>ay (λc2=>⟨o.name,rfl,rfl,λb3 lE=>ay (λc3=>⟨o,_,_,_,_,_,rfl,rfl,λr hr=>ay (λc4=>h2 _ ?_) λc4=>h1 (ub ?_)⟩) λc3=>h1 (no ?_)⟩) λc2=>h1 (no ?_)⟩) λc1=>h1 (no ?_)⟩
  ·rw[u (by rw[kb,<-c4,hr];rfl),zao ⟨by rw[<-jL,c1],by rw[<-cr,c2],by rw[<-lE,c3]⟩]
  ·rw[kb,<-c4,hr];rfl
  ·exact λh=>by rw[h.2.2] at lE;rw[lE] at c3;cases c3
  ·exact λh=>by rw[h.2.1] at cr;rw[cr] at c2;cases c2
  exact λh=>by rw[h.1] at jL;rw[jL] at c1;cases c1
 ·rw[e] at kb;simp only[zam e0,zam e1,zao e] at u;have no: ¬(cV g.s k o.node=true/\mS g.s o.ca=true)->jR g.s k o=none:=λh=>by
   cases hb:eX o with
   |false=>exact ub hb
   |true=>rw[u hb,zam h]
  refine⟨g,k,o.node,rfl,rfl,λb1 jL=>ay (λc1=>⟨g,o.ca,rfl,rfl,hs.2.1,λb2 cr=>ay (λc2=>⟨o,_,_,_,_,_,rfl,rfl,λr hr=>ay (λc4=>h2 _ ?_) λc4=>h1 (ub ?_)⟩) λc2=>h1 (no ?_)⟩) λc1=>h1 (no ?_)⟩
  ·rw[u (by rw[kb,<-c4,hr];rfl),zao ⟨by rw[<-jL,c1],by rw[<-cr,c2]⟩]
  ·rw[kb,<-c4,hr];rfl
  ·exact λh=>by rw[h.2] at cr;rw[cr] at c2;cases c2
  exact λh=>by rw[h.1] at jL;rw[jL] at c1;cases c1
 ·rw[e] at kb;simp only[zam e0,zam e1,zam e2,zao e] at u;have no: ¬(cV g.s k o.node=true/\lj g.s k o.after=true/\o.elem=(g.s.1,g.s.2,k)/\mT o.text=true)->jR g.s k o=none:=λh=>by
   cases hb:eX o with
   |false=>exact ub hb
   |true=>rw[u hb,zam h]
  refine⟨o.text,rfl,rfl,hs.1,λhv=> ?_,λhv n hn=> ?_⟩
  ·have hr:mT o.text=false:=by rw[mT,hv];rfl
   have b7:jR g.s k o=none:=no (λh=>by rw[h.2.2.2] at hr;cases hr);exact⟨g,k,o.node,rfl,rfl,λb2 cr=>ay (λc2=>⟨g,k,o.after,rfl,rfl,λb3 lE=>ay (λc3=>ay (λc4=>h1 b7) λc4=>h1 b7) λc3=>h1 b7⟩) λc2=>h1 b7⟩
  have hr:mT o.text=decide (1<=n/\n<=2000):=by rw[mT,hv,zaQ,hn]
  rw[D1 o.elem (g.s.1,g.s.2,k)];refine⟨g,k,o.node,rfl,rfl,λb1 jL=>ay (λc1=>⟨g,k,o.after,rfl,rfl,λb2 cr=>ay (λc2=>ay (λc3=>bg (λc5=>bg (λc6=>⟨o,_,_,_,_,_,rfl,rfl,λr hr=>ay (λc4=>h2 _ ?_) λc4=>h1 (ub ?_)⟩) λc6=>h1 (no ?_)) λc5=>h1 (no ?_)) λc3=>h1 (no ?_)) λc2=>h1 (no ?_)⟩) λc1=>h1 (no ?_)⟩
  next tF=>rw[u (by rw[kb,<-c4,hr];rfl),zao ⟨by rw[<-jL,c1],by rw[<-cr,c2],by simpa using c3,by rw[tF];exact zaT ⟨c5,c6⟩⟩,hn]
  ·rw[kb,<-c4,hr];rfl
  ·exact λh=>by rw[hr] at h;exact c6 (zbE h.2.2.2).2
  ·exact λh=>by rw[hr] at h;exact c5 (zbE h.2.2.2).1
  ·exact λh=>by rw[h.2.2.1] at c3;simp at c3
  ·exact λh=>by rw[h.2.1] at cr;rw[cr] at c2;cases c2
  exact λh=>by rw[h.1] at jL;rw[jL] at c1;cases c1
 ·rw[e] at kb;simp only[zam e0,zam e1,zam e2,zam e3,zao e] at u;have no: ¬(cV g.s k o.node=true/\sX g.s k o.elems=true)->jR g.s k o=none:=λh=>by
   cases hb:eX o with
   |false=>exact ub hb
   |true=>rw[u hb,zam h]
  refine⟨g,k,o.node,rfl,rfl,λb1 jL=>ay (λc1=>⟨g,k,o.elems,rfl,rfl,hs.2.2,λb2 cr=>ay (λc2=>⟨o,_,_,_,_,_,rfl,rfl,λr hr=>ay (λc4=>h2 _ ?_) λc4=>h1 (ub ?_)⟩) λc2=>h1 (no ?_)⟩) λc1=>h1 (no ?_)⟩
  ·rw[u (by rw[kb,<-c4,hr];rfl),zao ⟨by rw[<-jL,c1],by rw[<-cr,c2]⟩]
  ·rw[kb,<-c4,hr];rfl
  ·exact λh=>by rw[h.2] at cr;rw[cr] at c2;cases c2
  exact λh=>by rw[h.1] at jL;rw[jL] at c1;cases c1
 cases hb:eX o with
 |false=>exact ub hb
 |true=>rw[u hb,zam e0,zam e1,zam e2,zam e3,zam e4])
theorem XH:LD X 72 11 (ah (aO 72 11) qcQ):=LD.idx (H:=[(106,qcO)]) (hk:=[]) (by kernel_rfl) (by kernel_rfl) (.cons qf0 .nil) .nil
 (A:=ak) (B:=Int) (λg k i=>qcP g k i) (λg=>g.ops.length) (λg i k=>(Ow g/\g.ops.length<=200)/\(0<=k/\k<=2000000*i)/\iu g.s 0 g.ops=iu g.s k (g.ops.drop i))
 (λg x=>(iu g.s 0 g.ops=false/\x=(.ret,⟨90,[(2,iD 80)],[]⟩))\/(iu g.s 0 g.ops=true/\x=(.exit 0,⟨90,[],[]⟩)))
 (by
  rintro g k i ae h0 bQ bj ⟨hs,hk,he⟩ hn ho
  (rw[<-RA];delta oQ jy jz nV qA jA gO jB gQ lu Gb Zn vr cb Za Z9 Zj Z3M Vn Z45 Zx Q9 vQ vR vS zp Ah zq Ai Aj lq zr zs zt zu zw uo uq ur vT Ak Zt Zv Zg jC Xv Xw Xx Rn Ro Rp Z44 oR Ox vV Oy Rq)
  have e1:D.nth (g.ops.map eI) i.toNat=eI g.ops[i.toNat]:=aA _ _ _ bj;rw[e1];simp only[zaa];have hd:g.ops.drop i.toNat=g.ops[i.toNat]::g.ops.drop (i.toNat+1):=za3 bj;have Oz:=hs.1.1 _ (zas bj);have G9:=hs.2;rw[hd] at he;generalize g.ops[i.toNat]=o at he Oz;refine yD bQ (bs ⟨h0,bQ⟩ (aq (I9 _) ⟨g,k,o,rfl,rfl,Oz,λh=> ?_,λn h=> ?_⟩))
  ·refine ho _ (λh=>by cases h) (.inl ⟨?_,rfl⟩);rw[he,iu,h]
  have:=Rv h Oz.1;refine bg (λh=>by omega) λ_=>bs (by omega) (bs (by omega) (hn (k+n) ⟨hs,by omega,?_⟩));rw[he,iu,h])
 (by
  rintro g k i ae hi ⟨hs,hk,he⟩ ho
  (rw[<-RA];delta oQ jy jz nV qA jA gO jB gQ lu Gb Zn vr cb Za Z9 Zj Z3M Vn Z45 Zx Q9 vQ vR vS zp Ah zq Ai Aj lq zr zs zt zu zw uo uq ur vT Ak Zt Zv Zg jC Xv Xw Xx Rn Ro Rp Z44 oR Ox vV Oy Rq)
  simp only[zaa];refine bg (λh=>by omega) λh=>ho _ (λh=>by cases h) (.inr ⟨?_,rfl⟩);rw[he,zc2];rfl)
 (by
  rintro s ae ⟨g,rfl,hs,h1,h2⟩;refine⟨g,0,rfl,⟨hs,by omega,rfl⟩,?_⟩;rintro x (⟨h,rfl⟩| ⟨h,rfl⟩)
  ·exact h1 h
  exact h2 h)
theorem qcR:FD X 72 Ga:=FD.mk (H:=[(104,vP),(105,Bu),(13,F9),(14,pK)]) (hk:=[(11,ah (aO 72 11) qcQ)]) (by kernel_rfl) (.cons Rh (.cons qcI (.cons qcJ (.cons yE .nil)))) (.cons XH .nil) (by
 intro ps R ae hh;obtain⟨g,rfl,rfl,hs,hp⟩:=hh
 (rw[<-qfZ];delta Z7 Z8 Dh Z4f Z4g oQ jy jz nV qA jA gO jB gQ lu Gb Ng cb Z4v vV Z4d ll ln tH qg Da M7 I2 Z4c Z4b Z4a Za Z9 Z3S Zt Zv Zk Z3R Hh ZW Z1 lr Zx)
 have b7:ct g=false->ae (.d (.int .i64 80),[]):=λh=>hp _ (by rw[h];rfl);have nf:ct g=true->ae (.d (.int .i64 0),[]):=λh=>hp _ (by rw[h];rfl);have u:=ct.eq_1 g;have no1:Q6 g=false->ct g=false:=λh=>by rw[u,h];rfl
 have v:=Q6.eq_1 g;rw[Nb g.bY (0,0)];simp only[zaa];refine⟨g.s,rfl,rfl,λb hb=>ay (λc1=>b7 (no1 ?_)) λc1=>bg (λc2=>b7 (no1 ?_)) λc2=>bg (λc3=>b7 (no1 ?_)) λc3=>⟨g.deps,rfl,rfl,hs.2.2,λb2 cr=>ay (λc4=>b7 (no1 ?_)) λc4=>⟨g.deps,g.s.2,rfl,rfl,hs.2.2,λn hn=>bs (by omega) (Bk (λc5=>b7 (no1 ?_)) λc5=> ?_)⟩⟩⟩
 ·rw[v,<-hb,show b=false by simpa using c1];rfl
 ·rw[v,zaL (by omega)];simp
 ·rw[v,zaL (by omega)];simp
 ·rw[v,<-cr,show b2=false by simpa using c4];simp
 ·rw[v,<-hn,show(n==g.n-1)=false by simpa using c5];simp
 rw[v,<-hb,show b=true by simpa using c1,<-cr,show b2=true by simpa using c4,<-hn,show(n==g.n-1)=true by simpa using c5,zaT (by omega),zaQ,zaQ,zaQ,zaQ] at u;refine ay (λc2=>⟨g.bY,rfl,rfl,λb2 cr=>ay (λc3=>b7 ?_) λc3=>⟨g.bY,g.s,rfl,rfl,λc hc=>ay (λc4=>b7 ?_) λc4=>bg (λc5=>b7 ?_) λc5=>nf ?_⟩⟩) λc2=>bg (λc3=>b7 ?_) λc3=>bg (λc4=>b7 ?_) λc4=>⟨g,rfl,⟨hs,by omega⟩,λh=>b7 ?_,λh=>nf ?_⟩
 ·rw[zao (by simpa using c2),<-cr,show b2=false by simpa using c3] at u;rw[u];rfl
 ·rw[zao (by simpa using c2),<-hc,show c=false by simpa using c4] at u;rw[u];simp
 ·rw[zao (by simpa using c2)] at u;rw[u,show(g.ops.length==0)=false by rw[zcN];omega];simp
 ·rw[zao (by simpa using c2),<-cr,show b2=true by simpa using c3,<-hc,show c=true by simpa using c4,show(g.ops.length==0)=true by rw[zaR];omega] at u;rw[u];rfl
 ·rw[zam (by simpa using c2),zaL (by omega)] at u;rw[u];rfl
 ·rw[zam (by simpa using c2),zaL (by omega)] at u;rw[u];rfl
 ·rw[zam (by simpa using c2),h] at u;rw[u];simp
 rw[zam (by simpa using c2),h,zaT (by omega)] at u;rw[u];rfl)
end
abbrev Hd:=az×az
theorem lX:He (λa b:az=>lW a b) where
 Ky x:=by simp[rK]
 tr x y z:=by simp only[rK,zah];omega
 ri x y:=by
  simp only[rK,zaO];intro h1 h2;obtain⟨a,b⟩:=x;obtain⟨c,d⟩:=y;simp only at h1 h2;have:a=c:=by omega
  have:b=d:=by omega
  subst_vars
  rfl
def Hi(o:List Hd)(h:Hd):List Hd:=if(o.any λx=>x.1==h.1)=true then o else o++[h]
def qB(l:List Hd):List Hd:=l.foldl Hi []
theorem Nh{o:List Hd}(h:Hd)(ho:(o.map (·.1)).Nodup):((Hi o h).map (·.1)).Nodup:=by
 unfold Hi;split
 ·exact ho
 rename_i hn;rw[zaz,zaU];refine⟨ho,by simp,λa ha b hb e=> ?_⟩;simp at hb;subst hb;subst e;obtain⟨x,hx,he⟩:=zaA.1 ha;exact hn (zbz.2 ⟨x,hx,by simpa using he⟩)
theorem Bw: ∀(l o:List Hd),(o.map (·.1)).Nodup->((l.foldl Hi o).map (·.1)).Nodup
 | [],_,h=>h
 |x::r,_,h=>Bw r _ (Nh x h)
theorem Ni(l:List Hd):((qB l).map (·.1)).Nodup:=Bw l [] (by simp)
theorem XI(o:List Hd)(h:Hd):(Hi o h).length<=o.length+1:=by
 unfold Hi;split
 ·omega
 simp
theorem KY: ∀(l o:List Hd),(l.foldl Hi o).length<=o.length+l.length
 | [],_=>by simp
 |x::r,o=>by have:=KY r (Hi o x);have:=XI o x;simp only[za9,zap];omega
theorem qh(l:List Hd):(qB l).length<=l.length:=by simpa [qB] using KY l []
theorem KZ: ∀(l o:List Hd),((o++l).map (·.1)).Nodup->l.foldl Hi o=o++l
 | [],o,_=>by simp
 |x::r,o,h=>by
  have e:Hi o x=o++[x]:=by unfold Hi;rw[zam];intro hx;obtain⟨y,hy,he⟩:=zbz.1 hx;rw[zaz,zaU] at h;exact h.2.2 y.1 (za7 hy) x.1 (by simp) (by simpa using he)
  rw[za9,e,KZ r (o++[x]) (by simpa using h)];simp
theorem sZ{l:List Hd}(h:(l.map (·.1)).Nodup):qB l=l:=by unfold qB;rw[KZ l [] (by simpa using h)];rfl
def ltH(a b:Hd):Bool:=lW a.1 b.1
def pM(l:List Hd):List Hd:=cj ltH (qB l)
theorem pN{α β:Type}{f:α->β}: ∀{l:List α},(l.map f).Nodup-> ∀x∈l,∀y∈l,f x=f y->x=y
 | [],_,x,hx,_,_,_=>by cases hx
 |a::r,h,x,hx,y,hy,e=>by
  rw[zbm,za8] at h;rcases zav.1 hx with Ck |Ck
  ·rcases zav.1 hy with zP |zP
   ·rw[Ck,zP]
   exact absurd (zaA.2 ⟨y,zP,by rw[<-e,Ck]⟩) h.1
  rcases zav.1 hy with zP |zP
  ·exact absurd (zaA.2 ⟨x,Ck,by rw[e,zP]⟩) h.1
  exact pN h.2 x Ck y zP e
theorem Dk{l a:List Hd}(hp:a.Perm (qB l))(ha:a.Pairwise λx y=>ltH y x=false):a=pM l:=
 yy lX (λa:Hd=>a.1) (λx hx y hy e=>pN (Ni l) x (hp.mem_iff.1 hx) y (hp.mem_iff.1 hy) e) (hp.trans (b9 _).symm) ha (mR lX (λa:Hd=>a.1) _)
theorem Gd(l:List Hd):(pM l).length<=l.length:=by unfold pM;rw[(b9 _).length_eq];exact qh l
def Jk(on:List Hd)(h:Hd):List Hd:=if(on.any λx=>x.2==h.1)=true then on else on++[h]
def Hj(l on:List Hd):List Hd:=l.foldl Jk on
def RD(l:List Hd):List az:=((Hj (pM l).reverse []).map (·.1)).reverse
theorem XJ(o:List Hd)(h:Hd):(Jk o h).length<=o.length+1:=by
 unfold Jk;split
 ·omega
 simp
theorem s5: ∀(l o:List Hd),(Hj l o).length<=o.length+l.length
 | [],_=>by simp[Hj]
 |x::r,o=>by
  have:=s5 r (Jk o x);have:=XJ o x;simp only[Hj,za9,zap] at*
  omega
theorem XK(l:List Hd):(RD l).length<=l.length:=by unfold RD;have h1:=s5 (pM l).reverse [];have h2:=Gd l;simp at h1⊢;omega
def kj(o:List ak)(g:ak):List ak:=if ct g=true/\(o.any λx=>x.s==g.s)=false then o++[g] else o
def aI(l:List ak):List ak:=l.foldl kj []
def km(g:ak):Hd:=(g.s,g.bY)
def rN(l:List ak):List Hd:=(aI l).map km
theorem RE(o:List ak)(g:ak):(kj o g).length<=o.length+1:=by
 unfold kj;split
 ·simp
 omega
theorem Ge: ∀(l o:List ak),(l.foldl kj o).length<=o.length+l.length
 | [],_=>by simp
 |x::r,o=>by have:=Ge r (kj o x);have:=RE o x;simp only[za9,zap];omega
theorem dJ(l:List ak):(aI l).length<=l.length:=by simpa [aI] using Ge l []
theorem Gf(l:List ak)(g:ak):aI (l++[g])=kj (aI l) g:=by simp[aI]
theorem RG{P:ak->Prop}(hP: ∀g,ct g=true->P g): ∀(l o:List ak),(∀g∈o,P g)-> ∀g∈l.foldl kj o,P g
 | [],_,h=>h
 |x::r,o,h=>by
  refine RG hP r _ ?_;intro g hg;unfold kj at hg;split at hg
  next hx=>
   rcases zaE.1 hg with hg |hg
   ·exact h g hg
   simp at hg;subst hg;exact hP _ hx.1
  exact h g hg
theorem rO{l:List ak}: ∀g∈aI l,ct g=true:=RG (P:=λg=>ct g=true) (λ_ h=>h) l [] (λ_ h=>by cases h)
theorem yG: ∀(l o:List ak),(o.map (·.s)).Nodup->((l.foldl kj o).map (·.s)).Nodup
 | [],_,h=>h
 |x::r,o,h=>by
  refine yG r _ ?_;unfold kj;split
  next hx=>rw[zaz,zaU];refine⟨h,by simp,λa ha b hb e=> ?_⟩;simp at hb;subst hb;subst e;obtain⟨y,hy,he⟩:=zaA.1 ha;have:=hx.2;rw[zct] at this;exact this y hy (by simpa using he)
  exact h
theorem nX(l:List ak):((aI l).map (·.s)).Nodup:=yG l [] (by simp)
theorem Dl(l:List ak):((rN l).map (·.1)).Nodup:=by
 have e:(rN l).map (·.1)=(aI l).map (·.s):=by simp[rN,km,zb5]
 rw[e];exact nX l
theorem Gg: ∀(l o:List ak),(∀g∈l,ct g=true)->((o++l).map (·.s)).Nodup->l.foldl kj o=o++l
 | [],o,_,_=>by simp
 |x::r,o,hc,h=>by
  have e:kj o x=o++[x]:=by unfold kj;rw[zao];refine⟨hc x (.head _),?_⟩;rw[zct];intro y hy he;rw[zaz,zaU] at h;exact h.2.2 y.s (za7 hy) x.s (by simp) (by simpa using he)
  rw[za9,e,Gg r (o++[x]) (λg hg=>hc g (.tail _ hg)) (by simpa using h)];simp
theorem yH{l:List ak}(hc: ∀g∈l,ct g=true)(h:(l.map (·.s)).Nodup):aI l=l:=by unfold aI;rw[Gg l [] hc (by simpa using h)];rfl
def Vr(r:Int)(m:Int)(g:ak):Int:=if g.s.2=r then max m g.n else m
def Bx(l:List ak)(r:Int):Int:=l.foldl (Vr r) 0
def rP(l:List ak):List Int:=oF 16 λi=>Bx l ((i:Int)+1)
def s6(l:List ak):List Int:=bq (rP l)
theorem RH(l:List ak)(g:ak)(r:Int):Bx (l++[g]) r=if g.s.2=r then max (Bx l r) g.n else Bx l r:=by simp[Bx,Vr]
theorem jt(l:List ak):(rP l).length=16:=by simp[rP]
theorem s7(l:List ak)(i:Nat):(rP l).getD i 0=if i<16 then Bx l ((i:Int)+1) else 0:=by unfold rP;rw[sT]
theorem RI{l:List ak}{g:ak}(h1:1<=g.s.2)(h2:g.s.2<=16):(rP l).set (g.s.2-1).toNat (max ((rP l).getD (g.s.2-1).toNat 0) g.n)=rP (l++[g]):=by
 refine ext_get (by simp[jt]) λi=> ?_;rw[s7,s7,zao (by omega)];have e0:(((g.s.2-1).toNat:Nat):Int)+1=g.s.2:=by omega
 rw[e0];by_cases hi:i<16
 ·rw[zao hi,RH];by_cases he:(g.s.2-1).toNat=i
  ·subst he;rw[e0,zao rfl,zac,zbO (by rw[jt];exact hi),zcb]
  rw[zam (by omega)];simp only[zac,zaX he];have:=s7 l i;rw[zao hi] at this;simpa [zac] using this
 rw[zam hi,nS (by simp[jt];omega)]
theorem RJ:rP []=List.replicate 16 0:=by rfl
theorem K0(l:List ak)(r:Int)(h1:1<=r)(h2:r<=16):eG (s6 l) r=Bx l r:=by rw[lU _ h1,s6,yj,s7,zao (by omega)];congr 1;omega
theorem Gh(l:List ak):(s6 l).length<=16:=by have:=pD (rP l) (rP l).length;rw[s6,nR];rw[jt] at this⊢;exact this
theorem Jl{r B:Int}: ∀(l:List ak) (m:Int),m<=B->(∀g∈l,g.n<=B)->l.foldl (Vr r) m<=B
 | [],_,h,_=>h
 |g::t,m,h,hl=>by
  refine Jl t _ ?_ λx hx=>hl x (.tail _ hx);have:=hl g (.head _);unfold Vr;split
  ·omega
  exact h
theorem RL{r:Int}: ∀(l:List ak) (m:Int),m<=l.foldl (Vr r) m/\ ∀g∈l,g.s.2=r->g.n<=l.foldl (Vr r) m
 | [],m=>⟨zbA _,λ_ h=>by cases h⟩
 |g::t,m=>by
  obtain⟨h1,h2⟩:=RL (r:=r) t (Vr r m g);have h3:m<=Vr r m g/\(g.s.2=r->g.n<=Vr r m g):=by
   unfold Vr;split
   ·exact⟨by omega,λ_=>by omega⟩
   rename_i h;exact⟨zbA _,λe=>absurd e h⟩
  refine⟨Int.le_trans h3.1 h1,λx hx hr=> ?_⟩;rcases zav.1 hx with rfl |hx
  ·exact Int.le_trans (h3.2 hr) h1
  exact h2 x hx hr
theorem rQ(l:List ak)(r:Int):0<=Bx l r:=(RL (r:=r) l 0).1
def jD(l:List ak):Int:=l.foldl (λt g=>max t g.s.1) 0
theorem RM(l:List ak)(g:ak):jD (l++[g])=max (jD l) g.s.1:=by simp[jD]
theorem Jm{B:Int}(hB:0<=B): ∀(l:List ak),(∀g∈l,g.s.1<=B)->jD l<=B:=by
 intro l h;have key: ∀(l:List ak) (m:Int),m<=B->(∀g∈l,g.s.1<=B)->l.foldl (λt g=>max t g.s.1) m<=B:=by
  intro l
  induction l with
  |nil=>intro m h _;exact h
  |cons g t ih=>intro m h hl;refine ih _ ?_ λx hx=>hl x (.tail _ hx);have:=hl g (.head _);show max m g.s.1<=B;omega
 exact key l 0 hB h
theorem ml(l:List ak):0<=jD l/\ ∀g∈l,g.s.1<=jD l:=by
 have key: ∀(l:List ak) (m:Int),m<=l.foldl (λt g=>max t g.s.1) m/\ ∀g∈l,g.s.1<=l.foldl (λt g=>max t g.s.1) m:=by
  intro l
  induction l with
  |nil=>intro m;exact⟨zbA _,λ_ h=>by cases h⟩
  |cons g t ih=>
   intro m;obtain⟨h1,h2⟩:=ih (max m g.s.1);refine⟨by simp only[za9];omega,λx hx=> ?_⟩;simp only[za9];rcases zav.1 hx with rfl |hx
   ·omega
   exact h2 x hx
 exact key l 0
def noG:ak:=⟨(0,0),0,[],(0,0),[]⟩
def qaU(l:List ak)(r:Int):ak:=⟨(jD l+1,r),Bx l r+1,s6 l,(0,0),[]⟩
def pO(l:List ak)(r:Int):Int:=if ¬(1<=r/\r<=16) then 1 else if max (jD l+1) (Bx l r+1)>1099511627776 then 2 else 0
def vu(l:List ak)(r:Int):ak:=if pO l r=0 then qaU l r else noG
def gtG(a b:ak):Bool:=lW b.s a.s
def vW(l:List ak)(r:Int):List ak:=cj gtG (l.filter λg=>g.s.2==r)
theorem mU(l:List ak)(r:Int):(vW l r).Perm (l.filter λg=>g.s.2==r):=b9 _
theorem Dm:He (λa b:az=>lW b a) where
 Ky x:=lX.Ky x
 tr x y z h1 h2:=lX.tr z y x h2 h1
 ri x y h1 h2:=(lX.ri y x h1 h2).symm
theorem K1{l a:List ak}{r:Int}(hn:(l.map (·.s)).Nodup)(hp:a.Perm (l.filter λg=>g.s.2==r))(ha:a.Pairwise λx y=>gtG y x=false):a=vW l r:=
 yy Dm (λg:ak=>g.s) (λx hx y hy e=>pN hn x ((zbT.1 (hp.mem_iff.1 hx)).1) y ((zbT.1 (hp.mem_iff.1 hy)).1) e) (hp.trans (mU l r).symm) ha (mR Dm (λg:ak=>g.s) _)
def eA(on:List az):List ak->Option az
 | []=>none
 |g::t=>if g.bY=(0,0)/\g.s∈on then some g.s else eA on t
def pP(l:List Hd):Nat->az->Bool->Int×az×Bool
 |0,_,_=>(11,(0,0),false)
 |n+1,x,even=>match(l.find? λh=>h.1==x).map (·.2) with
  |none=>(111,(0,0),false)
  |some u=>if u=(0,0) then(0,x,even) else pP l n u (!even)
def oq(l:List Hd)(x:az):Int×az×Bool:=pP l (l.length+1) x true
def Gj(l:List Hd)(x:az):Bool:=(oq l x).1==0&& !(oq l x).2.2
def cd(l:List Hd)(on:List az):List ak->Option az
 | []=>none
 |g::t=>if g.bY=(0,0) then none else if Gj l g.s=true/\g.s∈on then some g.s else cd l on t
def qf1(o:Option az):az×Int:=match o with |some s=>(s,0)|none=>((0,0),200)
def Jn(l:List ak):List az:=RD ((aI l).map km)
def vv(l:List ak)(r:Int):az×Int:=qf1 (eA (Jn l) (vW (aI l) r))
def q7(l:List ak)(r:Int):az×Int:=qf1 (cd (rN l) (Jn l) (vW (aI l) r))
theorem Nj{l m:List Hd}(hn:(l.map (·.1)).Nodup)(hp:m.Perm l)(x:az):m.find? (λh=>h.1==x)=l.find? (λh=>h.1==x):=by
 have hm:(m.map (·.1)).Nodup:=(hp.map (·.1)).nodup_iff.2 hn;cases h:l.find? (λh=>h.1==x) with
 |none=>rw[zcm] at h⊢;exact λy hy=>h y (hp.mem_iff.1 hy)
 |some a=>
  have ha:=zco h;have hax:=zc7 h;cases h2:m.find? (λh=>h.1==x) with
  |none=>rw[zcm] at h2;exact absurd hax (h2 a (hp.mem_iff.2 ha))
  |some b=>have hb:=zco h2;have hbx:=zc7 h2;have:b=a:=pN hn b (hp.mem_iff.1 hb) a ha (by simp at hax hbx;rw[hax,hbx]);rw[this]
noncomputable def eZ(H HN:List (FuncId×br))(hk:List (Nat×(S->K (PX×S))))(f id:Nat)(s:S):K (PX×S):=
 w7 (dv PR (runK PR yh qe H 60 60) HN (aO f) hk (qe f) (bA PR f id)) (aO f id) s
noncomputable def rR(H HN:List (FuncId×br))(hk:List (Nat×(S->K (PX×S))))(f:Nat)(ps:List P)(R:List (Nat×En)):K (P×List (Nat×En)):=
 Bh PR (runK PR yh qe H 60 60) HN yh hk qe f ps R
def ND(w0:World)(f:Nat)(h:br):Prop:=Qw PR w0 f h
def LN(w0:World)(f id:Nat)(g:S->K (PX×S)):Prop:= ∀(val:Nat->Value) (lo:Nat) (mk:Bool) s ae,g s ae->TW PR ⟨val,w0,lo,mk⟩ (.loop (bA PR f id)) s ae
def LNT(w0:World)(f id:Nat)(g:S->K (PX×S)):Prop:= ∀(val:Nat->Value) (lo:Nat) s ae,g s ae->TW PR ⟨val,w0,lo,true⟩ (.loop (bA PR f id)) s ae
def FN(w0:World)(f id:Nat)(g:S->K (PX×S)):Prop:= ∀(val:Nat->Value) (lo:Nat) s ae,g s ae->TW PR ⟨val,w0,lo,true⟩ (mO PR f id).code s ae
theorem LN.T{w0:World}{f id:Nat}{g:S->K (PX×S)}(h:LN w0 f id g):LNT w0 f id g:=λval lo s ae hp=>h val lo true s ae hp
inductive K2(w0:World):List (FuncId×br)->Prop
 |nil:K2 w0 []
 |cons {f:Nat} {h:br} {r:List (FuncId×br)} (hf:ND w0 f h) (hr:K2 w0 r):K2 w0 ((f,h)::r)
theorem K2.get{w0:World}{HN:List (FuncId×br)}(h:K2 w0 HN): ∀f g,lk HN f=some g->Qw PR w0 f g:=by
 induction h with
 |nil=>intro f g h;cases h
 | @cons f' h' r hf hr ih=>
  intro f g h;unfold lk at h;split at h
  next he=>cases h;rw[<-zaf he];exact hf
  exact ih f g h
inductive XL(w0:World)(f:Nat):List (Nat×(S->K (PX×S)))->Prop
 |nil:XL w0 f []
 |cons {id:Nat} {g:S->K (PX×S)} {r:List (Nat×(S->K (PX×S)))} (h:LN w0 f id g) (hr:XL w0 f r):XL w0 f ((id,g)::r)
theorem XL.get{w0:World}{f:Nat}{hk:List (Nat×(S->K (PX×S)))}(h:XL w0 f hk): ∀id g,lk hk id=some g->LN w0 f id g:=by
 induction h with
 |nil=>intro f g h;cases h
 | @cons f' h' r hf hr ih=>
  intro f g h;unfold lk at h;split at h
  next he=>cases h;rw[<-zaf he];exact hf
  exact ih f g h
inductive Vs(w0:World)(f:Nat):List (Nat×(S->K (PX×S)))->Prop
 |nil:Vs w0 f []
 |loop {id:Nat} {g:S->K (PX×S)} {r:List (Nat×(S->K (PX×S)))} (hid:id<500000) (h:LNT w0 f id g) (hr:Vs w0 f r):Vs w0 f ((id,g)::r)
 |range {id:Nat} {g:S->K (PX×S)} {r:List (Nat×(S->K (PX×S)))} (h:FN w0 f id g) (hr:Vs w0 f r):Vs w0 f ((500000+id,g)::r)
theorem Vs.loops{w0:World}{f:Nat}{hk:List (Nat×(S->K (PX×S)))}(h:Vs w0 f hk): ∀id g,id<500000->lk hk id=some g->LNT w0 f id g:=by
 induction h with
 |nil=>intro id g _ h;cases h
 | @loop o6 g' r qid h hr ih=>
  intro id g hid hg;unfold lk at hg;split at hg
  next he=>cases hg;rw[<-zaf he];exact h
  exact ih id g hid hg
 | @range o6 g' r h hr ih=>
  intro id g hid hg;unfold lk at hg;split at hg
  next he=>have:=zaf he;omega
  exact ih id g hid hg
theorem Vs.ranges{w0:World}{f:Nat}{hk:List (Nat×(S->K (PX×S)))}(h:Vs w0 f hk): ∀id g,lk hk (500000+id)=some g->FN w0 f id g:=by
 induction h with
 |nil=>intro id g h;cases h
 | @loop o6 g' r qid h hr ih=>
  intro id g hg;unfold lk at hg;split at hg
  next he=>have:=zaf he;omega
  exact ih id g hg
 | @range o6 g' r h hr ih=>
  intro id g hg;unfold lk at hg;split at hg
  next he=>
   cases hg;have:=zaf he;have e:o6=id:=by omega
   rw[<-e];exact h
  exact ih id g hg
theorem yI{X:XF}{H:List (FuncId×br)}(hH:HD X H):z8 (runK PR yh qe H 60 60) (ff PR (IB X)):=by have:=wC (lf:=60) (kA MS) hH 60;rw[CU PR aO xsT X.cf (λ_ _ _=>none) qe H 60 60] at this;exact this
theorem ND.mk{X:XF}{w0:World}(hX:du PR w0 X.cf){H HN:List (FuncId×br)}{hk:List (Nat×(S->K (PX×S)))}{f:Nat}{h:br}(hdr:PR.follows .mixedOrders=true)(hu:uniq PR f=true)(huR:Bf PR f=true)(hH:HD X H)(oi:K2 w0 HN)(hl:Vs w0 f hk)
  (hb: ∀ps R ae,h ps R ae->rR H HN hk f ps R ae):ND w0 f h:=
 Qw.mk (kp:=IB X) oi.get (yI hH) hX hdr MS hu huR hl.loops hl.ranges (λps R ae hp=>hb ps R ae hp)
theorem LN.par{X:XF}{w0:World}(hX:du PR w0 X.cf){H HN:List (FuncId×br)}{hk:List (Nat×(S->K (PX×S)))}{f id:Nat}{g:S->K (PX×S)}(hdr:PR.follows .mixedOrders=true)(hu:uniq PR f=true)(hc:b8 (qe f) (bA PR f id)=true)(hnr:(bR (bA PR f id)).isEmpty=true)(hH:HD X H)(oi:K2 w0 HN)(hl:XL w0 f hk)
  {A B:Type} (hd:A->B->S) (Inv:A->B->Prop) (mu:A->B->Nat) (Out:A->PX×S->Prop)
  (hr: ∀a b,Inv a b->eZ H HN hk f id (hd a b) (roundPost (mu a b) (λm s=> ∃b',s=hd a b'/\Inv a b'/\m=mu a b') (Out a)))
  (hg: ∀s ae,g s ae-> ∃a b,s=hd a b/\Inv a b/\ ∀x,Out a x->ae x):LN w0 f id (ah (aO f id) g):=by
 intro val lo mk s ae hp;unfold ah at hp;cases hh:cw (aO f id) s with
 |none=>simp only[hh] at hp
 |some s0=>
  simp only[hh] at hp;obtain⟨a,b,rfl,h1,h2⟩:=hg s0 ae hp;refine TW.mono (TW.loop (keep:=aO f id) (I:=λm s=> ∃b',s=hd a b'/\Inv a b'/\m=mu a b') (O:=Out a) (λn s hs=> ?_) hh ⟨b,rfl,h1,rfl⟩) h2;obtain⟨b',rfl,h3,rfl⟩:=hs;have:=hr a b' h3;unfold eZ at this;refine TW.mono (dZ (kp:=IB X) (T:=⟨val,w0,lo,mk⟩) oi.get (yI hH) hX hdr (kp1:=aO f) (bA PR f id) hc (λd hd h hh s ae hp=>by have:=hl.get _ _ hh val lo mk s ae hp;rwa [tY hu hd] at this) (λx hx=>by rw[zbN.1 hnr] at hx;cases hx) _ _ this) ?_;rintro⟨e,s1⟩ hx;cases e with
  |normal=>obtain⟨s2,h4,m,h5,h6⟩:=KW.dP (p:=λs2=>cw (aO f id) s1=some s2) (λ_ h=>h) _ hx;exact⟨s2,h4,m,h5,h6⟩
  |exit i=>obtain⟨s2,h4,h5⟩:=KW.dP (p:=λs2=>dC (aO f id) s1=some s2) (λ_ h=>h) _ hx;exact⟨s2,h4,h5⟩
  |ret=>obtain⟨s2,h4,h5⟩:=KW.dP (p:=λs2=>dC (aO f id) s1=some s2) (λ_ h=>h) _ hx;exact⟨s2,h4,h5⟩
def RN(g:FuncId)(cf:D->D->Int)(ty:TypeId):br:=λps R ae=> ∃es,ps=[.sl 0 0 es.length,.fn g []]/\R=[(0,⟨0,some 0,.arr ty false es⟩)]/\sS PR yh g es cf/\
 ∀fA:List D,fA.Perm es->fA.Pairwise (λa b=> ¬cf b a<0)->ae (.cX [],[(0,⟨0,some 0,.arr ty false fA⟩)])
theorem Dn{g:FuncId}{cf:D->D->Int}{ty:TypeId}{ps:List P}{R:List (Nat×En)}{ae:P×List (Nat×En)->Prop}(h:RN g cf ty ps R ae):qaK PR yh ty ps R ae:=by obtain⟨es,rfl,rfl,hc,hp⟩:=h;exact⟨0,g,⟨0,some 0,.arr ty false es⟩,es,cf,rfl,rfl,rfl,hc,λfA h1 h2=>hp fA h1 h2⟩
def RO{α β:Type}(g:FuncId)(ty:TypeId)(enc:α->D)(key:α->β)(lt:β->β->Bool):br:=λps R ae=> ∃l:List α,ps=[.sl 0 0 l.length,.fn g []]/\R=[(0,⟨0,some 0,.arr ty false (l.map enc)⟩)]/\l.length<=1000000/\
 ∀l':List α,l'.Perm l->l'.Pairwise (λa b=>lt (key b) (key a)=false)->ae (.cX [],[(0,⟨0,some 0,.arr ty false (l'.map enc)⟩)])
theorem RP{α β:Type}(f:α->β)(g:β->α)(hg: ∀x,g (f x)=x){l:List α}{l':List β}(h:l'.Perm (l.map f)): ∃l2:List α,l'=l2.map f/\l2.Perm l:=by
 refine⟨l'.map g,?_,?_⟩
 ·rw[List.map_map];refine(List.map_id l').symm.trans (zbF λb hb=> ?_);obtain⟨a,_,rfl⟩:=zaA.1 (h.mem_iff.1 hb);simp[hg]
 have:=h.map g;rw[List.map_map] at this;rwa [show(g∘f)=id from funext hg,List.map_id] at this
theorem XM{X:XF}{f g:FuncId}{ty:TypeId}{α β:Type}{enc:α->D}{dec:D->α}{key:α->β}{lt:β->β->Bool}{c:α->α->Int}(ho: ∀cf,FD X f (RN g cf ty))(Mh: ∀x,dec (enc x)=x)(hL:He lt)
  (hc: ∀x y,c x y<0↔lt (key x) (key y)=true) (wo: ∀x,∃cs,enc x= .agg cs) (hfc: ∀x y,ya PR yh g (enc x) (enc y) (c x y)) (fW: ∃fn,PR.funcs[g]?=some fn/\fn.body.isSome=true/\(fn.name== "runtime.NumGoroutine")=false):
  FD X f (RO g ty enc key lt):=by
 intro ps R ae hh;obtain⟨l,rfl,rfl,hl,hp⟩:=hh;have bI: ∀x y,c (dec (enc x)) (dec (enc y))<0↔lt (key x) (key y)=true:=λx y=>by rw[Mh,Mh];exact hc x y
 refine ho (λa b=>c (dec a) (dec b)) _ _ ae ⟨l.map enc,by rw[zaa],rfl,?_,λfA h1 h2=> ?_⟩
 ·exact {
   fn:=fW
   ag:=λd hd=>by obtain⟨x,_,rfl⟩:=zaA.1 hd;exact wo x
   len:=by simp;omega
   run:=λa ha b hb=>by obtain⟨x,_,rfl⟩:=zaA.1 ha;obtain⟨y,_,rfl⟩:=zaA.1 hb;rw[Mh,Mh];exact hfc x y
   Ky:=λa ha=>by obtain⟨x,_,rfl⟩:=zaA.1 ha;rw[bI,hL.Ky];simp
   tr:=λa ha b hb d hd=>by obtain⟨x,_,rfl⟩:=zaA.1 ha;obtain⟨y,_,rfl⟩:=zaA.1 hb;obtain⟨z,_,rfl⟩:=zaA.1 hd;rw[bI,bI,bI];exact hL.tr _ _ _
   ntr:=λa ha b hb d hd=>by obtain⟨x,_,rfl⟩:=zaA.1 ha;obtain⟨y,_,rfl⟩:=zaA.1 hb;obtain⟨z,_,rfl⟩:=zaA.1 hd;rw[bI,bI,bI];intro h1 h2;simpa using hL.ntr (by simpa using h1) (by simpa using h2)}
 obtain⟨l2,rfl,h3⟩:=RP enc dec Mh h1;rw[zcs] at h2;exact hp l2 h3 (h2.imp λ{a b} h=>by rw[bI] at h;simpa using h)
def K3{α β:Type}(g:FuncId)(ty:TypeId)(enc:α->D)(key:α->β)(lt:β->β->Bool):br:=λps R ae=> ∃(l:List α) (tl:List D),ps=[.sl 0 0 l.length,.fn g []]/\R=[(0,⟨0,some 0,.arr ty false (l.map enc++tl)⟩)]/\l.length<=1000000/\
 ∀l':List α,l'.Perm l->l'.Pairwise (λa b=>lt (key b) (key a)=false)->ae (.cX [],[(0,⟨0,some 0,.arr ty false (l'.map enc++tl)⟩)])
theorem RQ{X:XF}{f g:FuncId}{ty:TypeId}{α β:Type}{enc:α->D}{dec:D->α}{key:α->β}{lt:β->β->Bool}{c:α->α->Int}(ho:FD X f (Qt PR yh ty))(Mh: ∀x,dec (enc x)=x)(hL:He lt)
  (hc: ∀x y,c x y<0↔lt (key x) (key y)=true) (wo: ∀x,∃cs,enc x= .agg cs) (hfc: ∀x y,ya PR yh g (enc x) (enc y) (c x y)) (fW: ∃fn,PR.funcs[g]?=some fn/\fn.body.isSome=true/\(fn.name== "runtime.NumGoroutine")=false):
  FD X f (K3 g ty enc key lt):=by
 intro ps R ae hh;obtain⟨l,tl,rfl,rfl,hl,hp⟩:=hh;have bI: ∀x y,c (dec (enc x)) (dec (enc y))<0↔lt (key x) (key y)=true:=λx y=>by rw[Mh,Mh];exact hc x y
 refine ho _ _ ae ⟨0,g,⟨0,some 0,.arr ty false (l.map enc++tl)⟩,l.map enc,tl,λa b=>c (dec a) (dec b),by rw[zaa],rfl,rfl,?_,λfA h1 h2=> ?_⟩
 ·exact {
   fn:=fW
   ag:=λd hd=>by obtain⟨x,_,rfl⟩:=zaA.1 hd;exact wo x
   len:=by simp;omega
   run:=λa ha b hb=>by obtain⟨x,_,rfl⟩:=zaA.1 ha;obtain⟨y,_,rfl⟩:=zaA.1 hb;rw[Mh,Mh];exact hfc x y
   Ky:=λa ha=>by obtain⟨x,_,rfl⟩:=zaA.1 ha;rw[bI,hL.Ky];simp
   tr:=λa ha b hb d hd=>by obtain⟨x,_,rfl⟩:=zaA.1 ha;obtain⟨y,_,rfl⟩:=zaA.1 hb;obtain⟨z,_,rfl⟩:=zaA.1 hd;rw[bI,bI,bI];exact hL.tr _ _ _
   ntr:=λa ha b hb d hd=>by obtain⟨x,_,rfl⟩:=zaA.1 ha;obtain⟨y,_,rfl⟩:=zaA.1 hb;obtain⟨z,_,rfl⟩:=zaA.1 hd;rw[bI,bI,bI];intro h1 h2;simpa using hL.ntr (by simpa using h1) (by simpa using h2)}
 obtain⟨l2,rfl,h3⟩:=RP enc dec Mh h1;rw[zcs] at h2;exact hp l2 h3 (h2.imp λ{a b} h=>by rw[bI] at h;simpa using h)
def cM(U:List az)(d:D):Option D:=match d with
 | .agg [.int .i64 a,.int .i64 b]=>if U.count (a,b)=0 then none else some (iE (U.count (a,b):Int))
 |_=>none
theorem qaV(U:List az)(x:az):cM U (bh x)=if U.count x=0 then none else some (iE (U.count x:Int)):=rfl
theorem Dp:cM []=λ_=>none:=by
 funext d;unfold cM;split
 ·simp
 rfl
theorem pQ(U:List az)(x:az):cF (cM U (bh x)) (iE 0)=iE (U.count x:Int):=by
 rw[qaV];split
 next h=>rw[h];rfl
 rfl
theorem K4(U:List az)(x:az):cZ (bh x) (iE ((U.count x:Int)+1)) (cM U)=cM (x::U):=by
 funext d;unfold cZ;cases hd:D.ob (bh x) d with
 |true=>have:=(D.gV _ _).1 hd;subst this;simp only[zbS];rw[qaV,zcc,zam (by omega)];simp
 |false=>
  have dI:bh x≠d:=λe=>by rw[(D.gV _ _).2 e] at hd;cases hd
  simp only[zbo];unfold cM;split
  next a b=>have:x≠(a,b):=λe=>dI (by rw[e];rfl);rw[List.count_cons_of_ne this]
  rfl
theorem Dq(U:List az)(x:az)(z:D):(λk'=>bif D.ob (bh x) k' then some (iE ((U.count x:Int)+1)) else cZ (bh x) z (cM U) k')=cM (x::U):=by rw[<-K4];funext d;unfold cZ;cases D.ob (bh x) d<;>rfl
theorem Nk(k v u:D)(f:D->Option D):cZ k v (cZ k u f)=cZ k v f:=by funext d;unfold cZ;cases D.ob k d<;>rfl
theorem Dr(U:List az)(x:az)(z:D):cZ (bh x) (.int .i64 ((U.count x:Int)+1)) (cZ (bh x) z (cM U))=cM (x::U):=by rw[Nk];exact K4 U x
abbrev qC(z:Bool)(l:List ak):Obj:= .arr 34 z (l.map aV)
abbrev mpS(f:D->Option D)(c:Int):Obj:= .map 30 f c false
def mn(l:List ak):Prop:=l.length<=1000000/\ ∀g∈l,Ow g
abbrev cnH(l out:List ak)(f:D->Option D)(c i:Int):S:=⟨36,[(3,.sl 0 0 out.length),(4,.mp 1 0),(9,bT l),(10,iD ((l.map aV).length:Int)),(11,iD i)],[(0,⟨0,none,qC false out⟩),(1,⟨0,none,mpS f c⟩)]⟩
def cW(l:List ak):List D:=List.map aV l
def r9(out:List ak):En:=En.mk 0 none (Obj.arr (34:TypeId) false (cW out))
def OB(out:List ak):Nat×En:=(0,r9 out)
def D3(out:List ak):List (Nat×En):=[OB out]
def ij(l:List ak)(i:Int):D:=D.nth (cW l) (Zg i)
def qi(l:List ak)(i:Int):D:=D.int .i64 (D.aj (D.ar (ij l i) 1))
def qj(l:List ak)(i:Int):D:=D.int .i64 (D.aj (D.ar (ij l i) 0))
def vw(l:List ak)(i:Int):D:=D.agg [qj l i,qi l i]
def Z4X(l:List ak)(i:Int):D:=D.agg [qj l i,D.int .i64 (D.aj (D.ar (ij l i) (0+1)))]
def Z4Y(l:List ak)(i:Int)(f:D->Option D)(c:Int):En:=En.mk 0 none (Obj.map 30 (λ(k':D)=>bif D.ob (Z4X l i) k' then some (D.int .i64 (D.aj (cF (f (Z4X l i)) Z7)+(1:Int))) else cZ (Z4X l i) (cF (f (Z4X l i)) Z7) f k') (bif Option.isSome (f (vw l i)) then c else c+(1:Int)) false)
def D4(l:List ak)(i:Int):Int:=D.aj (D.ar (ij l i) 2)
def Am(l:List ak)(i:Int):List D:=[qj l i,qi l i,D.int .i64 (D4 l i),D.sl 1 (D.fa (D.ar (ij l i) 3)),D.int .i64 (D.aj (D.ar (ij l i) 4)),D.int .i64 (D.aj (D.ar (ij l i) 5)),D.sl 18 (D.fa (D.ar (ij l i) 6))]
def fu(out:List ak):Nat:=List.length out
def XO(out:List ak)(l:List ak)(i:Int):En:=En.mk 0 none (Obj.arr (34:TypeId) false (List.take (fu out) (cW out)++[D.agg (Am l i)]))
def K5(out:List ak)(l:List ak)(i:Int):Nat:=fu out+List.length [D.agg (Am l i)]
def fH(l:List ak):Nat:=List.length (cW l)
def XP(out:List ak)(l:List ak)(i:Int):Bool:=Nat.ble (fu out) (fH out)&&aM (K5 out l i) 88
def Z4T(l:List ak)(i:Int)(f:D->Option D):D:=cF (cZ (vw l i) (D.int .i64 (D.aj (cF (f (vw l i)) Z7)+(1:Int))) (cZ (vw l i) (cF (f (vw l i)) Z7) f) (vw l i)) Z7
def Z4S(f:D->Option D)(l:List ak)(i:Int):Bool:=decide (Z9<=D.aj (cF (f (vw l i)) Z7)+(1:Int)/\D.aj (cF (f (vw l i)) Z7)+(1:Int)<=Za)
def An(f:D->Option D)(c:Int):En:=En.mk 0 none (Obj.map 30 f c false)
def Z4M(i:Int):List (Nat×P):=[(11,P.d (Zn i))]
def Ds(l:List ak):P:=P.d (D.int .i64 (↑(fH l):Int))
def dq(l:List ak):P:=P.d (D.sl 7 (cW l))
def Z4N(l:List ak)(i:Int):List (Nat×P):=(4,P.mp 1 0)::(9,dq l)::(10,Ds l)::Z4M i
def oH(out:List ak):P:=P.sl 0 0 (fu out)
def XQ(e:Int)(g:ak):Prop:=e=if ct g=true then(0:Int) else(80:Int)
def XR(l:List ak)(i:Int)(g:ak):Prop:=[P.d (D.agg (Am l i))]=Je g
noncomputable def eM(l:List ak)(i:Int):Bool:=cD PR (34:TypeId) (ij l i)
def ko(i:Int)(l:List ak):Bool:=decide ((0:Int)<=i/\i<(↑(fH l):Int))
def qk(i:Int)(l:List ak):Bool:=decide (i<(↑(fH l):Int))
theorem RR(l out:List ak)(f:D->Option D)(c i:Int)(ae:PX×S->Prop):(bif qk i l then bif ko i l then bif eM l i then∃(g:ak),XR l i g/\Zx/\Ow g/\ ∀(e:Int),XQ e g->bif e !=(0:Int) then bif Zj i then ae (PX.normal,S.mk 36 ((3,oH out)::Z4N l i) [OB out,(1,An f c)]) else False else bif cD PR (3:TypeId) (cF (f (vw l i)) Z7) then bif Z4S f l i then bif cD PR (3:TypeId) (Z4T l i f) then bif D.aj (Z4T l i f)==(1:Int) then bif XP out l i then bif Zj i then ae (PX.normal,S.mk 36 ((3,P.sl 0 0 (K5 out l i))::Z4N l i) [(0,XO out l i),(1,Z4Y l i f c)]) else False else False else bif Zj i then ae (PX.normal,S.mk 36 ((3,oH out)::Z4N l i) [OB out,(1,Z4Y l i f c)]) else False else False else False else False else False else False else ae (PX.exit 0,S.mk 36 [(3,oH out)] (D3 out)))=(aG [(51,Ga)] [] 30 3 (cnH l out f c i)) ae:=by kernel_rfl
def qcS:S->K (PX×S):=λst ae=> ∃l,st=cnH l [] (λ_=>none) 0 0/\mn l/\ ∀m,m=aI l->ae (.exit 0,⟨36,[(3,.sl 0 0 m.length)],[(0,⟨0,none,qC false m⟩)]⟩)
def vX:br:=λps R ae=> ∃l,ps=[bT l]/\R=[]/\mn l/\ ∀m,m=aI l->ae (.sl 0 0 m.length,[(0,⟨0,none,qC false m⟩)])
def Nl:En:=En.mk 0 none (Obj.map 30 (λ(_:D)=>none) (0:Int) false)
def OC:En:=En.mk 0 none (Obj.arr (34:TypeId) false [])
def Z50:List (Nat×P):=[(11,P.d Z7)]
def Z53(l:List ak):S:=S.mk 36 ((3,ZQ)::(4,P.mp 1 0)::(9,dq l)::(10,Ds l)::Z50) [(0,OC),(1,Nl)]
theorem qf2(l:List ak)(ae:P×List (Nat×En)->Prop):(∃(au:List ak),Z53 l=Z53 au/\mn au/\ ∀(m:List ak),m=aI au->ae (oH m,D3 m))=(aK [] [(3,ah (aO 30 3) qcS)] 30 [bT l] []) ae:=by kernel_rfl
def yJ(m:List ak)(s:az):Int:=uk (λg=>g.s==s) m
def Jo:br:=λps R ae=> ∃m s,ps=[.sl 0 0 m.length,.d (bh s)]/\R=[(0,⟨0,some 0,qC false m⟩)]/\m.length<=1000000/\ ∀i,i=yJ m s->ae (iD i,[(0,⟨0,some 0,qC false m⟩)])
abbrev fdH(m:List ak)(s:az)(i:Int):S:=⟨20,[(0,.sl 0 0 m.length),(3,.ref 1 0 0),(5,iD i)],[(0,⟨0,some 0,qC false m⟩),(1,⟨0,none,.box 30 [iD s.1,iD s.2]⟩)]⟩
def Ao(s:az):En:=En.mk 0 none (Obj.box (30:TypeId) [P.d (ln s),P.d (ll s)])
def Dt(m:List ak):Nat×En:=(0,En.mk 0 (some 0) (Obj.arr (34:TypeId) false (cW m)))
def jE:P:=P.ref 1 0 0
def sa:Nat×P:=(3,jE)
def RS(m:List ak):List (Nat×En):=[Dt m]
def nq(i:Int):Nat×P:=(4,P.d (Zt i))
def Ap(i:Int):List (Nat×P):=[nq i]
def tI(m:List ak):Nat×P:=(0,oH m)
def tJ(i:Int)(m:List ak):Bool:=decide (Zg i<fH m)
def ot(m:List ak):Int:=(↑(fu m):Int)
def vY(i:Int)(m:List ak):Bool:=decide ((0:Int)<=i/\i<ot m)
def Jp(i:Int)(m:List ak):Bool:=decide (i<ot m)
theorem qaW(m:List ak)(s:az)(i:Int)(ae:PX×S->Prop):(bif Jp i m then bif vY i m then bif tJ i m then bif eM m i then bif D.aj (D.ar (ij m i) 0)==Prod.fst s&&(D.aj (D.ar (ij m i) 1)==Prod.snd s&&true) then ae (PX.ret,S.mk 20 (tI m::Ap i) (RS m)) else bif Zj i then ae (PX.normal,S.mk 20 (tI m::sa::Zo i) [Dt m,(1,Ao s)]) else False else False else False else False else ae (PX.exit 0,S.mk 20 [tI m] (RS m)))=(aG [] [] 73 2 (fdH m s i)) ae:=by kernel_rfl
def gFd:S->K (PX×S):=λst ae=> ∃m s,st=fdH m s 0/\m.length<=1000000/\(∀i,i=yJ m s->0<=i->ae (.ret,⟨20,[(0,.sl 0 0 m.length),(4,iD i)],[(0,⟨0,some 0,qC false m⟩)]⟩))/\(yJ m s= -1->ae (.exit 0,⟨20,[(0,.sl 0 0 m.length)],[(0,⟨0,some 0,qC false m⟩)]⟩))
def mB(bZ:List ak):Prop:=fu bZ<=1000000
def Z5g(m:List ak)(s:az):S:=S.mk 20 (tI m::sa::ZN) [Dt m,(1,Ao s)]
theorem qie(m:List ak)(s:az)(ae:P×List (Nat×En)->Prop):(∃(bZ:List ak) (iF:az),Z5g m s=Z5g bZ iF/\mB bZ/\(∀(i:Int),i=yJ bZ iF->(0:Int)<=i->ae (P.d (Zt i),RS bZ))/\(yJ bZ iF=(-1:Int)->ae (QW,RS bZ)))=(aK [] [(2,ah (aO 73 2) gFd)] 73 [.sl 0 0 m.length,.d (bh s)] [(0,⟨0,some 0,qC false m⟩)]) ae:=by kernel_rfl
abbrev XS(l out:List ak)(i:Int):S:=⟨35,[(0,bT l),(3,.sl 0 0 out.length),(4,iD i)],[(0,⟨0,none,qC false out⟩)]⟩
def gj(l:List ak):Nat×P:=(0,dq l)
def RT(l:List ak)(i:Int):List P:=[P.d (vw l i)]
theorem qaX(l out:List ak)(i:Int)(ae:PX×S->Prop):(bif qk i l then bif ko i l then bif eM l i then∃(g:ak),XR l i g/\Zx/\Ow g/\ ∀(e:Int),XQ e g->bif e==(0:Int) then bif ko i l then bif eM l i then∃(m:List ak) (s:az),oH out::RT l i=oH m::qg s/\RS out=RS m/\mB m/\ ∀(aH:Int),aH=yJ m s->bif Vn aH then bif ko i l then bif eM l i then bif Nat.ble (fu out) (fH m)&&aM (K5 out l i) 88 then bif Zj i then ae (PX.normal,S.mk 35 (gj l::(3,P.sl 0 0 (K5 out l i))::vr i) [(0,En.mk 0 none (Obj.arr (34:TypeId) false (List.take (fu out) (cW m)++[D.agg (Am l i)])))]) else False else False else False else False else bif Zj i then ae (PX.normal,S.mk 35 (gj l::(3,oH out)::vr i) (D3 m)) else False else False else False else bif Zj i then ae (PX.normal,S.mk 35 (gj l::(3,oH out)::vr i) (D3 out)) else False else False else False else ae (PX.exit 0,S.mk 35 [(3,oH out)] (D3 out)))=(aG [(72,Ga),(73,Jo)] [] 40 3 (XS l out i)) ae:=by kernel_rfl
def qcT:S->K (PX×S):=λst ae=> ∃l,st=XS l [] 0/\mn l/\ ∀m,m=aI l->ae (.exit 0,⟨35,[(3,.sl 0 0 m.length)],[(0,⟨0,none,qC false m⟩)]⟩)
def Z5l:List (Nat×En):=[(0,OC)]
def RU:List (Nat×P):=(3,ZQ)::Ng
theorem qf3(l:List ak)(ae:P×List (Nat×En)->Prop):(∃(au:List ak),S.mk 35 (gj l::RU) Z5l=S.mk 35 (gj au::RU) Z5l/\mn au/\ ∀(m:List ak),m=aI au->ae (oH m,D3 m))=(aK [] [(3,ah (aO 40 3) qcT)] 40 [bT l] []) ae:=by kernel_rfl
theorem ao{p:Prop}{i:Decidable p}{A:Prop}(h1:p)(h2:A):cond (@decide p i) A False:=by rw[zaT h1];exact h2
theorem cE{p:Prop}{i:Decidable p}{A B:Prop}(h1:p->A)(h2: ¬p->B):cond (@decide p i) A B:=by
 by_cases h:p
 ·rw[zaT h];exact h1 h
 rw[zaL h];exact h2 h
theorem bM{p:Prop}{i:Decidable p}{A B:Prop}(h1:p)(h2:A):cond (@decide p i) A B:=by rw[zaT h1];exact h2
theorem mq{p:Prop}{i:Decidable p}{A B:Prop}(h1: ¬p)(h2:B):cond (@decide p i) A B:=by rw[zaL h1];exact h2
theorem By{a b:Int}{A B:Prop}(h1:a=b->A)(h2:a≠b->B):cond (a==b) A B:=by
 by_cases h:a=b
 ·rw[show(a==b)=true by simpa using h];exact h1 h
 rw[show(a==b)=false by simpa using h];exact h2 h
theorem D5:PR.follows .mixedOrders=true:=by kernel_rfl
theorem Du{o:List ak}{g:ak}(h:ct g=false):kj o g=o:=by unfold kj;rw[zam];rw[h];simp
theorem yK{o:List ak}{g:ak}(h:(o.any λx=>x.s==g.s)=true):kj o g=o:=by unfold kj;rw[zam];rw[h];simp
theorem yL{o:List ak}{g:ak}(h:ct g=true)(h2:(o.any λx=>x.s==g.s)=false):kj o g=o++[g]:=by unfold kj;rw[zao ⟨h,h2⟩]
theorem pR{l:List ak}{i:Nat}(h:i<l.length):aI (l.take (i+1))=kj (aI (l.take i)) l[i]:=by rw[zag h,Gf]
theorem cq{m n:Nat}(h:m<=1000000)(hn:n<=1000):aM (m+1) n=true:=cp (zaI (Nat.mul_le_mul (by omega:m+1<=1000001) hn) (by omega)) (by omega)
theorem cv{α:Type}(f:α->D)(l:List α)(x:α):List.take l.length (l.map f)++[f x]=(l++[x]).map f:=by rw[zai (by simp),zaz];rfl
def vZ(U:List az)(o:List ak):Prop:= ∀x,x∈U↔(o.any λy=>y.s==x)=true
theorem vZ.nil:vZ [] []:=λx=>by simp
theorem vZ.had{U:List az}{o:List ak}{x:az}(h:vZ U o)(hx:x∈U):vZ (x::U) o:=λy=>by
 rw[zav,h y];constructor
 ·rintro(rfl |h2)
  ·exact(h _).1 hx
  exact h2
 exact .inr
theorem vZ.new{U:List az}{o:List ak}{g:ak}(h:vZ U o):vZ (g.s::U) (o++[g]):=λy=>by
 rw[zav,h y,zcg,zba];simp only[zdd,List.any_nil,zbU,zaR];constructor
 ·rintro(rfl |h2)
  ·exact .inr rfl
  exact .inl h2
 rintro(h2 |rfl)
 ·exact .inr h2
 exact .inl rfl
theorem Aq(n:Int):cD PR 3 (.int .i64 n)=true:=by kernel_rfl
section
variable{X:XF}
theorem XU:LD X 30 3 (ah (aO 30 3) qcS):=LD.idx (H:=[(51,Ga)]) (hk:=[]) (by kernel_rfl) (by kernel_rfl) (.cons qaT .nil) .nil
 (A:=List ak) (B:=List ak×List az×Int) (λl b i=>cnH l b.1 (cM b.2.1) b.2.2 i) (λl=>l.length) (λl i b=>mn l/\b.1=aI (l.take i)/\vZ b.2.1 b.1/\b.2.1.length<=i)
 (λl x=>x=(.exit 0,⟨36,[(3,.sl 0 0 (aI l).length)],[(0,⟨0,none,qC false (aI l)⟩)]⟩))
 (by
  rintro l ⟨o,U,c⟩ i ae h0 bQ bj ⟨hs,rfl,hU,Nn⟩ hn ho
  try dsimp only at*
  (rw[<-RR];delta cW r9 OB D3 Zg ij qi qj vw Z7 Z4X Z4Y D4 Am fu XO K5 fH XP Z4T Za Z9 Z4S An Zn Z4M Ds dq Z4N oH Zj XQ Zx jy jz jA gO jB gQ oR Je XR eM ko qk)
  have e1:D.nth (l.map aV) i.toNat=aV l[i.toNat]:=aA _ _ _ bj;rw[e1];simp only[cnH,zaa] at hn⊢;have hsg:=hs.2 _ (zas bj);have s8:=pR bj;have lY:=dJ (l.take i.toNat);rw[zay] at lY;generalize l[i.toNat]=g at s8 hsg;have qv:=hs.1;have t1:D.agg [D.int .i64 (D.aj (D.ar (aV g) 0)),D.int .i64 (D.aj (D.ar (aV g) 1))]=bh g.s:=rfl;have v1: ∀n:Int,D.aj (iE n)=n:=λ_=>rfl;have g0:cF (cM U (bh g.s)) (.int .i64 0)=iE (U.count g.s:Int):=pQ U g.s;have G7:=zbW (a:=g.s) (l:=U);have u2:=λz=>Dr U g.s z;have u3:=λz=>Dq U g.s z;have g1:cF (cM (g.s::U) (bh g.s)) (.int .i64 0)= .int .i64 ((U.count g.s:Int)+1):=by have:=pQ (g.s::U) g.s;rw[zcc] at this;exact this
  have Aa:(U.count g.s:Int)=0↔ ¬g.s∈U:=by rw[<-zcT];omega
  have hcb:0<=(U.count g.s:Int)/\(U.count g.s:Int)<=1000000:=by have:=hs.1;omega
  generalize (U.count g.s:Int)=cn at g0 u2 u3 g1 Aa hcb;rw[t1,g0];simp only[v1];refine yD bQ (bs ⟨h0,bQ⟩ (aq (gi _) ⟨g,rfl,rfl,hsg,λe he=>Bk (λh1=>bs (by omega) (hn (aI (l.take i.toNat),U,c) ⟨hs,?_,hU,zcV Nn⟩)) λh1=> ?_⟩))
  ·rw[s8,Du];cases hg:ct g with
   |false=>rfl
   |true=>rw[hg] at he;exact absurd he h1
  have hg:ct g=true:=by
   cases hg:ct g with
   |true=>rfl
   |false=>rw[hg,zam (by simp)] at he;omega
  have t2:D.agg [D.int .i64 (D.aj (D.ar (aV g) 0)),D.int .i64 (D.aj (D.ar (aV g) 1)),D.int .i64 (D.aj (D.ar (aV g) 2)),D.sl 1 (D.fa (D.ar (aV g) 3)),D.int .i64 (D.aj (D.ar (aV g) 4)),D.int .i64 (D.aj (D.ar (aV g) 5)),D.sl 18 (D.fa (D.ar (aV g) 6))]=aV g:=rfl;refine aq (Aq _) (ao (by omega) ?_);rw[u2,g1,t2,u3];refine aq (Aq _) ?_;simp only[v1,zap,zat,zaG];refine(By (λh2=>aq ?_ (ao (by omega) ?_)) λh2=>ao (by omega) (hn (aI (l.take i.toNat),g.s::U,_) ⟨hs,?_,hU.had ?_,zbZ Nn⟩))
  ·rw[zab];exact⟨by simp,cq (by omega) (by omega)⟩
  ·have hx: ¬g.s∈U:=Aa.1 (by omega);have Ae:((aI (l.take i.toNat)).any λx=>x.s==g.s)=false:=by rw[<-zaP,<-hU g.s];exact hx
   have:=λc':Int=>hn (aI (l.take i.toNat)++[g],g.s::U,c') ⟨hs,by rw[s8,yL hg Ae],hU.new,zbZ Nn⟩;rw[cv];simp only[zan,zap,zat,zaG] at this;exact this _
  ·have hx:g.s∈U:=zaN λh=>by have:=Aa.2 h;omega
   rw[s8,yK ((hU g.s).1 hx)]
  exact zaN λh=>by have:=Aa.2 h;omega)
 (by
  rintro l ⟨o,U,c⟩ i ae hi ⟨hs,rfl,hU,Nn⟩ ho
  try dsimp only at*
  (rw[<-RR];delta cW r9 OB D3 Zg ij qi qj vw Z7 Z4X Z4Y D4 Am fu XO K5 fH XP Z4T Za Z9 Z4S An Zn Z4M Ds dq Z4N oH Zj XQ Zx jy jz jA gO jB gQ oR Je XR eM ko qk)
  simp only[zaa];refine bg (λh=>by omega) λh=>ho _ (λh=>by cases h) ?_;rw[zak])
 (by rintro s ae ⟨l,rfl,hs,hp⟩;refine⟨l,([],[],0),by rw[Dp],⟨hs,rfl,vZ.nil,by simp⟩,?_⟩;rintro x rfl;exact hp _ rfl)
theorem K6:FD X 30 vX:=FD.mk (H:=[]) (hk:=[(3,ah (aO 30 3) qcS)]) (by kernel_rfl) .nil (.cons XU .nil) (by
 intro ps R ae hh;obtain⟨l,rfl,rfl,hs,hp⟩:=hh
 (rw[<-qf2];delta cW r9 OB D3 fu oH Nl OC Z7 Z50 fH Ds dq ZQ Z53)
 exact⟨l,rfl,hs,λm hm=>hp m hm⟩)
theorem qcU:LD X 73 2 (ah (aO 73 2) gFd):=LD.find (H:=[]) (hk:=[]) (by kernel_rfl) (by kernel_rfl) .nil .nil
 (A:=List ak×az) (λa k=>fdH a.1 a.2 k) (λa=>a.1) (λa _ g=>g.s==a.2) (λa=>a.1.length<=1000000)
 (λa i=>(.ret,⟨20,[(0,.sl 0 0 a.1.length),(4,iD i)],[(0,⟨0,some 0,qC false a.1⟩)]⟩)) (λa=>(.exit 0,⟨20,[(0,.sl 0 0 a.1.length)],[(0,⟨0,some 0,qC false a.1⟩)]⟩)) (λ_ _ h=>by cases h) (λ_ h=>by cases h)
 (by
  rintro⟨m,s⟩ i ae hi hC h0 bQ ht hn
  try dsimp only at*
  (rw[<-qaW];delta ll ln Ao cW Dt Zn Zo jE sa Za Z9 Zj RS Zt nq Ap fu oH tI Zg ij eM fH tJ ot vY Jp)
  have e1:D.nth (m.map aV) i.toNat=aV m[i.toNat]:=aA _ _ _ hi;rw[e1];refine bM bQ (ao ⟨h0,bQ⟩ (ao (by simpa using hi) (aq (gi _) ?_)));rw[show(D.aj (D.ar (aV m[i.toNat]) 0)==s.1&&(D.aj (D.ar (aV m[i.toNat]) 1)==s.2&&true))=(m[i.toNat].s==s) from Nb m[i.toNat].s s];exact ay (λh=>ht h) λh=>ao (by omega) (hn h))
 (by
  rintro⟨m,s⟩ i ae hC hi hp
  try dsimp only at*
  (rw[<-qaW];delta ll ln Ao cW Dt Zn Zo jE sa Za Z9 Zj RS Zt nq Ap fu oH tI Zg ij eM fH tJ ot vY Jp)
  exact cE (λh=>by omega) λh=>hp)
 (by
  rintro st ae ⟨m,s,rfl,hl,h1,h2⟩;refine⟨(m,s),rfl,hl,λi hi h0 ht hb=>h1 i ?_ h0,λh=>h2 ?_⟩
  ·rw[yJ,F6 hi ht hb];omega
  exact KU h)
theorem XV:FD X 73 Jo:=FD.mk (H:=[]) (hk:=[(2,ah (aO 73 2) gFd)]) (by kernel_rfl) .nil (.cons qcU .nil) (by
 intro ps R ae hh;obtain⟨m,s,rfl,rfl,hm,hp⟩:=hh
 (rw[<-qie];delta QW cW Dt RS Zt fu mB ll ln Ao Z7 ZN jE sa oH tI Z5g)
 exact⟨m,s,rfl,hm,λi hi _=>hp i hi,λh=>hp _ h.symm⟩)
theorem XW:LD X 40 3 (ah (aO 40 3) qcT):=LD.idx (H:=[(72,Ga),(73,Jo)]) (hk:=[]) (by kernel_rfl) (by kernel_rfl) (.cons qcR (.cons XV .nil)) .nil
 (A:=List ak) (B:=List ak) (λl o i=>XS l o i) (λl=>l.length) (λl i o=>mn l/\o=aI (l.take i))
 (λl x=>x=(.exit 0,⟨35,[(3,.sl 0 0 (aI l).length)],[(0,⟨0,none,qC false (aI l)⟩)]⟩))
 (by
  rintro l o i ae h0 bQ bj ⟨hs,rfl⟩ hn ho
  try dsimp only at*
  (rw[<-qaX];delta cW r9 OB D3 Zg ij D4 qi qj Am Zn vr dq gj Za Z9 Zj fu K5 fH Vn mB Dt RS ll ln tH qg vw RT oH XQ Zx jy jz jA gO jB gQ oR Je XR eM ko qk)
  have e1:D.nth (l.map aV) i.toNat=aV l[i.toNat]:=aA _ _ _ bj;rw[e1];simp only[zaa,zap,zat,zaG];have hsg:=hs.2 _ (zas bj);have s8:=pR bj;have lY:=dJ (l.take i.toNat);rw[zay] at lY;generalize l[i.toNat]=g at s8 hsg;have qv:=hs.1;have t2:D.agg [D.int .i64 (D.aj (D.ar (aV g) 0)),D.int .i64 (D.aj (D.ar (aV g) 1)),D.int .i64 (D.aj (D.ar (aV g) 2)),D.sl 1 (D.fa (D.ar (aV g) 3)),D.int .i64 (D.aj (D.ar (aV g) 4)),D.int .i64 (D.aj (D.ar (aV g) 5)),D.sl 18 (D.fa (D.ar (aV g) 6))]=aV g:=rfl;refine bM bQ (ao ⟨h0,bQ⟩ (aq (gi _) ⟨g,rfl,rfl,hsg,λe he=>By (λh1=>ao ⟨h0,bQ⟩ (aq (gi _) ⟨aI (l.take i.toNat),g.s,rfl,rfl,by omega,λk hk=>cE (λh2=>ao ⟨h0,bQ⟩ (aq (gi _) (aq ?_ (ao (by omega) ?_)))) λh2=>ao (by omega) (hn _ ⟨hs,?_⟩)⟩)) λh1=>ao (by omega) (hn _ ⟨hs,?_⟩)⟩))
  ·rw[zab];exact⟨by simp,cq (by omega) (by omega)⟩
  ·have hg:ct g=true:=by
    cases hg:ct g with
    |true=>rfl
    |false=>rw[hg,zam (by simp)] at he;omega
   have Ae:((aI (l.take i.toNat)).any λx=>x.s==g.s)=false:=(yB _ _).1 (by rw[hk] at h2;exact h2);have:=hn (aI (l.take i.toNat)++[g]) ⟨hs,by rw[s8,yL hg Ae]⟩;rw[t2,cv];simp only[XS,zan,zap,zat,zaG] at this;exact this
  ·rw[s8,yK];rw[<-zcu];intro h;exact h2 (by rw[hk];exact(yB _ _).2 h)
  rw[s8,Du];cases hg:ct g with
  |false=>rfl
  |true=>rw[hg,zao rfl] at he;exact absurd he h1)
 (by
  rintro l o i ae hi ⟨hs,rfl⟩ ho
  try dsimp only at*
  (rw[<-qaX];delta cW r9 OB D3 Zg ij D4 qi qj Am Zn vr dq gj Za Z9 Zj fu K5 fH Vn mB Dt RS ll ln tH qg vw RT oH XQ Zx jy jz jA gO jB gQ oR Je XR eM ko qk)
  simp only[zaa];refine cE (λh=>by omega) λh=>ho _ (λh=>by cases h) ?_;rw[zak])
 (by rintro s ae ⟨l,rfl,hs,hp⟩;refine⟨l,[],rfl,⟨hs,rfl⟩,?_⟩;rintro x rfl;exact hp _ rfl)
theorem RV:FD X 40 vX:=FD.mk (H:=[]) (hk:=[(3,ah (aO 40 3) qcT)]) (by kernel_rfl) .nil (.cons XW .nil) (by
 intro ps R ae hh;obtain⟨l,rfl,rfl,hs,hp⟩:=hh
 (rw[<-qf3];delta cW r9 OB D3 fu oH OC Z5l Z7 Ng ZQ RU dq gj)
 exact⟨l,rfl,hs,λm hm=>hp m hm⟩)
end
abbrev yM:=S×(PX×S)->K (PX×S×(PX×S))
noncomputable def K7(H HN:List (FuncId×br))(f id:Nat):S->(PX×S->Prop)->Prop:=dv PR (runK PR yh qe H 60 60) HN (aO f) [] (qe f) (mO PR f id).asg
noncomputable def Dv(H HN:List (FuncId×br))(f id:Nat):S->(PX×S->Prop)->Prop:=dv PR (runK PR yh qe H 60 60) HN (aO f) [] (qe f) (mO PR f id).body
noncomputable def wK(H HN:List (FuncId×br))(hk:FuncId->Nat->List (Nat×yM))(f id base:Nat)(keep:Option (List Nat×List Nat))(s:S):K (PX×S):=
 Iw PR (runK PR yh qe H 60 60) (mO PR f id).ps.toList base keep (K7 H HN f id) (Dv H HN f id) hk qe (mO PR f id).g s
noncomputable def lZ(H HN:List (FuncId×br))(f id base:Nat)(keep:Option (List Nat×List Nat))(yt fi zx:Nat)(y:S×(PX×S)):K (PX×S×(PX×S)):=
 WJ (eF PR (runK PR yh qe H 60 60) yt (ke (mO PR f id).ps.toList base keep (K7 H HN f id) (Dv H HN f id)) [] (qe fi) (bA PR fi zx)) (aO fi zx) y
def LY(w0:World)(f id yt fi zx:Nat)(h:yM):Prop:= ∀(B:nN PR) (Ti:Tg),Setup B Ti yt w0 (mO PR f id).ps (mO PR f id).asg (mO PR f id).body-> ∀y ae,h y ae->qd B Ti (.loop (bA PR fi zx)) y.2 y.1 ae
noncomputable def uw(f id:Nat):Bool:=(aS (mO PR f id).asg).isEmpty&&(aS (mO PR f id).body).isEmpty&&(bR (mO PR f id).asg).isEmpty&&(bR (mO PR f id).body).isEmpty&&b8 (qe f) (mO PR f id).asg&&b8 (qe f) (mO PR f id).body
theorem Gk{X:XF}{w0:World}(hX:du PR w0 X.cf){H HN:List (FuncId×br)}(hdr:PR.follows .mixedOrders=true)(hH:HD X H)(oi:K2 w0 HN){f id:Nat}(vH:uw f id=true)(val:Nat->Value)(lo:Nat)(s:S)(ae:PX×S->Prop)(hp:K7 H HN f id s ae):
  TW PR ⟨val,w0,lo,false⟩ (mO PR f id).asg s ae:=by
 simp only[uw,zab] at vH;exact dZ (kp:=IB X) (T:=⟨val,w0,lo,false⟩) oi.get (yI hH) hX hdr (kp1:=aO f) _ vH.1.2 (λd hd=>by rw[zbN.1 vH.1.1.1.1.1] at hd;cases hd) (λx hx=>by rw[zbN.1 vH.1.1.1.2] at hx;cases hx) _ _ hp
theorem Bz{X:XF}{w0:World}(hX:du PR w0 X.cf){H HN:List (FuncId×br)}(hdr:PR.follows .mixedOrders=true)(hH:HD X H)(oi:K2 w0 HN){f id:Nat}(vH:uw f id=true)(val:Nat->Value)(lo:Nat)(s:S)(ae:PX×S->Prop)(hp:Dv H HN f id s ae):
  TW PR ⟨val,w0,lo,false⟩ (mO PR f id).body s ae:=by
 simp only[uw,zab] at vH;exact dZ (kp:=IB X) (T:=⟨val,w0,lo,false⟩) oi.get (yI hH) hX hdr (kp1:=aO f) _ vH.2 (λd hd=>by rw[zbN.1 vH.1.1.1.1.2] at hd;cases hd) (λx hx=>by rw[zbN.1 vH.1.1.2] at hx;cases hx) _ _ hp
theorem FN.mk{X:XF}{w0:World}(hX:du PR w0 X.cf){H HN:List (FuncId×br)}(hdr:PR.follows .mixedOrders=true)(hH:HD X H)(oi:K2 w0 HN){f id base:Nat}{keep:Option (List Nat×List Nat)}(vH:uw f id=true){hk:FuncId->Nat->List (Nat×yM)}
  (hu: ∀fi yt h zx,lk (hk fi yt) zx=some h->uniq PR fi=true/\LY w0 f id yt fi zx h) {g:S->K (PX×S)} (hg: ∀s ae,g s ae->wK H HN hk f id base keep s ae):FN w0 f id g:=by
 intro val lo s ae hp;refine TW.rangeFunc (kp:=IB X) (T:=⟨val,w0,lo,true⟩) (yI hH) hX hdr rfl MS (λv l s ae hp=>Gk hX hdr hH oi vH v l s ae hp) (λv l s ae hp=>Bz hX hdr hH oi vH v l s ae hp) (hk:=hk) ?_ (hg s ae hp);intro fi fn c fW hc d hd yt h hh B Ti hs y ae hp;obtain⟨h1,h2⟩:=hu fi yt h _ hh;have e:bA PR fi (Code.r5 d)=d:=by unfold uniq at h1;rw[fW] at h1;simp only[hc] at h1;unfold bA;rw[fW];simp only[hc,jo _ (dF _ h1) hd,zcb]
 have:=h2 B Ti hs y ae hp;rwa [e] at this
theorem LY.par{X:XF}{w0:World}(hX:du PR w0 X.cf){H HN:List (FuncId×br)}(hdr:PR.follows .mixedOrders=true)(hH:HD X H)(oi:K2 w0 HN){f id base:Nat}{keep:Option (List Nat×List Nat)}{yt fi zx:Nat}(vH:uw f id=true)(hc:b8 (qe fi) (bA PR fi zx)=true)(r7:(aS (bA PR fi zx)).isEmpty=true){g:yM}
  {A B:Type} (hd:A->B->S×(PX×S)) (Inv:A->B->Prop) (mu:A->B->Nat) (Out:A->PX×S×(PX×S)->Prop)
  (hr: ∀a b,Inv a b->lZ H HN f id base keep yt fi zx (hd a b) (Iy (mu a b) (λm y=> ∃b',y=hd a b'/\Inv a b'/\m=mu a b') (Out a)))
  (hg: ∀y ae,g y ae-> ∃a b,y=hd a b/\Inv a b/\ ∀x,Out a x->ae x):LY w0 f id yt fi zx (eb (aO fi zx) g):=by
 intro Be Ti hs y ae hp;unfold eb at hp;cases hh:cw (aO fi zx) y.1 with
 |none=>simp only[hh] at hp
 |some s0=>
  simp only[hh] at hp;obtain⟨a,b,h0,h1,h2⟩:=hg (s0,y.2) ae hp;refine qd.mono (qd.loop (keep:=aO fi zx) (I:=λm s c=> ∃b',(s,c)=hd a b'/\Inv a b'/\m=mu a b') (O:=Out a) (hs.w0i.trans hs.w0b.symm) (λn s c hI=> ?_) hh ⟨b,h0,h1,rfl⟩) h2;obtain⟨b',h3,h4,rfl⟩:=hI;have:=hr a b' h4;rw[<-h3] at this;unfold lZ at this;refine qd.mono (gJ (B:=Be) (Ti:=Ti) (kp:=IB X) (yI hH) (by rw[hs.w0i];exact hX) hdr (hs.w0i.trans hs.w0b.symm) hs.O9 hs.yv hs.lp (asg:=K7 H HN f id) (body:=Dv H HN f id) (base:=base) (keep:=keep)
   (λv l s ae hp=>by rw[hs.w0b,hs.asg];exact Gk hX hdr hH oi vH v l s ae hp) (λv l s ae hp=>by rw[hs.w0b,hs.body];exact Bz hX hdr hH oi vH v l s ae hp)
   (bA PR fi zx) hc (λd hd=>by rw[zbN.1 r7] at hd;cases hd) (s,c) _ (by rw[hs.ps];exact this)) ?_
  rintro⟨e,s1,c1⟩ hx;cases e with
  |normal=>obtain⟨s2,h4,m,h5,h6⟩:=KW.dP (p:=λs2=>cw (aO fi zx) s1=some s2) (λ_ h=>h) _ hx;exact⟨s2,h4,m,h5,h6⟩
  |exit i=>obtain⟨s2,h4,h5⟩:=KW.dP (p:=λs2=>dC (aO fi zx) s1=some s2) (λ_ h=>h) _ hx;exact⟨s2,h4,h5⟩
  |ret=>obtain⟨s2,h4,h5⟩:=KW.dP (p:=λs2=>dC (aO fi zx) s1=some s2) (λ_ h=>h) _ hx;exact⟨s2,h4,h5⟩
variable{X:XF}
theorem LN.idx{w0:World}(hX:du PR w0 X.cf){H HN:List (FuncId×br)}{hk:List (Nat×(S->K (PX×S)))}{f id:Nat}{g:S->K (PX×S)}(hdr:PR.follows .mixedOrders=true)(hu:uniq PR f=true)(hc:b8 (qe f) (bA PR f id)=true)(hnr:(bR (bA PR f id)).isEmpty=true)(hH:HD X H)(oi:K2 w0 HN)(hl:XL w0 f hk)
  {A B:Type} (hd:A->B->Int->S) (len:A->Nat) (Inv:A->Nat->B->Prop) (Out:A->PX×S->Prop)
  (hr: ∀a b (k:Int) ae,0<=k->k<len a->k.toNat<len a->Inv a k.toNat b->(∀b',Inv a (k.toNat+1) b'->ae (.normal,hd a b' (k+1)))->(∀x,x.1≠ .normal->Out a x->ae x)->eZ H HN hk f id (hd a b k) ae)
  (hx: ∀a b (k:Int) ae,k=len a->Inv a (len a) b->(∀x,x.1≠ .normal->Out a x->ae x)->eZ H HN hk f id (hd a b k) ae)
  (hg: ∀s ae,g s ae-> ∃a b,s=hd a b 0/\Inv a 0 b/\ ∀x,Out a x->ae x):LN w0 f id (ah (aO f id) g):=
 LN.par hX hdr hu hc hnr hH oi hl (A:=A) (B:=B×Int) (λa b=>hd a b.1 b.2) (λa b=>0<=b.2/\b.2.toNat<=len a/\Inv a b.2.toNat b.1) (λa b=>(len a-b.2).toNat) Out
  (by
   rintro a ⟨b,k⟩ ⟨h1,h2,h3⟩;dsimp only at*
   have bw: ∀x:PX×S,x.1≠ .normal->Out a x->roundPost ((len a-k).toNat) (λm s=> ∃b':B×Int,s=hd a b'.1 b'.2/\(0<=b'.2/\b'.2.toNat<=len a/\Inv a b'.2.toNat b'.1)/\m=(len a-b'.2).toNat) (Out a) x:=by
    rintro⟨e,s⟩ dI hx;cases e with
    |normal=>exact absurd rfl dI
    |exit i=>exact hx
    |ret=>exact hx
   by_cases hk:k<len a
   ·refine hr a b k _ h1 hk (by omega) h3 (λb' hb=> ?_) bw;exact⟨((len a:Int)-(k+1)).toNat,by omega,(b',k+1),rfl,⟨by show 0<=k+1;omega,by show(k+1).toNat<=len a;omega,by show Inv a (k+1).toNat b';rw[show(k+1).toNat=k.toNat+1 by omega];exact hb⟩,rfl⟩
   have e:k=len a:=by omega
   refine hx a b k _ e ?_ bw;have:k.toNat=len a:=by omega
   rwa [this] at h3)
  (by intro s ae hp;obtain⟨a,b,h1,h2,h3⟩:=hg s ae hp;exact⟨a,(b,0),h1,⟨zbA _,by simp,h2⟩,h3⟩)
theorem yN{α:Type}(lt:α->α->Bool)(l:List α)(a:α):cj lt (l++[a])=cL lt (cj lt l) a:=by simp[cj]
theorem lv{α:Type}(lt:α->α->Bool)(o:List α)(a:α):(cL lt o a).length=o.length+1:=by rw[(gL o a).length_eq];simp
theorem mV{α:Type}(lt:α->α->Bool)(l:List α):(cj lt l).length=l.length:=(b9 l).length_eq
def vz{α:Type}(o:List α)(k:Nat)(x y:α):List α:=(o.set k y).set (k-1) x
theorem Np{α:Type}(o:List α)(k:Nat)(x y:α):(vz o k x y).length=o.length:=by simp[vz]
theorem kB{α:Type}(f:α->D)(o:List α)(k:Nat)(x y:α):(((o.map f).set k (f y)).set (k-1) (f x))=(vz o k x y).map f:=by simp[vz,zb1]
theorem RW{α:Type}(pre nY:List α)(x y:α):vz (pre++[y]++x::nY) (pre.length+1) x y=pre++x::(y::nY):=by unfold vz;have e:pre++[y]++x::nY=(pre++[y])++x::nY:=rfl;rw[show(pre++[y]++x::nY).set (pre.length+1) y=pre++[y]++y::nY by rw[zcF _ _ (by simp)];simp];rw[zaZ,zcF _ _ (by simp)];simp
variable{X:XF}
theorem LD.ins{H:List (FuncId×br)}{hk:List (Nat×(S->K (PX×S)))}{f id:Nat}{g:S->K (PX×S)}(hu:uniq PR f=true)(hc:b8 (qe f) (bA PR f id)=true)(hH:HD X H)(hl:QC X f hk)
  {A α:Type} (hd:A->List α->Int->S) (lt:α->α->Bool) (N:A->Nat) (C:A->Prop) (ex:A->List α->PX×S) (dI: ∀a o,(ex a o).1≠ .normal)
  (hr: ∀a o (k:Int) ae,C a->0<=k->o.length=N a->N a<=1000001->(dQ:k.toNat<o.length)->(k=0->ae (ex a o))->(0<k->lt o[k.toNat] (o[k.toNat-1]'(by omega))=false->ae (ex a o))->
   (0<k->lt o[k.toNat] (o[k.toNat-1]'(by omega))=true->ae (.normal,hd a (vz o k.toNat o[k.toNat] (o[k.toNat-1]'(by omega))) (k-1)))->aG H hk f id (hd a o k) ae)
  (hg: ∀s ae,g s ae-> ∃(a:A) (o:List α) (x:α) (k:Int),s=hd a (o++[x]) k/\k=o.length/\C a/\(o.length+1=N a/\o.length<=1000000)/\ae (ex a (cL lt o x))):LD X f id (ah (aO f id) g):=
 LD.par hu hc hH hl (A:=A×List α×α) (B:=List α×List α×Int) (λa b=>hd a.1 (b.1++a.2.2::b.2.1) b.2.2)
  (λa b=>(C a.1/\b.1.length+b.2.1.length+1=N a.1)/\b.2.2=b.1.length/\b.1.length+b.2.1.length<=1000000/\(nU lt a.2.2 b.1.reverse).reverse++b.2.1=cL lt a.2.1 a.2.2) (λ_ b=>b.1.length) (λa x=>x=ex a.1 (cL lt a.2.1 a.2.2))
  (by
   rintro⟨a,o,x⟩ ⟨pre,nY,k⟩ ⟨⟨h1,hN⟩,h2,h3,h4⟩;dsimp only at*
   have bw: ∀y,y=ex a (cL lt o x)->roundPost pre.length (λm s=> ∃b':List α×List α×Int,s=hd a (b'.1++x::b'.2.1) b'.2.2/\((C a/\b'.1.length+b'.2.1.length+1=N a)/\b'.2.2=b'.1.length/\b'.1.length+b'.2.1.length<=1000000/\(nU lt x b'.1.reverse).reverse++b'.2.1=cL lt o x)/\m=b'.1.length) (λy=>y=ex a (cL lt o x)) y:=by
    rintro⟨e,s⟩ he;have hn:=dI a (cL lt o x);rw[<-he] at hn;cases e with
    |normal=>exact absurd rfl hn
    |exit i=>exact he
    |ret=>exact he
   have dQ:k.toNat=pre.length:=by omega
   have hlen:(pre++x::nY).length=pre.length+nY.length+1:=by simp;omega
   have hx:(pre++x::nY)[k.toNat]'(by omega)=x:=by simp[dQ]
   refine hr a (pre++x::nY) k _ h1 (by omega) (by omega) (by omega) (by omega) (λhz=>bw _ ?_) (λhp bI=>bw _ ?_) λhp bI=> ?_
   ·have:pre=[]:=zax (by omega);subst this;rw[<-h4];simp[nU]
   ·obtain⟨p,y,rfl⟩: ∃p y,pre=p++[y]:=by
     rcases zcG pre with h | ⟨p,y,h⟩
     ·subst h;simp at h2;omega
     exact⟨p,y,by simpa using h⟩
    have hy:(p++[y]++x::nY)[k.toNat-1]'(by omega)=y:=by simp[dQ]
    rw[hx,hy] at bI;rw[<-h4];simp[nU,bI]
   obtain⟨p,y,rfl⟩: ∃p y,pre=p++[y]:=by
    rcases zcG pre with h | ⟨p,y,h⟩
    ·subst h;simp at h2;omega
    exact⟨p,y,by simpa using h⟩
   have hy:(p++[y]++x::nY)[k.toNat-1]'(by omega)=y:=by simp[dQ]
   have hsw:vz (p++[y]++x::nY) k.toNat x y=p++x::(y::nY):=by rw[dQ,zan];exact RW p nY x y
   have Fw:(p++[y]).length=p.length+1:=by simp
   rw[hx,hy] at bI⊢;refine⟨p.length,by omega,(p,y::nY,k-1),by rw[hsw],⟨⟨h1,by show p.length+(y::nY).length+1=N a;simp only[zap];omega⟩,by show k-1=(p.length:Int);omega,by show p.length+(y::nY).length<=1000000;simp only[zap];omega,?_⟩,rfl⟩;show(nU lt x p.reverse).reverse++y::nY=cL lt o x;rw[<-h4];simp[nU,bI])
  (by intro s ae hp;obtain⟨a,o,x,k,h1,h2,h3,⟨h6,h4⟩,h5⟩:=hg s ae hp;refine⟨(a,o,x),(o,[],k),h1,⟨⟨h3,by simpa using h6⟩,h2,by simpa using h4,by simp[cL]⟩,?_⟩;rintro y rfl;exact h5)
def bN(h:Hd):D:= .agg [iE h.1.1,iE h.1.2,iE h.2.1,iE h.2.2]
abbrev arH(z:Bool)(l:List Hd):Obj:= .arr 132 z (l.map bN)
abbrev v7(z:Bool)(l:List Hd):Obj:= .arr 139 z (l.map bN)
abbrev yO(l:List Hd):P:= .d (.sl 4 (l.map bN))
abbrev v8(l:List Hd):P:=ki (l.map (·.1))
abbrev wa(l:List Hd):P:=ki (l.map (·.2))
abbrev ehH(l out:List Hd)(f:D->Option D)(c i:Int):S:=⟨50,[(0,v8 l),(1,wa l),(5,.sl 0 0 out.length),(6,.mp 1 0),(14,iD (min (((l.map (·.1)).map bh).length:Int) (((l.map (·.2)).map bh).length:Int))),(15,iD i)],[(0,⟨0,none,arH false out⟩),(1,⟨0,none,mpS f c⟩)]⟩
def RX(out:List Hd):En:=En.mk 0 none (Obj.arr (132:TypeId) false (List.map bN out))
def fM(out:List Hd):Nat:=List.length out
def qD(out:List Hd):P:=P.sl 0 0 (fM out)
def nZ(l:List Hd):List D:=List.map bh (List.map (λ(x:Hd)=>Prod.fst x) l)
def Z5q(l:List Hd)(i:Int):D:=D.int .i64 (D.aj (D.ar (D.nth (nZ l) (Zg i)) 0))
def RY(l:List Hd)(i:Int):D:=D.agg [Z5q l i,D.int .i64 (D.aj (D.ar (D.nth (nZ l) (Zg i)) 1))]
def Z5A(l:List Hd)(i:Int):D:=D.agg [Z5q l i,D.int .i64 (D.aj (D.ar (D.nth (nZ l) (Zg i)) (0+1)))]
def Z5B(l:List Hd)(i:Int)(f:D->Option D)(c:Int):List (Nat×En):=[(1,En.mk 0 none (Obj.map 30 (λ(k':D)=>bif D.ob (Z5A l i) k' then some (D.int .i64 (D.aj (cF (f (Z5A l i)) Z7)+(1:Int))) else cZ (Z5A l i) (cF (f (Z5A l i)) Z7) f k') (bif Option.isSome (f (RY l i)) then c else c+(1:Int)) false))]
def Jq(out:List Hd):List D:=List.take (fM out) (List.map bN out)
def ql(l:List Hd):List D:=List.map bh (List.map (λ(x:Hd)=>Prod.snd x) l)
def Vt(l:List Hd):Int:=min (↑(List.length (nZ l)):Int) (↑(List.length (ql l)):Int)
def Z5y(l:List Hd)(i:Int):List (Nat×P):=[(6,P.mp 1 0),(14,P.d (D.int .i64 (Vt l))),(15,P.d (Zn i))]
def K8(l:List Hd):Nat×P:=(1,P.d (D.sl 2 (ql l)))
def K9(l:List Hd):Nat×P:=(0,P.d (D.sl 2 (nZ l)))
def Z5v(l:List Hd)(i:Int):List D:=[D.agg [Z5q l i,D.int .i64 (D.aj (D.ar (D.nth (nZ l) (Zg i)) 1)),D.int .i64 (D.aj (D.ar (D.nth (ql l) (Zg i)) 0)),D.int .i64 (D.aj (D.ar (D.nth (ql l) (Zg i)) 1))]]
def wb(out:List Hd):Nat:=List.length (List.map bN out)
def Z5s(l:List Hd)(i:Int)(f:D->Option D):D:=cF (cZ (RY l i) (D.int .i64 (D.aj (cF (f (RY l i)) Z7)+(1:Int))) (cZ (RY l i) (cF (f (RY l i)) Z7) f) (RY l i)) Z7
def Z5p(i:Int)(l:List Hd):Bool:=decide ((0:Int)<=i/\i<(↑(List.length (nZ l)):Int))
theorem qaY(l out:List Hd)(f:D->Option D)(c i:Int)(ae:PX×S->Prop):(bif decide (i<Vt l) then bif Z5p i l then bif cD PR (30:TypeId) (D.nth (nZ l) (Zg i)) then bif cD PR (3:TypeId) (cF (f (RY l i)) Z7) then bif decide (Z9<=D.aj (cF (f (RY l i)) Z7)+(1:Int)/\D.aj (cF (f (RY l i)) Z7)+(1:Int)<=Za) then bif Z5p i l then bif cD PR (30:TypeId) (D.nth (nZ l) (Zg i)) then bif cD PR (3:TypeId) (Z5s l i f) then bif D.aj (Z5s l i f)==(1:Int) then bif Z5p i l then bif cD PR (30:TypeId) (D.nth (nZ l) (Zg i)) then bif decide ((0:Int)<=i/\i<(↑(List.length (ql l)):Int)) then bif cD PR (30:TypeId) (D.nth (ql l) (Zg i)) then bif Nat.ble (fM out) (wb out)&&aM (fM out+List.length (Z5v l i)) 32 then bif Zj i then ae (PX.normal,S.mk 50 (K9 l::K8 l::(5,P.sl 0 0 (fM out+List.length (Z5v l i)))::Z5y l i) ((0,En.mk 0 none (Obj.arr (132:TypeId) false (Jq out++Z5v l i)))::Z5B l i f c)) else False else False else False else False else False else False else bif Zj i then ae (PX.normal,S.mk 50 (K9 l::K8 l::(5,qD out)::Z5y l i) ((0,RX out)::Z5B l i f c)) else False else False else False else False else False else False else False else False else ae (PX.exit 0,S.mk 50 [(5,qD out)] [(0,RX out)]))=(aG [] [] 68 3 (ehH l out f c i)) ae:=by kernel_rfl
def gEh:S->K (PX×S):=λst ae=> ∃l,st=ehH l [] (λ_=>none) 0 0/\l.length<=1000000/\ ∀m,m=qB l->ae (.exit 0,⟨50,[(5,.sl 0 0 m.length)],[(0,⟨0,none,arH false m⟩)]⟩)
def qif:br:=λps R ae=> ∃a b:Hd,ps=[.d (bN a),.d (bN b)]/\R=[]/\ae (iD (pI a.1.1 a.1.2 b.1.1 b.1.2),[])
def Z5E(a:Hd):P:=P.d (D.agg [D.int .i64 (Prod.fst (Prod.fst a)),D.int .i64 (Prod.snd (Prod.fst a))])
theorem qf4(a b:Hd)(ae:P×List (Nat×En)->Prop):(∃(t:Int) (r:Int) (t':Int) (r':Int),[Z5E a,Z5E b]=IV t r t' r'/\Zx/\ae (P.d (D.int .i64 (pI t r t' r')),[]))=(aK [(66,ug)] [] 103 [.d (bN a),.d (bN b)] []) ae:=by kernel_rfl
def Jr:br:=RO 103 132 bN (λh:Hd=>h.1) (λa b=>lW a b)
def Z5H(m:List Hd):List (Nat×En):=[(0,En.mk 0 (some 0) (Obj.arr (132:TypeId) false (List.map bN m)))]
def qm(au:List Hd):Prop:=fM au<=1000000
def Z5F(l:List Hd):S:=S.mk 50 [K9 l,K8 l,(5,ZQ),(6,P.mp 1 0),(14,P.d (D.int .i64 (Vt l))),(15,P.d Z7)] [(0,En.mk 0 none (Obj.arr (132:TypeId) false [])),(1,Nl)]
theorem qig(l:List Hd)(ae:P×List (Nat×En)->Prop):(∃(au:List Hd),Z5F l=Z5F au/\qm au/\ ∀(m:List Hd),m=qB au-> ∃(l:List Hd),[qD m,P.fn (103:FuncId) []]=[qD l,P.fn (103:FuncId) []]/\Z5H m=Z5H l/\qm l/\ ∀(l':List Hd),List.Perm l' l->List.Pairwise (λ(a b:Hd)=>lW (Prod.fst b) (Prod.fst a)=false) l'->ae (qD m,[(0,RX l')]))=(aK [(102,Jr)] [(3,ah (aO 68 3) gEh)] 68 [v8 l,wa l] []) ae:=by kernel_rfl
def yP:br:=λps R ae=> ∃l,ps=[v8 l,wa l]/\R=[]/\l.length<=1000000/\ ∀m,m=pM l->ae (.sl 0 0 m.length,[(0,⟨0,none,arH false m⟩)])
abbrev er1(l m:List Hd)(x:az)(f:D->Option D)(c i:Int):S:=⟨59,[(0,v8 l),(1,wa l),(5,.ref 0 0 0),(6,.ref 1 0 0),(10,.mp 2 0),(19,.sl 3 0 m.length),(20,iD (m.length:Int)),(21,iD i)],[(0,⟨0,none,.box 30 [iD x.1,iD x.2]⟩),(1,⟨0,none,.box 30 [iD 0,iD 0]⟩),(2,⟨0,none,mpS f c⟩),(3,⟨0,none,arH false m⟩)]⟩
def zy:En:=En.mk 0 none (Obj.box (30:TypeId) (P.d Z7::qy))
def Hk(x:az):Nat×En:=(0,Ao x)
def Z5W(x:az)(f:D->Option D)(c:Int):List (Nat×En):=[Hk x,(1,zy),(2,An f c)]
def wM(m:List Hd)(i:Int):D:=D.nth (List.map bN m) (Zg i)
def Gl(m:List Hd)(i:Int):Int:=D.aj (D.ar (wM m i) 1)
def Dw(m:List Hd)(i:Int):Int:=D.aj (D.ar (wM m i) 0)
def XX(m:List Hd)(i:Int):D:=D.agg [D.int .i64 (Dw m i),D.int .i64 (Gl m i)]
def Z5T:Nat:=0+1+1+1
def ux(m:List Hd):Int:=(↑(fM m):Int)
def RZ:Nat×P:=(10,P.mp 2 0)
def R4:Nat×P:=(6,jE)
def yQ:Nat×P:=(5,cb)
def Dx(i:Int)(m:List Hd):Bool:=decide (Zg i<wb m)
def Dy(i:Int)(m:List Hd):Bool:=decide ((0:Int)<=i/\i<ux m)
def OD(i:Int)(m:List Hd):Bool:=decide (i<ux m)
theorem R5(l m:List Hd)(x:az)(f:D->Option D)(c i:Int)(ae:PX×S->Prop):(bif OD i m then bif Dy i m then bif Dx i m then bif cD PR (132:TypeId) (wM m i) then bif Zj i then ae (PX.normal,S.mk 59 [K9 l,K8 l,yQ,R4,RZ,(19,P.sl 3 0 (fM m)),(20,P.d (D.int .i64 (ux m))),(21,P.d (Zn i))] [Hk x,(1,zy),(2,En.mk 0 none (Obj.map 30 (λ(k':D)=>bif D.ob (D.agg [D.int .i64 (Dw m i),D.int .i64 (D.aj (D.ar (wM m i) (0+1)))]) k' then some (D.agg [D.int .i64 (Dw m i),D.int .i64 (D.aj (D.ar (wM m i) (0+1))),D.int .i64 (D.aj (D.ar (wM m i) (0+1+1))),D.int .i64 (D.aj (D.ar (wM m i) Z5T))]) else f k') (bif Option.isSome (f (XX m i)) then c else c+(1:Int)) false)),(3,RX m)]) else False else False else False else False else ae (PX.exit 0,S.mk 59 [K9 l,K8 l,yQ,R4,RZ] (Z5W x f c)))=(aG [] [] 37 4 (er1 l m x f c i)) ae:=by kernel_rfl
abbrev qcV(l out:List Hd)(had:Bool)(i k:Int):S:=⟨80,[(0,yO l),(3,.sl 0 0 out.length),(4,iD i),(5,.d (.bool had)),(6,iD k)],[(0,⟨0,none,v7 false out⟩)]⟩
def Z64(i:Int)(l:List Hd):Bool:=decide ((0:Int)<=i/\i<(↑(wb l):Int))
noncomputable def BA(out:List Hd)(k:Int):Bool:=cD PR (139:TypeId) (wM out k)
def Gm(out:List Hd):En:=En.mk 0 none (Obj.arr (139:TypeId) false (List.map bN out))
def zz(out:List Hd):Nat×En:=(0,Gm out)
def wN(out:List Hd):List (Nat×En):=[zz out]
def Z5Z:Nat×P:=(5,ZO)
def rS(out:List Hd):Nat×P:=(3,qD out)
def D6(l:List Hd):Nat×P:=(0,P.d (D.sl 4 (List.map bN l)))
theorem R6(l out:List Hd)(had:Bool)(i k:Int)(ae:PX×S->Prop):(bif OD k out then bif had then bif Zj k then ae (PX.normal,S.mk 80 (D6 l::rS out::nq i::Z5Z::ZA k) (wN out)) else False else bif Dy k out then bif Dx k out then bif BA out k then bif Z64 i l then bif BA l i then bif Zj k then ae (PX.normal,S.mk 80 (D6 l::rS out::nq i::(5,P.d (D.bool (Dw out k==Dw l i&&(Gl out k==Gl l i&&true))))::ZA k) (wN out)) else False else False else False else False else False else False else ae (PX.exit 2,S.mk 80 [D6 l,rS out,nq i,(5,gh had)] (wN out)))=(aG [] [] 84 7 (qcV l out had i k)) ae:=by kernel_rfl
abbrev qih(l out:List Hd)(i k:Int):S:=⟨80,[(0,yO l),(3,.sl 0 0 out.length),(4,iD i),(7,iD k)],[(0,⟨0,none,v7 false out⟩)]⟩
def XY(out:List Hd)(k:Int):List D:=[D.int .i64 (Dw out k),D.int .i64 (Gl out k),D.int .i64 (D.aj (D.ar (wM out k) 2)),D.int .i64 (D.aj (D.ar (wM out k) 3))]
def XZ(out:List Hd)(k:Int):D:=D.nth (List.map bN out) (Zc k)
def Z68(out:List Hd)(k:Int):List D:=List.set (List.map bN out) (Zg k) (D.aW (D.agg (XY out k)) [D.int .i64 (D.aj (D.ar (XZ out k) 0)),D.int .i64 (D.aj (D.ar (XZ out k) 1)),D.int .i64 (D.aj (D.ar (XZ out k) 2)),D.int .i64 (D.aj (D.ar (XZ out k) 3))])
def Z65(k:Int)(out:List Hd):Bool:=decide ((0:Int)<=k-(1:Int)/\k-(1:Int)<ux out)
theorem qcW(l out:List Hd)(i k:Int)(ae:PX×S->Prop):(bif Zr k then bif Zb k then bif Z65 k out then bif decide (Zc k<wb out) then bif cD PR (139:TypeId) (XZ out k) then bif Dy k out then bif Dx k out then bif BA out k then∃(a:az) (b:az),[P.d (D.agg [D.int .i64 (D.aj (D.ar (XZ out k) 0)),D.int .i64 (D.aj (D.ar (XZ out k) 1))]),P.d (XX out k)]=Da a b/\Zx/\ ∀(r:Bool),r=lW a b->bif r then bif Zb k then bif Zb k then bif Z65 k out then bif decide (Zc k<wb out) then bif cD PR (139:TypeId) (XZ out k) then bif Dy k out then bif Dx k out then bif BA out k then bif Dy k out then bif Dx k out then bif BA out k then bif Z65 k out then bif decide (Zc k<List.length (Z68 out k)) then bif cD PR (139:TypeId) (D.nth (Z68 out k) (Zc k)) then bif Zb k then ae (PX.normal,S.mk 80 [D6 l,rS out,nq i,(7,Zs k)] [(0,En.mk 0 none (Obj.arr (139:TypeId) false (List.set (Z68 out k) (Zc k) (D.aW (D.agg [D.int .i64 (D.aj (D.ar (D.nth (Z68 out k) (Zc k)) 0)),D.int .i64 (D.aj (D.ar (D.nth (Z68 out k) (Zc k)) 1)),D.int .i64 (D.aj (D.ar (D.nth (Z68 out k) (Zc k)) 2)),D.int .i64 (D.aj (D.ar (D.nth (Z68 out k) (Zc k)) 3))]) (XY out k)))))]) else False else False else False else False else False else False else False else False else False else False else False else False else False else False else False else ae (PX.exit 4,S.mk 80 (D6 l::rS out::Ap i) (wN out)) else False else False else False else False else False else False else False else ae (PX.exit 4,S.mk 80 (D6 l::rS out::Ap i) (wN out)))=(aG [(14,pK)] [] 84 13 (qih l out i k)) ae:=by kernel_rfl
abbrev R7(l out:List Hd)(i:Int):S:=⟨80,[(0,yO l),(3,.sl 0 0 out.length),(4,iD i)],[(0,⟨0,none,v7 false out⟩)]⟩
abbrev X0(l:List ak)(out:List Hd)(i:Int):S:=⟨26,[(0,bT l),(3,.sl 0 0 out.length),(4,iD i)],[(0,⟨0,none,v7 false out⟩)]⟩
def Vu(l:List ak)(i:Int):List D:=[D.int .i64 (D.aj (D.ar (ij l i) 4)),D.int .i64 (D.aj (D.ar (ij l i) 5))]
def Z6a(out:List Hd)(l:List ak)(i:Int):Nat:=fM out+List.length [D.agg (qj l i::qi l i::Vu l i)]
theorem R8(l:List ak)(out:List Hd)(i:Int)(ae:PX×S->Prop):(bif qk i l then bif ko i l then bif eM l i then bif ko i l then bif eM l i then bif Nat.ble (fM out) (wb out)&&aM (Z6a out l i) 32 then bif Zj i then ae (PX.normal,S.mk 26 (gj l::(3,P.sl 0 0 (Z6a out l i))::vr i) [(0,En.mk 0 none (Obj.arr (139:TypeId) false (Jq out++[D.agg (qj l i::qi l i::Vu l i)])))]) else False else False else False else False else False else False else ae (PX.exit 0,S.mk 26 [rS out] (wN out)))=(aG [] [] 44 3 (X0 l out i)) ae:=by kernel_rfl
theorem X1(h:Hd):cD PR 132 (bN h)=true:=by kernel_rfl
theorem uy(h:Hd):cD PR 139 (bN h)=true:=by kernel_rfl
def Ar(U:List az)(o:List Hd):Prop:= ∀x,x∈U↔(o.any λy=>y.1==x)=true
theorem Ar.nil:Ar [] []:=λx=>by simp
theorem Ar.had{U:List az}{o:List Hd}{x:az}(h:Ar U o)(hx:x∈U):Ar (x::U) o:=λy=>by
 rw[zav,h y];constructor
 ·rintro(rfl |h2)
  ·exact(h _).1 hx
  exact h2
 exact .inr
theorem Ar.new{U:List az}{o:List Hd}{g:Hd}(h:Ar U o):Ar (g.1::U) (o++[g]):=λy=>by
 rw[zav,h y,zcg,zba];simp only[zdd,List.any_nil,zbU,zaR];constructor
 ·rintro(rfl |h2)
  ·exact .inr rfl
  exact .inl h2
 rintro(h2 |rfl)
 ·exact .inr h2
 exact .inl rfl
theorem Gn{l:List Hd}{i:Nat}(h:i<l.length):qB (l.take (i+1))=Hi (qB (l.take i)) l[i]:=by rw[zag h];unfold qB;rw[za2];rfl
theorem La{o:List Hd}{h:Hd}(hx:(o.any λx=>x.1==h.1)=true):Hi o h=o:=by unfold Hi;rw[zao hx]
theorem Lb{o:List Hd}{h:Hd}(hx:(o.any λx=>x.1==h.1)=false):Hi o h=o++[h]:=by unfold Hi;rw[zam (by rw[hx];simp)]
theorem qf5:FC 103 qif:=FC.mk (H:=[(66,ug)]) (by kernel_rfl) (.cons qaQ .nil) (by
 intro ps R ae hh;obtain⟨a,b,rfl,rfl,hp⟩:=hh
 (rw[<-qf4];delta Zx Zt ZE IV Z5E)
 exact⟨_,_,_,_,rfl,rfl,hp⟩)
def qii:D->Hd
 | .agg [.int .i64 a,.int .i64 b,.int .i64 c,.int .i64 d]=>((a,b),(c,d))
 |_=>((0,0),(0,0))
section
variable{X:XF}
theorem X2:FD X 102 Jr:=XM (dec:=qii) (c:=λa b=>pI a.1.1 a.1.2 b.1.1 b.1.2)
 (λcf=>FD.sP Tryz.func102 (by kernel_rfl) (by kernel_rfl) λps R ae h=>Iu (Dn h)) (λ_=>rfl) lX (λx y=>(De x.1 y.1).lt) (λ_=>⟨_,rfl⟩)
 (λx y=>FC.qfO qf5 ⟨x,y,rfl,rfl,rfl⟩) ⟨_,Tryz.func103,by kernel_rfl,by kernel_rfl⟩
theorem qcX:LD X 68 3 (ah (aO 68 3) gEh):=LD.idx (H:=[]) (hk:=[]) (by kernel_rfl) (by kernel_rfl) .nil .nil
 (A:=List Hd) (B:=List Hd×List az×Int) (λl b i=>ehH l b.1 (cM b.2.1) b.2.2 i) (λl=>l.length) (λl i b=>l.length<=1000000/\b.1=qB (l.take i)/\Ar b.2.1 b.1/\b.2.1.length<=i)
 (λl x=>x=(.exit 0,⟨50,[(5,.sl 0 0 (qB l).length)],[(0,⟨0,none,arH false (qB l)⟩)]⟩))
 (by
  rintro l ⟨o,U,c⟩ i ae h0 bQ bj ⟨qv,rfl,hU,Nn⟩ hn ho;dsimp only at*
  (rw[<-qaY];delta RX fM qD Zg nZ Z5q RY Z7 Z5A Z5B Jq Zn ql Vt Z5y K8 K9 Za Z9 Zj Z5v wb Z5s Z5p)
  have e1:D.nth ((l.map (·.1)).map bh) i.toNat=bh l[i.toNat].1:=by rw[aA _ _ _ (by simpa using bj)];simp
  have e2:D.nth ((l.map (·.2)).map bh) i.toNat=bh l[i.toNat].2:=by rw[aA _ _ _ (by simpa using bj)];simp
  rw[e1,e2];simp only[ehH,zaa] at hn⊢;have s8:=Gn bj;have lY:=qh (l.take i.toNat);rw[zay] at lY;generalize l[i.toNat]=g at s8;have v1: ∀n:Int,D.aj (iE n)=n:=λ_=>rfl;have t1:D.agg [D.int .i64 (D.aj (D.ar (bh g.1) 0)),D.int .i64 (D.aj (D.ar (bh g.1) 1))]=bh g.1:=rfl;have t2:D.agg [D.int .i64 (D.aj (D.ar (bh g.1) 0)),D.int .i64 (D.aj (D.ar (bh g.1) 1)),D.int .i64 (D.aj (D.ar (bh g.2) 0)),D.int .i64 (D.aj (D.ar (bh g.2) 1))]=bN g:=rfl;have g0:cF (cM U (bh g.1)) (.int .i64 0)=iE (U.count g.1:Int):=pQ U g.1;have G7:=zbW (a:=g.1) (l:=U);have u2:=λz=>Dr U g.1 z;have u3:=λz=>Dq U g.1 z;have g1:cF (cM (g.1::U) (bh g.1)) (.int .i64 0)= .int .i64 ((U.count g.1:Int)+1):=by have:=pQ (g.1::U) g.1;rw[zcc] at this;exact this
  have Aa:(U.count g.1:Int)=0↔ ¬g.1∈U:=by rw[<-zcT];omega
  have hcb:0<=(U.count g.1:Int)/\(U.count g.1:Int)<=1000000:=by omega
  generalize (U.count g.1:Int)=cn at g0 u2 u3 g1 Aa hcb;rw[t1,g0];simp only[v1];refine bM (by omega) (ao ⟨h0,bQ⟩ (aq (jS _) (aq (Aq _) (ao (by omega) ?_))));rw[u2,g1,u3];refine ao ⟨h0,bQ⟩ (aq (jS _) (aq (Aq _) ?_));simp only[v1,zap,zat,zaG];refine By (λh2=> ?_) λh2=>ao (by omega) (hn (qB (l.take i.toNat),g.1::U,_) ⟨qv,?_,hU.had ?_,zbZ Nn⟩)
  ·refine ao ⟨h0,bQ⟩ (aq (jS _) (ao ⟨h0,bQ⟩ (aq (jS _) (aq ?_ (ao (by omega) ?_)))))
   ·rw[zab];exact⟨by simp,cq (by omega) (by omega)⟩
   have Ae:((qB (l.take i.toNat)).any λx=>x.1==g.1)=false:=by rw[<-zaP,<-hU g.1];exact Aa.1 (by omega)
   have:=λc':Int=>hn (qB (l.take i.toNat)++[g],g.1::U,c') ⟨qv,by rw[s8,Lb Ae],hU.new,zbZ Nn⟩;rw[t2,cv];simp only[zan,zap,zat,zaG] at this;exact this _
  ·have hx:g.1∈U:=zaN λh=>by have:=Aa.2 h;omega
   rw[s8,La ((hU g.1).1 hx)]
  exact zaN λh=>by have:=Aa.2 h;omega)
 (by
  rintro l ⟨o,U,c⟩ i ae hi ⟨qv,rfl,hU,Nn⟩ ho;dsimp only at*
  (rw[<-qaY];delta RX fM qD Zg nZ Z5q RY Z7 Z5A Z5B Jq Zn ql Vt Z5y K8 K9 Za Z9 Zj Z5v wb Z5s Z5p)
  simp only[zaa];refine cE (λh=>by omega) λh=>ho _ (λh=>by cases h) ?_;rw[zak])
 (by rintro s ae ⟨l,rfl,hs,hp⟩;refine⟨l,([],[],0),by rw[Dp],⟨hs,rfl,Ar.nil,by simp⟩,?_⟩;rintro x rfl;exact hp _ rfl)
theorem Lc:FD X 68 yP:=FD.mk (H:=[(102,Jr)]) (hk:=[(3,ah (aO 68 3) gEh)]) (by kernel_rfl) (.cons X2 .nil) (.cons qcX .nil) (by
 intro ps R ae hh;obtain⟨l,rfl,rfl,hs,hp⟩:=hh
 (rw[<-qig];delta RX Z5H fM qD qm Nl Z7 ql nZ Vt ZQ K8 K9 Z5F)
 have hdl:=qh l;refine⟨l,rfl,hs,λm hm=>⟨m,rfl,rfl,by rw[hm];omega,λl' Gp hpw=> ?_⟩⟩;subst hm;have e:=Dk Gp hpw;rw[<-Gp.length_eq,e];exact hp _ rfl)
end
end Pi
