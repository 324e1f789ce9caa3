/- The texts X3Shelf XBld K3 X3 S3 StPure St1 St1H StV2 StV2H StV3H StV4 StV4H St5 St5H StTextP St7 St7H PathP StL2H P1 P1H P3 P3H A2 A2H A3 A4 A4H B1 B2H T1 T1H T2 T2H T3 TrA TrB WiP WiU Wi0 Wi0H LdP Wi1 Wi1H Wi2 Wi2H Wi3 Wi3H Wi4 Wi4H EfP HiP SN SoP Hi1 QP Hi1H SR LnP InsP. -/
import Derived.Test.YtngoddkencoalaaGreatDoorPiYr
import Derived.Shelf.SlLaysF0
import Derived.Shelf.LaysM
import Derived.Shelf.LaysC
import Derived.Shelf.Strings.OnBuilder
import Derived.Shelf.Strings.SlTrimAscii
import Derived.Shelf.Small.Wraps
import Derived.Shelf.Strconv.AtoiAll
import Derived.Shelf.Strconv.Itoa3
import Derived.Shelf.Strings.Cut
import Derived.Shelf.Strings.Split
import Derived.Shelf.Strings.LastIndexAll
import Derived.Shelf.Unicode.ValidAny
import Derived.Shelf.Utf8.RuneCount
import Derived.Test.YtngoddkencoalaaGreatDoorProg
import Derived.Ground.SlsfProg
import Derived.KernelRfl
import Derived.Lib.SplitLaws
import Derived.Lib.SlTrimSet
import Derived.Lib.ValidLaws
import Derived.Lib.RuneCountTail
import Derived.Lib.MapLaws
namespace Go.Proofs
open Go.Shelf
def Tryz.Ek:Go.Shelf.Ren:=⟨fun |160=>146 |232=>170 |231=>169 |227=>171 |234=>173 |233=>172 |236=>175 |235=>174 |228=>182 |271=>185 |151=>184 |197=>183 |120=>190 |152=>189 |260=>188 |137=>191 |119=>192 |224=>193 |225=>194 |217=>195 |266=>196 |n=>n,fun |9=>9 |4=>4 |3=>3 |5=>5 |117=>237 |116=>236 |0=>0 |124=>240 |21=>21 |105=>253 |46=>172 |119=>242 |139=>245 |138=>244 |n=>n,fun |3=>0 |4=>1 |n=>n⟩
theorem Tryz.IL:Go.Proofs.Lays.n160 Tryz.prog Tryz.Ek:={
 mixed:=by kernel_rfl
 f119:=Tryz.func192.trans (congrArg some (by kernel_rfl))
 f120:=Tryz.func190.trans (congrArg some (by kernel_rfl))
 f137:=Tryz.func191.trans (congrArg some (by kernel_rfl))
 f151:=Tryz.func184.trans (congrArg some (by kernel_rfl))
 f152:=Tryz.func189.trans (congrArg some (by kernel_rfl))
 f160:=Tryz.func146.trans (congrArg some (by kernel_rfl))
 f197:=Tryz.func183.trans (congrArg some (by kernel_rfl))
 f217:=Tryz.func195.trans (congrArg some (by kernel_rfl))
 f224:=Tryz.func193.trans (congrArg some (by kernel_rfl))
 f225:=Tryz.func194.trans (congrArg some (by kernel_rfl))
 f227:=Tryz.func171.trans (congrArg some (by kernel_rfl))
 f228:=Tryz.func182.trans (congrArg some (by kernel_rfl))
 f231:=Tryz.func169.trans (congrArg some (by kernel_rfl))
 f232:=Tryz.func170.trans (congrArg some (by kernel_rfl))
 f233:=Tryz.func172.trans (congrArg some (by kernel_rfl))
 f234:=Tryz.func173.trans (congrArg some (by kernel_rfl))
 f235:=Tryz.func174.trans (congrArg some (by kernel_rfl))
 f236:=Tryz.func175.trans (congrArg some (by kernel_rfl))
 f260:=Tryz.func188.trans (congrArg some (by kernel_rfl))
 f266:=Tryz.func196.trans (congrArg some (by kernel_rfl))
 f271:=Tryz.func185.trans (congrArg some (by kernel_rfl))
 t0:=Tryz.underlying0
 a0:=Tryz.isAgg0
 z0:=Tryz.sizeOf0
 v0:=Tryz.zeroValue0
 t3:=Tryz.underlying3
 a3:=Tryz.isAgg3
 z3:=Tryz.sizeOf3
 v3:=Tryz.zeroValue3
 t4:=Tryz.underlying4
 a4:=Tryz.isAgg4
 z4:=Tryz.sizeOf4
 v4:=Tryz.zeroValue4
 t5:=Tryz.underlying5
 a5:=Tryz.isAgg5
 z5:=Tryz.sizeOf5
 v5:=Tryz.zeroValue5
 t9:=Tryz.underlying9
 a9:=Tryz.isAgg9
 z9:=Tryz.sizeOf9
 v9:=Tryz.zeroValue9
 t21:=Tryz.underlying21
 a21:=Tryz.isAgg21
 z21:=Tryz.sizeOf21
 v21:=Tryz.zeroValue21
 t46:=Tryz.underlying172
 a46:=Tryz.isAgg172
 z46:=Tryz.sizeOf172
 v46:=Tryz.zeroValue172
 t105:=Tryz.underlying253
 a105:=Tryz.isAgg253
 z105:=Tryz.sizeOf253
 v105:=Tryz.zeroValue253
 t116:=Tryz.underlying236
 a116:=Tryz.isAgg236
 z116:=Tryz.sizeOf236
 t117:=Tryz.underlying237
 a117:=Tryz.isAgg237
 z117:=Tryz.sizeOf237
 v117:=Tryz.zeroValue237
 t119:=Tryz.underlying242
 a119:=Tryz.isAgg242
 z119:=Tryz.sizeOf242
 t124:=Tryz.underlying240
 a124:=Tryz.isAgg240
 z124:=Tryz.sizeOf240
 v124:=Tryz.zeroValue240
 t138:=Tryz.underlying244
 a138:=Tryz.isAgg244
 z138:=Tryz.sizeOf244
 v138:=Tryz.zeroValue244
 t139:=Tryz.underlying245
 a139:=Tryz.isAgg245
 z139:=Tryz.sizeOf245
 v139:=Tryz.zeroValue245
 g3:=by kernel_rfl
 g4:=by kernel_rfl}
open Go.RowKit in
theorem Tryz.strings_Trim_one (s:ByteArray) (c:UInt8) (hc:c.toNat<128) (w:World) (hs:s.size<=9223372036854775807):
 Calls Tryz.prog 146 #[.string s,.string ⟨#[c]⟩] w fun e w'=>e= .returned (.string ⟨(Lib.trimB s.data.toList c).toArray⟩)/\(w'=w\/w'=w.drew):=Any.strings_Trim_one Tryz.IL s c hc w hs
def Tryz.El:Go.Shelf.Ren:=⟨fun |195=>149 |n=>n,fun |9=>9 |3=>3 |0=>0 |4=>4 |n=>n,fun |n=>n⟩
theorem Tryz.TY:Go.Proofs.Lays.n195 Tryz.prog Tryz.El:={
 mixed:=by kernel_rfl
 f195:=Tryz.func149.trans (congrArg some (by kernel_rfl))
 t0:=Tryz.underlying0
 a0:=Tryz.isAgg0
 z0:=Tryz.sizeOf0
 v0:=Tryz.zeroValue0
 t3:=Tryz.underlying3
 a3:=Tryz.isAgg3
 z3:=Tryz.sizeOf3
 v3:=Tryz.zeroValue3
 t4:=Tryz.underlying4
 a4:=Tryz.isAgg4
 z4:=Tryz.sizeOf4
 v4:=Tryz.zeroValue4
 t9:=Tryz.underlying9
 a9:=Tryz.isAgg9
 z9:=Tryz.sizeOf9
 v9:=Tryz.zeroValue9}
open Go.RowKit in
theorem Tryz.utf8_RuneCountInString (s:ByteArray) (w:World) (hs:s.size<9223372036854775807):
 Calls Tryz.prog 149 #[.string s] w fun e w'=>e= .returned (.int .i64 (Lib.runeCount s))/\ ∃pos,w'=w.iter s pos:=Any.utf8_RuneCountInString Tryz.TY s w hs
def Tryz.Em:Go.Shelf.Ren:=⟨fun |196=>148 |259=>176 |n=>n,fun |9=>9 |4=>4 |3=>3 |5=>5 |12=>12 |119=>242 |0=>0 |46=>172 |139=>245 |138=>244 |53=>204 |n=>n,fun |3=>0 |4=>1 |n=>n⟩
theorem Tryz.T0:Go.Proofs.Lays.n196 Tryz.prog Tryz.Em:={
 mixed:=by kernel_rfl
 f196:=Tryz.func148.trans (congrArg some (by kernel_rfl))
 f259:=Tryz.func176.trans (congrArg some (by kernel_rfl))
 t0:=Tryz.underlying0
 a0:=Tryz.isAgg0
 z0:=Tryz.sizeOf0
 v0:=Tryz.zeroValue0
 t3:=Tryz.underlying3
 a3:=Tryz.isAgg3
 z3:=Tryz.sizeOf3
 v3:=Tryz.zeroValue3
 t4:=Tryz.underlying4
 a4:=Tryz.isAgg4
 z4:=Tryz.sizeOf4
 v4:=Tryz.zeroValue4
 t5:=Tryz.underlying5
 a5:=Tryz.isAgg5
 z5:=Tryz.sizeOf5
 v5:=Tryz.zeroValue5
 t9:=Tryz.underlying9
 a9:=Tryz.isAgg9
 z9:=Tryz.sizeOf9
 v9:=Tryz.zeroValue9
 t12:=Tryz.underlying12
 a12:=Tryz.isAgg12
 z12:=Tryz.sizeOf12
 v12:=Tryz.zeroValue12
 t46:=Tryz.underlying172
 a46:=Tryz.isAgg172
 z46:=Tryz.sizeOf172
 v46:=Tryz.zeroValue172
 t53:=Tryz.underlying204
 a53:=Tryz.isAgg204
 z53:=Tryz.sizeOf204
 v53:=Tryz.zeroValue204
 t119:=Tryz.underlying242
 a119:=Tryz.isAgg242
 z119:=Tryz.sizeOf242
 t138:=Tryz.underlying244
 a138:=Tryz.isAgg244
 z138:=Tryz.sizeOf244
 v138:=Tryz.zeroValue244
 t139:=Tryz.underlying245
 a139:=Tryz.isAgg245
 z139:=Tryz.sizeOf245
 v139:=Tryz.zeroValue245
 g3:=by kernel_rfl
 g4:=by kernel_rfl}
open Go.RowKit in
theorem Tryz.utf8_ValidString (s:ByteArray) (w:World) (hs:s.size<=9223372036854775807) (hT:Lib.Utf8Tabs 0 1 w):
 Calls Tryz.prog 148 #[.string s] w fun e w'=>e= .returned (.bool (Lib.validD s.data.toList))/\Below w.heap.size w w':=Any.utf8_ValidString Tryz.T0 s w hs hT
def Tryz.xj:Go.Shelf.Ren:=⟨fun |6=>64 |15=>98 |14=>97 |28=>133 |29=>134 |20=>125 |21=>126 |22=>127 |23=>128 |24=>129 |25=>130 |26=>131 |27=>132 |46=>154 |47=>155 |48=>156 |49=>157 |50=>158 |57=>178 |n=>n,fun |22=>22 |24=>34 |25=>126 |3=>3 |39=>172 |0=>0 |53=>202 |55=>204 |4=>4 |46=>195 |45=>194 |50=>199 |5=>5 |9=>9 |66=>221 |70=>225 |76=>247 |77=>248 |n=>n,fun |n=>n⟩
theorem Tryz.qam:Go.Proofs.SlLaysF0.n6 Tryz.prog Tryz.xj:={
 mixed:=by kernel_rfl
 f6:=⟨Tryz.f64.name,by decide,Tryz.func64.trans (congrArg some (by kernel_rfl))⟩
 f14:=⟨Tryz.f97.name,by decide,Tryz.func97.trans (congrArg some (by kernel_rfl))⟩
 f15:=Tryz.func98.trans (congrArg some (by kernel_rfl))
 f20:=⟨Tryz.f125.name,by decide,Tryz.func125.trans (congrArg some (by kernel_rfl))⟩
 f21:=⟨Tryz.f126.name,by decide,Tryz.func126.trans (congrArg some (by kernel_rfl))⟩
 f22:=⟨Tryz.f127.name,by decide,Tryz.func127.trans (congrArg some (by kernel_rfl))⟩
 f23:=⟨Tryz.f128.name,by decide,Tryz.func128.trans (congrArg some (by kernel_rfl))⟩
 f24:=⟨Tryz.f129.name,by decide,Tryz.func129.trans (congrArg some (by kernel_rfl))⟩
 f25:=⟨Tryz.f130.name,by decide,Tryz.func130.trans (congrArg some (by kernel_rfl))⟩
 f26:=⟨Tryz.f131.name,by decide,Tryz.func131.trans (congrArg some (by kernel_rfl))⟩
 f27:=⟨Tryz.f132.name,by decide,Tryz.func132.trans (congrArg some (by kernel_rfl))⟩
 f28:=Tryz.func133.trans (congrArg some (by kernel_rfl))
 f29:=Tryz.func134.trans (congrArg some (by kernel_rfl))
 f46:=⟨Tryz.f154.name,by decide,Tryz.func154.trans (congrArg some (by kernel_rfl))⟩
 f47:=Tryz.func155.trans (congrArg some (by kernel_rfl))
 f48:=Tryz.func156.trans (congrArg some (by kernel_rfl))
 f49:=⟨Tryz.f157.name,by decide,Tryz.func157.trans (congrArg some (by kernel_rfl))⟩
 f50:=⟨Tryz.f158.name,by decide,Tryz.func158.trans (congrArg some (by kernel_rfl))⟩
 f57:=⟨Tryz.f178.name,by decide,Tryz.func178.trans (congrArg some (by kernel_rfl))⟩
 t0:=Tryz.underlying0
 a0:=Tryz.isAgg0
 z0:=Tryz.sizeOf0
 v0:=Tryz.zeroValue0
 t3:=Tryz.underlying3
 a3:=Tryz.isAgg3
 z3:=Tryz.sizeOf3
 v3:=Tryz.zeroValue3
 t4:=Tryz.underlying4
 a4:=Tryz.isAgg4
 z4:=Tryz.sizeOf4
 v4:=Tryz.zeroValue4
 t5:=Tryz.underlying5
 a5:=Tryz.isAgg5
 z5:=Tryz.sizeOf5
 v5:=Tryz.zeroValue5
 t9:=Tryz.underlying9
 a9:=Tryz.isAgg9
 z9:=Tryz.sizeOf9
 v9:=Tryz.zeroValue9
 t22:=Tryz.underlying22
 a22:=Tryz.isAgg22
 z22:=Tryz.sizeOf22
 v22:=Tryz.zeroValue22
 t25:=Tryz.underlying126
 a25:=Tryz.isAgg126
 z25:=Tryz.sizeOf126
 v25:=Tryz.zeroValue126
 t39:=Tryz.underlying172
 a39:=Tryz.isAgg172
 z39:=Tryz.sizeOf172
 v39:=Tryz.zeroValue172
 t45:=Tryz.underlying194
 a45:=Tryz.isAgg194
 z45:=Tryz.sizeOf194
 v45:=Tryz.zeroValue194
 t46:=Tryz.underlying195
 a46:=Tryz.isAgg195
 z46:=Tryz.sizeOf195
 v46:=Tryz.zeroValue195
 t50:=Tryz.underlying199
 a50:=Tryz.isAgg199
 z50:=Tryz.sizeOf199
 v50:=Tryz.zeroValue199
 t53:=Tryz.underlying202
 a53:=Tryz.isAgg202
 z53:=Tryz.sizeOf202
 v53:=Tryz.zeroValue202
 t55:=Tryz.underlying204
 a55:=Tryz.isAgg204
 z55:=Tryz.sizeOf204
 v55:=Tryz.zeroValue204
 t66:=Tryz.underlying221
 a66:=Tryz.isAgg221
 z66:=Tryz.sizeOf221
 v66:=Tryz.zeroValue221
 t70:=Tryz.underlying225
 a70:=Tryz.isAgg225
 z70:=Tryz.sizeOf225
 v70:=Tryz.zeroValue225
 t76:=Tryz.underlying247
 a76:=Tryz.isAgg247
 z76:=Tryz.sizeOf247
 v76:=Tryz.zeroValue247
 t77:=Tryz.underlying248
 a77:=Tryz.isAgg248
 z77:=Tryz.sizeOf248
 v77:=Tryz.zeroValue248}
def Tryz.uw:Go.Shelf.Ren:=⟨fun |6=>102 |15=>98 |14=>136 |28=>133 |29=>134 |20=>159 |21=>160 |22=>161 |23=>162 |24=>163 |25=>164 |26=>165 |27=>166 |46=>179 |47=>155 |48=>156 |49=>180 |50=>181 |57=>187 |n=>n,fun |22=>128 |24=>132 |25=>176 |3=>3 |39=>172 |0=>0 |53=>202 |55=>204 |4=>4 |46=>195 |45=>194 |50=>199 |5=>5 |9=>9 |66=>221 |70=>225 |76=>247 |77=>248 |n=>n,fun |n=>n⟩
theorem Tryz.T1:Go.Proofs.SlLaysF0.n6 Tryz.prog Tryz.uw:={
 mixed:=by kernel_rfl
 f6:=⟨Tryz.f102.name,by decide,Tryz.func102.trans (congrArg some (by kernel_rfl))⟩
 f14:=⟨Tryz.f136.name,by decide,Tryz.func136.trans (congrArg some (by kernel_rfl))⟩
 f15:=Tryz.func98.trans (congrArg some (by kernel_rfl))
 f20:=⟨Tryz.f159.name,by decide,Tryz.func159.trans (congrArg some (by kernel_rfl))⟩
 f21:=⟨Tryz.f160.name,by decide,Tryz.func160.trans (congrArg some (by kernel_rfl))⟩
 f22:=⟨Tryz.f161.name,by decide,Tryz.func161.trans (congrArg some (by kernel_rfl))⟩
 f23:=⟨Tryz.f162.name,by decide,Tryz.func162.trans (congrArg some (by kernel_rfl))⟩
 f24:=⟨Tryz.f163.name,by decide,Tryz.func163.trans (congrArg some (by kernel_rfl))⟩
 f25:=⟨Tryz.f164.name,by decide,Tryz.func164.trans (congrArg some (by kernel_rfl))⟩
 f26:=⟨Tryz.f165.name,by decide,Tryz.func165.trans (congrArg some (by kernel_rfl))⟩
 f27:=⟨Tryz.f166.name,by decide,Tryz.func166.trans (congrArg some (by kernel_rfl))⟩
 f28:=Tryz.func133.trans (congrArg some (by kernel_rfl))
 f29:=Tryz.func134.trans (congrArg some (by kernel_rfl))
 f46:=⟨Tryz.f179.name,by decide,Tryz.func179.trans (congrArg some (by kernel_rfl))⟩
 f47:=Tryz.func155.trans (congrArg some (by kernel_rfl))
 f48:=Tryz.func156.trans (congrArg some (by kernel_rfl))
 f49:=⟨Tryz.f180.name,by decide,Tryz.func180.trans (congrArg some (by kernel_rfl))⟩
 f50:=⟨Tryz.f181.name,by decide,Tryz.func181.trans (congrArg some (by kernel_rfl))⟩
 f57:=⟨Tryz.f187.name,by decide,Tryz.func187.trans (congrArg some (by kernel_rfl))⟩
 t0:=Tryz.underlying0
 a0:=Tryz.isAgg0
 z0:=Tryz.sizeOf0
 v0:=Tryz.zeroValue0
 t3:=Tryz.underlying3
 a3:=Tryz.isAgg3
 z3:=Tryz.sizeOf3
 v3:=Tryz.zeroValue3
 t4:=Tryz.underlying4
 a4:=Tryz.isAgg4
 z4:=Tryz.sizeOf4
 v4:=Tryz.zeroValue4
 t5:=Tryz.underlying5
 a5:=Tryz.isAgg5
 z5:=Tryz.sizeOf5
 v5:=Tryz.zeroValue5
 t9:=Tryz.underlying9
 a9:=Tryz.isAgg9
 z9:=Tryz.sizeOf9
 v9:=Tryz.zeroValue9
 t22:=Tryz.underlying128
 a22:=Tryz.isAgg128
 z22:=Tryz.sizeOf128
 v22:=Tryz.zeroValue128
 t25:=Tryz.underlying176
 a25:=Tryz.isAgg176
 z25:=Tryz.sizeOf176
 v25:=Tryz.zeroValue176
 t39:=Tryz.underlying172
 a39:=Tryz.isAgg172
 z39:=Tryz.sizeOf172
 v39:=Tryz.zeroValue172
 t45:=Tryz.underlying194
 a45:=Tryz.isAgg194
 z45:=Tryz.sizeOf194
 v45:=Tryz.zeroValue194
 t46:=Tryz.underlying195
 a46:=Tryz.isAgg195
 z46:=Tryz.sizeOf195
 v46:=Tryz.zeroValue195
 t50:=Tryz.underlying199
 a50:=Tryz.isAgg199
 z50:=Tryz.sizeOf199
 v50:=Tryz.zeroValue199
 t53:=Tryz.underlying202
 a53:=Tryz.isAgg202
 z53:=Tryz.sizeOf202
 v53:=Tryz.zeroValue202
 t55:=Tryz.underlying204
 a55:=Tryz.isAgg204
 z55:=Tryz.sizeOf204
 v55:=Tryz.zeroValue204
 t66:=Tryz.underlying221
 a66:=Tryz.isAgg221
 z66:=Tryz.sizeOf221
 v66:=Tryz.zeroValue221
 t70:=Tryz.underlying225
 a70:=Tryz.isAgg225
 z70:=Tryz.sizeOf225
 v70:=Tryz.zeroValue225
 t76:=Tryz.underlying247
 a76:=Tryz.isAgg247
 z76:=Tryz.sizeOf247
 v76:=Tryz.zeroValue247
 t77:=Tryz.underlying248
 a77:=Tryz.isAgg248
 z77:=Tryz.sizeOf248
 v77:=Tryz.zeroValue248}
end Go.Proofs
namespace Pi
open Go Go.Proofs Go.RowKit Go.Shelf
section
variable {w0:World}
set_option maxHeartbeats 2000000 in
set_option maxRecDepth 100000 in
theorem fo.drew {T:Tg} {F:Nat->Prop} {G:Nat->Value} {w:World} {R:List (Nat×En)} (h:fo Tryz.prog T F G w R):fo Tryz.prog T F G w.drew R:=by
 have hn:Names G G R R:=Names.refl G R
 exact⟨h.qV,h.size,fun t p hp=>by simp[lk] at hp,fun n e he=>(h.rg n e he).mono (fun _ h=>h) (fun _ _=>rfl) hn rfl (fun _ _=>rfl),h.own,h.lr,h.iR,h.tag,h.z,Nat.le_succ_of_le h.dr,h.sz⟩
end
end Pi
namespace Pi
open Go
set_option maxRecDepth 100000
def qdz:List (Nat×List (Nat×List Nat×List Nat)):=[(5,[(9,[5,6,7,9],[4,5,6,7])]),
 (6,[(6,[0,1,5,6,7],[1,5,6]),(15,[5,8,9,10,11,12],[5,8,9,10,11]),(21,[5,8,9,10,11,13,14],[5,8,9,10,11,13]),(28,[5,8,9,10,11,15],[4,5,8,9,10])]),
 (8,[(2,[0,3],[0,2])]),
 (11,[(3,[0,3,4],[3])]),
 (12,[(5,[1,4,6,7,21,22,23],[1,4,6,7])]),
 (15,[(4,[0,3,4,5],[4])]),
 (17,[(3,[0,1,4,5,6,7,8,20,21,22],[0,1,4,5,6,7,8])]),
 (18,[(4,[0,1,5],[4])]),
 (20,[(4,[1,3],[2])]),
 (22,[(4,[2,3,5],[4])]),
 (23,[(6,[0,1,4,6,7,8],[0,1,4,6])]),
 (24,[(4,[4,6,7,8],[4,5])]),
 (25,[(5,[4,6,7,8,9],[4,5])]),
 (26,[(4,[0,1,5],[4])]),
 (27,[(3,[3,8,9,10],[3])]),
 (28,[(4,[0,3,4],[3])]),
 (29,[(5,[2,3,4,5,6,7],[2,3,4,5,6])]),
 (30,[(3,[3,4,9,10,11],[3])]),
 (32,[(7,[0,2,3,4,5,6],[0,2,3,4,5]),(11,[0,2,3,4,5,6,7,8],[0,2,3,4,5,6]),(20,[0,2,3,4,5,6,7,8,9,10],[0,2,3,4,5,6,7,8])]),
 (33,[(3,[0,3,4],[3])]),
 (37,[(4,[0,1,5,6,10,19,20,21],[0,1,5,6,10]),(10,[5,6,7,10,35,36],[6,7,8])]),
 (40,[(3,[0,3,4],[3])]),
 (41,[(4,[0,1,5,6],[5]),(9,[0,1,5,6,7],[0,1,5,6])]),
 (42,[(2,[0,3,5],[0,4])]),
 (43,[(3,[0,3,4,7,8],[4,5,6]),(7,[0,3,4,7,8,9,10],[0,3,4,7,8,9])]),
 (44,[(3,[0,3,4],[3])]),
 (46,[(5,[0,1,2,8,9],[8])]),
 (47,[(3,[0,1,5,6],[5])]),
 (48,[(3,[0,1,5,6],[5])]),
 (49,[(3,[0,3,4],[3])]),
 (51,[(11,[3,48,49,50],[2])]),
 (53,[(4,[3,4,5],[4]),(8,[3,4,5,6,7],[3,4,5,6]),(15,[4,8,9],[8])]),
 (54,[(3,[0,1,5,6],[5]),(6,[0,1,5,6,7],[0,1,5,6]),(9,[0,1,5,6,7,8],[0,1,5,6,7])]),
 (55,[(4,[5,6,7],[6]),(14,[5,6,7,10],[5,6,7])]),
 (56,[(4,[1,5,6,7],[6]),(9,[1,5,6,7,9],[1,5,6,7])]),
 (57,[(3,[0,1,5,6],[5]),(9,[0,1,5,6,8],[0,1,5,6])]),
 (58,[(4,[1,2,7,8,9],[8])]),
 (59,[(3,[0,3,5,6],[5]),(6,[0,3,5,6,7],[0,3,5,6])]),
 (60,[(3,[0,1,5,7,8],[7]),(6,[0,1,5,7,8,9],[0,1,5,7,8])]),
 (61,[(5,[3,4,5,6,20,21,22],[3,5,6]),(15,[3,71,72,73],[3]),(20,[3,87,88,89],[3])]),
 (62,[(5,[0,1,5,6],[0,1,5])]),
 (68,[(3,[0,1,5,6,14,15],[5])]),
 (69,[(2,[0,3,7,8],[4])]),
 (70,[(4,[0,1,5],[4])]),
 (71,[(4,[0,1,5],[4])]),
 (72,[(11,[1,3,4],[2])]),
 (73,[(2,[0,3,5],[0,4])]),
 (74,[(1,[0],[0])]),
 (75,[(2,[0,3],[0,3])]),
 (76,[(3,[0,1,5,6],[5]),(6,[0,1,5,6,7],[0,1,5,6])]),
 (79,[(3,[0,1,5,7,8],[7]),(8,[0,1,5,7,8,9],[0,1,5,7,8])]),
 (80,[(4,[5,6,7],[6]),(8,[5,6,7,8],[5,6,7])]),
 (84,[(3,[0,3,4],[3]),(7,[0,3,4,5,6],[0,3,4,5]),(13,[0,3,4,7],[0,3,4])]),
 (85,[(3,[0,1,5,6],[5]),(7,[0,1,5,6,7,8],[0,1,5,6,7]),(13,[0,1,5,6,9],[0,1,5,6])]),
 (86,[(2,[0,4,5,7],[0,6])]),
 (87,[(2,[0,3,5],[0,4])]),
 (89,[(4,[0,1,5,6],[5]),(8,[0,1,5,6,7,8],[0,1,5,6,7])]),
 (90,[(2,[0,3,5],[5])]),
 (91,[(2,[0,3,5],[0,4])]),
 (92,[(2,[0,3,5],[4])]),
 (93,[(4,[3,4,5],[4])]),
 (95,[(3,[0,3,4,14,15,16],[0]),(13,[0,3,4,6,14,15,16,95,96,97],[0,3,4,14,15,16])]),
 (96,[(2,[0,1,7,8],[0,1,4])]),
 (97,[(2,[0,1,2,3,4,10,11],[4])]),
 (99,[(3,[3,6,7,8],[2,3])]),
 (101,[(1,[0,1,5,6,7],[0,1])]),
 (105,[(2,[0,3],[0,2])]),
 (107,[(3,[0,3,4],[3]),(8,[0,3,4,5,7,8],[0,3,4]),(13,[0,3,4,5,7,8,9,10,11],[0,3,4,5,7,8,9,10])]),
 (108,[(2,[0,5,6,7],[0,2])]),
 (114,[(2,[0,1,7,8,9],[0,1,4])]),
 (116,[(2,[0,1,7,8,9],[0,1,4])]),
 (118,[(3,[0,3,4],[3])]),
 (119,[(2,[0,3,5],[4])]),
 (120,[(2,[0,3,5],[3,4])]),
 (121,[(3,[0,3,5,6],[5]),(8,[0,3,5,6,7],[0,3,5,6])]),
 (123,[(1,[0,2,3],[0])]),
 (125,[(1,[0,1,2,3,8],[3]),(4,[0,1,2,3,8,9],[0,1,2,3,8])]),
 (126,[(4,[0,3,8,9,10,11],[0,3,8,9,10]),(8,[0,3,8,9,12],[3])]),
 (127,[(5,[0,1,3,8,9,10,11],[3])]),
 (129,[(2,[0,3,8,9],[3])]),
 (130,[(3,[0,1,2,3,9,10],[3,8]),(5,[0,1,2,3,9,10],[0,1,2,3,9,10]),(14,[0,1,2,3,9,10,11],[0,1,2,3,9,10]),(20,[0,1,2,3,9,10,12],[0,1,2,3,9,10])]),
 (131,[(3,[0,1,4,11,12],[4,11]),(3,[0,1,4,11,12],[0,1,4,11,12]),(5,[0,1,4,11,12],[0,1,4,11,12])]),
 (132,[(3,[0,1,4,12,13],[0,1,4,12,13]),(5,[0,1,4,12,13],[0,1,4,12,13]),(13,[0,1,4,12,13],[0,1,4,13]),(13,[0,1,4,12,13],[0,1,4,12,13]),(15,[0,1,4,12,13],[0,1,4,12,13])]),
 (136,[(2,[0,1,2,3,4,10,11],[4])]),
 (138,[(4,[0,3],[2])]),
 (141,[(2,[1,2,5],[1,4])]),
 (143,[(2,[1,2,3,7],[1,6])]),
 (144,[(2,[0,4],[2,3,4])]),
 (148,[(1,[0],[2]),(9,[0],[0])]),
 (149,[(2,[2,4],[2])]),
 (153,[(1,[0,1,3],[0,1])]),
 (154,[(1,[0,2,3,4,10],[4])]),
 (159,[(1,[0,1,2,3,8],[3]),(4,[0,1,2,3,8,9],[0,1,2,3,8])]),
 (160,[(4,[0,3,8,9,10,11],[0,3,8,9,10]),(8,[0,3,8,9,12],[3])]),
 (161,[(5,[0,1,3,8,9,10,11],[3])]),
 (163,[(2,[0,3,8,9],[3])]),
 (164,[(3,[0,1,2,3,9,10],[3,8]),(5,[0,1,2,3,9,10],[0,1,2,3,9,10]),(14,[0,1,2,3,9,10,11],[0,1,2,3,9,10]),(20,[0,1,2,3,9,10,12],[0,1,2,3,9,10])]),
 (165,[(3,[0,1,4,11,12],[4,11]),(3,[0,1,4,11,12],[0,1,4,11,12]),(5,[0,1,4,11,12],[0,1,4,11,12])]),
 (166,[(3,[0,1,4,12,13],[0,1,4,12,13]),(5,[0,1,4,12,13],[0,1,4,12,13]),(13,[0,1,4,12,13],[0,1,4,13]),(13,[0,1,4,12,13],[0,1,4,12,13]),(15,[0,1,4,12,13],[0,1,4,12,13])]),
 (168,[(16,[0,5,7,8],[2,3,4,5,7])]),
 (169,[(1,[0,1],[0])]),
 (170,[(1,[0,1],[0])]),
 (171,[(2,[0,2,4],[2,3])]),
 (172,[(1,[0,1],[0,1])]),
 (173,[(1,[0,1],[0,1])]),
 (174,[(1,[0,1],[0])]),
 (175,[(1,[0,1],[0])]),
 (179,[(1,[0,2,3,4,10],[4])]),
 (185,[(10,[0,4,5,6],[0,4,5])]),
 (186,[(4,[0,3],[0,3])]),
 (189,[(38,[175],[4]),(5,[0,7,8,9],[4]),(12,[0,7,8,9,12],[8,9]),(25,[0,7,8,9,14,15],[4]),(29,[0,7,8,9,14,15,16],[0,7,8,9,14,15])])]
def qan:List (Nat×List (Nat×Nat)):=[(5,[(6,1),(11,1)]),
 (9,[(5,1)]),
 (17,[(5,4)]),
 (25,[(7,6)]),
 (28,[(6,1)]),
 (30,[(6,1)]),
 (32,[(18,1),(22,1),(24,1)]),
 (34,[(3,1)]),
 (41,[(11,1)]),
 (48,[(5,1)]),
 (50,[(7,1),(9,1),(11,6),(12,1),(14,6),(16,1),(20,1)]),
 (55,[(16,1)]),
 (56,[(7,1),(11,1)]),
 (57,[(11,1)]),
 (61,[(8,1),(10,1),(11,4)]),
 (66,[(1,1)]),
 (68,[(5,1)]),
 (72,[(1,1)]),
 (79,[(10,1)]),
 (80,[(10,1)]),
 (81,[(1,1)]),
 (83,[(5,1),(14,1)]),
 (84,[(15,1)]),
 (85,[(15,1)]),
 (94,[(6,1)]),
 (95,[(8,1),(9,1),(11,1),(16,1)]),
 (107,[(10,1)]),
 (121,[(10,1)]),
 (124,[(1,1)]),
 (125,[(6,1)]),
 (126,[(10,1)]),
 (127,[(10,1)]),
 (130,[(11,1),(17,1),(23,1)]),
 (145,[(9,1),(11,1)]),
 (148,[(7,1),(9,1)]),
 (150,[(1,1)]),
 (154,[(6,1)]),
 (159,[(6,1)]),
 (160,[(10,1)]),
 (161,[(10,1)]),
 (164,[(11,1),(17,1),(23,1)]),
 (177,[(3,1)]),
 (179,[(6,1)])]
def xsB:List Nat:=[146,148,149,64,102]
def xsT:List Nat:=xsB++[19,17]
def qgb:List Nat:=[]
def aK (f id:Nat):Option (List Nat×List Nat):=if Nat.beq id 999999 then(if gw f qgb then some ([],[]) else none) else match lk qdz f with |some l=>lk l id |none=>none
abbrev xl:py:=⟨aK,xsT,fun _ _ _=>none⟩
end Pi
namespace Pi
open Go Go.Proofs Go.RowKit
def IP:TF
 | [.d (.str s),.d (.str c)],[]=>if s.length<=9223372036854775807/\c.length<4294967281/\c.all (fun b=>decide (b.toNat<128))=true then some (.d (.str (Lib.trimS s c)),[]) else none
 |_,_=>none
def GS:TF
 | [.d (.str s)],[]=>if s.length<=9223372036854775807 then some (.d (.bool (Lib.validD s)),[]) else none
 |_,_=>none
def GU:TF
 | [.d (.str s)],[]=>if s.length<9223372036854775807 then some (.d (.int .i64 (Lib.runeCount ⟨⟨s⟩⟩)),[]) else none
 |_,_=>none
noncomputable def xn:TF:=xe Tryz.prog xl 34
noncomputable def Ak:TF:=xe Tryz.prog xl 132
noncomputable def xL:List (Nat×TF):=[(146,IP),(148,GS),(149,GU),(64,xn),(102,Ak)]
noncomputable def xB:CF:=xOf xL
theorem rb {w0 w:World} {v:Value} {b o:Nat} (hz: ∀b,b<w0.heap.size->w.heap[b]?=w0.heap[b]?) (h:w0.cell? ⟨b,o,none⟩=some v):w.cell? ⟨b,o,none⟩=some v:=by
 by_cases hb:b<w0.heap.size
 ·unfold World.cell? at h⊢
  rw[hz b hb]
  exact h
 ·unfold World.cell? at h
  rw[show w0.heap[({block:=b,off:=o,spot:=none}:Addr).block]?=none from Array.getElem?_eq_none (by show w0.heap.size<=b;omega)] at h
  simp at h
structure StW (w0:World):Prop where
 m: ∃m,w0.cell? ⟨2,0,none⟩=some (.int .i64 m)
 u8:Lib.Utf8Tabs 0 1 w0
theorem StW.zero {w0:World} (h:StW w0):StW {w0 with drawn:=0} where
 m:=h.m
 u8:=h.u8
theorem KU {w0 w:World} {a b:Nat} (hz: ∀b,b<w0.heap.size->w.heap[b]?=w0.heap[b]?) (h:Lib.Utf8Tabs a b w0):Lib.Utf8Tabs a b w:=
 ⟨fun c hc=>rb hz (h.1 c hc),fun i hi=>⟨rb hz (h.2 i hi).1,rb hz (h.2 i hi).2⟩⟩
section
variable {w0:World}
theorem BX {F:Nat->Prop} {w:World} {G:Nat->Value} {R:List (Nat×En)} {v:Value} {s:List UInt8} (h:aD F w G R v (.d (.str s))):v= .string ⟨⟨s⟩⟩:=aD.cw (p:= .d (.str s)) h rfl
theorem OA:KQ Tryz.prog w0 146 IP:=by
 intro h0 ps R p R1 h F G w vs hH hl hv
 unfold IP at h
 split at h
 ·rename_i s c
  split at h
  ·rename_i hc
   simp only[Option.some.injEq,Prod.mk.injEq] at h
   obtain⟨rfl,rfl⟩:=h
   match vs,hl,hv with
   | [v,u],_,hv=>
    have e1:v= .string ⟨⟨s⟩⟩:=BX (hv 0 v _ rfl rfl)
    have e2:u= .string ⟨⟨c⟩⟩:=BX (hv 1 u _ rfl rfl)
    subst e1
    subst e2
    refine tf h0 hH (enters Tryz.func146 (by kernel_rfl) (by kernel_rfl) _ w) ?_
    exact(Go.Proofs.Any.strings_Trim_laid Tryz.IL (by kernel_rfl) ⟨⟨s⟩⟩ ⟨⟨c⟩⟩ w (by simpa [ByteArray.size] using hc.1) (by simpa [ByteArray.size] using hc.2.1) (Go.Proofs.ascii_of_all hc.2.2)).mono fun e w' ⟨he,hb⟩=>⟨_,he,hb,fun F G=> .d (.str _)⟩
  ·cases h
 ·cases h
theorem KV (hw:StW w0):KQ Tryz.prog w0 148 GS:=by
 intro h0 ps R p R1 h F G w vs hH hl hv
 have hz: ∀b,b<w0.heap.size->w.heap[b]?=w0.heap[b]?:=fun b hb=>(hH.z b hb).2
 unfold GS at h
 split at h
 ·rename_i s
  split at h
  ·rename_i hc
   simp only[Option.some.injEq,Prod.mk.injEq] at h
   obtain⟨rfl,rfl⟩:=h
   match vs,hl,hv with
   | [v],_,hv=>
    have e1:v= .string ⟨⟨s⟩⟩:=BX (hv 0 v _ rfl rfl)
    subst e1
    refine tf h0 hH (enters Tryz.func148 (by kernel_rfl) (by kernel_rfl) _ w) ?_
    exact(Tryz.utf8_ValidString ⟨⟨s⟩⟩ w (by simpa [ByteArray.size] using hc) (KU hz hw.u8)).mono fun e w' ⟨he,hb⟩=>⟨_,he,hb,fun F G=> .d (.bool _)⟩
  ·cases h
 ·cases h
theorem KX:KQ Tryz.prog w0 149 GU:=by
 intro h0 ps R p R1 h F G w vs hH hl hv
 unfold GU at h
 split at h
 ·rename_i s
  split at h
  ·rename_i hc
   simp only[Option.some.injEq,Prod.mk.injEq] at h
   obtain⟨rfl,rfl⟩:=h
   match vs,hl,hv with
   | [v],_,hv=>
    have e1:v= .string ⟨⟨s⟩⟩:=BX (hv 0 v _ rfl rfl)
    subst e1
    refine tf h0 hH (enters Tryz.func149 (by kernel_rfl) (by kernel_rfl) _ w) ?_
    exact(Tryz.utf8_RuneCountInString ⟨⟨s⟩⟩ w (by simpa [ByteArray.size] using hc)).mono fun e w' ⟨he,pos,hb⟩=>⟨_,he,by rw[hb];exact(Below.refl _ _).alloc (Nat.le_refl _) _,fun F G=> .d (.int _ _)⟩
  ·cases h
 ·cases h
set_option maxRecDepth 100000 in
theorem y9 (w0:World):KQ Tryz.prog w0 64 xn:=
 Eb (kp:=xl) (fun w=>On _ w) Tryz.qam (by kernel_rfl) (fun vs w=>enters Tryz.func64 (by kernel_rfl) (by kernel_rfl) vs w) (ty:=34) (k:=7) (by kernel_rfl) (fun w=>pz (d:=_) (show Tryz.prog.underlying (Tryz.xj.t 24)=some _ from Tryz.underlying34) w) (run_sizeOf (by kernel_rfl)) w0
set_option maxRecDepth 100000 in
theorem BY (w0:World):KQ Tryz.prog w0 102 Ak:=
 Eb (kp:=xl) (fun w=>On _ w) Tryz.T1 (by kernel_rfl) (fun vs w=>enters Tryz.func102 (by kernel_rfl) (by kernel_rfl) vs w) (ty:=132) (k:=4) (by kernel_rfl) (fun w=>pz (d:=_) (show Tryz.prog.underlying (Tryz.uw.t 24)=some _ from Tryz.underlying132) w) (run_sizeOf (by kernel_rfl)) w0
theorem qdA {w1:World} (Xe:StW w1):db Tryz.prog {w1 with drawn:=0} xB:=by
 have hw:=Xe.zero
 exact KR.ok rfl (.cons OA (.cons (KV hw) (.cons KX (.cons (y9 _) (.cons (BY _) .nil)))))
end
end Pi
namespace Pi
open Go Go.Proofs
set_option maxRecDepth 100000
structure XF where
 cf:CF
 eq: ∀f,gw f xsB=true-> ∀ps R,cf f ps R=xB f ps R
abbrev GV (X:XF):py:=⟨aK,xsT,X.cf⟩
def pI (f id:Nat):Nat:=match lk qan f with |some l=>(lk l id).getD 2 |none=>2
theorem KY:mJ pI 0 Tryz.prog.funcs.toList=true:=by kernel_rfl
noncomputable abbrev PR:=Tryz.prog
noncomputable def aF (H:List (FuncId×bm)) (hk:List (Nat×(S->K (PX×S)))) (f id:Nat) (s:S):K (PX×S):=
 vV (e7 PR (runK PR xl pI H 60 60) (aK f) hk (pI f) 60 (bt PR f id)) (aK f id) s
noncomputable def aH (H:List (FuncId×bm)) (hk:List (Nat×(S->K (PX×S)))) (f:Nat) (ps:List P) (R:List (Nat×En)):K (P×List (Nat×En)):=
 lQ PR (runK PR xl pI H 60 60) xl hk pI 60 f ps R
def FD (X:XF) (f:Nat) (h:bm):Prop:=Ms PR (GV X) f h
def HD (X:XF) (H:List (FuncId×bm)):Prop:=Iy PR (GV X) H
def LD (X:XF) (f id:Nat) (g:S->K (PX×S)):Prop:= ∀s,KW (g s) (fun x=>Ev fun a b=>hQ (bz PR (eZ PR (GV X) a b) (aK f) a (bt PR f id)) (aK f id) a s=some x)
theorem HD.nil {X:XF}:HD X []:=Iy.nil
theorem HD.cons {X:XF} {f:Nat} {h:bm} {H:List (FuncId×bm)} (hf:FD X f h) (hH:HD X H):HD X ((f,h)::H):=Iy.cons hf hH
inductive OB (X:XF) (f:Nat):List (Nat×(S->K (PX×S)))->Prop
 |nil:OB X f []
 |cons {id:Nat} {g:S->K (PX×S)} {r:List (Nat×(S->K (PX×S)))} (h:LD X f id g) (hr:OB X f r):OB X f ((id,g)::r)
theorem OB.get {X:XF} {f:Nat} {hk:List (Nat×(S->K (PX×S)))} (h:OB X f hk): ∀id g,lk hk id=some g->LD X f id g:=by
 induction h with
 |nil=>exact IB
 |cons h hr ih=>exact TQ h ih
theorem FD.mk {X:XF} {H:List (FuncId×bm)} {hk:List (Nat×(S->K (PX×S)))} {f:Nat} {h:bm} (hu:uniq PR f=true) (hH:HD X H) (hl:OB X f hk) (hb: ∀ps R post,h ps R post->aH H hk f ps R post):FD X f h:=
 Ms.mk KY hH hu hl.get (fun ps R post hp=>by
  have:=hb ps R post hp
  unfold aH at this
  rw[BT PR aK xsT _ X.cf pI H 60 60] at this
  exact this)
theorem LD.par {X:XF} {H:List (FuncId×bm)} {hk:List (Nat×(S->K (PX×S)))} {f id:Nat} {g:S->K (PX×S)} (hu:uniq PR f=true) (hc:bW (pI f) (bt PR f id)=true) (hH:HD X H) (hl:OB X f hk)
  {A B:Type} (hd:A->B->S) (Inv:A->B->Prop) (mu:A->B->Nat) (Out:A->PX×S->Prop)
  (hr: ∀a b,Inv a b->aF H hk f id (hd a b) (roundPost (mu a b) (fun m s=> ∃b',s=hd a b'/\Inv a b'/\m=mu a b') (Out a)))
  (hg: ∀s post,g s post-> ∃a b,s=hd a b/\Inv a b/\ ∀x,Out a x->post x):LD X f id (ae (aK f id) g):=by
 refine Ea fun s0 post hp=> ?_
 obtain⟨a,b,rfl,h1,h2⟩:=hg s0 post hp
 obtain⟨x,g1,g2⟩:=TJ (keep:=aK f id) (kp1:=aK f) (O:=Out a) KY hH hc (fun d hd h hh=>by
  have:=hl.get _ _ hh
  unfold LD at this
  rwa [s8 hu hd] at this) (I:=fun m s=> ∃b',s=hd a b'/\Inv a b'/\m=mu a b') (fun n s hs=>by
   obtain⟨b',rfl,h3,rfl⟩:=hs
   have:=hr a b' h3
   unfold aF at this
   rw[BT PR aK xsT _ X.cf pI H 60 60] at this
   exact this) (mu a b) (hd a b) ⟨b,rfl,h1,rfl⟩
 exact⟨x,g2,h2 x g1⟩
theorem FD.weaken {X:XF} {f:Nat} {h1 h2:bm} (h:FD X f h1) (hw: ∀ps R post,h2 ps R post->h1 ps R post):FD X f h2:=fun ps R post hp=>h ps R post (hw ps R post hp)
theorem FD.TI {X:XF} {f:Nat} {fn:Func} {h:bm} (eJ:PR.funcs[f]?=some fn) (hx:gw f xsT=true) (IQ:gw f xsB=true) (hb: ∀ps R post,h ps R post-> ∃x,xB f ps R=some x/\post x):FD X f h:=
 Ms.TI eJ hx fun ps R post hp=>by
  obtain⟨x,h1,h2⟩:=hb ps R post hp
  exact⟨x,by rw[<-h1];exact X.eq f IQ ps R,h2⟩
theorem FD.run {X:XF} {f:Nat} {h:bm} (hf:FD X f h) {ps:List P} {R:List (Nat×En)} {y:P×List (Nat×En)} (hp:h ps R (fun x=>x=y)): ∃lf k,eZ PR (GV X) lf k f ps R=some y:=by
 obtain⟨x,h1,h2⟩:=hf ps R _ hp
 subst h2
 exact h1.some
def FC (f:Nat) (h:bm):Prop:=Ms PR xl f h
def HC (H:List (FuncId×bm)):Prop:=Iy PR xl H
theorem HC.nil:HC []:=Iy.nil
theorem HC.cons {f:Nat} {h:bm} {H:List (FuncId×bm)} (hf:FC f h) (hH:HC H):HC ((f,h)::H):=Iy.cons hf hH
theorem FC.mk {H:List (FuncId×bm)} {f:Nat} {h:bm} (hu:uniq PR f=true) (hH:HC H) (hb: ∀ps R post,h ps R post->aH H [] f ps R post):FC f h:=
 Ms.mk KY hH hu IB hb
noncomputable def IU:XF:=⟨xB,fun _ _ _ _=>rfl⟩
end Pi
namespace Pi
def uW (l:List Int) (r:Int):Int:=if r<1\/r>l.length then 0 else l.getD (r-1).toNat 0
def qA (l:List Int):Nat->Nat
 |0=>0
 |k+1=>if l.getD k 0=0 then qA l k else k+1
def bX (l:List Int):List Int:=l.take (qA l l.length)
def ti (n:Nat) (f:Nat->Int):List Int:=(List.range n).map f
def oT (v:List Int) (r n:Int):List Int:=ti (max v.length r.toNat) fun i=>if(i:Int)+1=r then n else uW v (i+1)
def ux (v:List Int):Bool:=decide ((∀n∈v,0<=n)/\v.length<=16/\(bX v).length=v.length)
@[simp] theorem qdB (n:Nat) (f:Nat->Int):(ti n f).length=n:=by simp[ti]
theorem rf (l:List Int): ∀k,qA l k<=k
 |0=>Nat.le_refl 0
 |k+1=>by
  have:=rf l k
  unfold qA
  split<;>omega
@[simp] theorem xo (l:List Int):(bX l).length=qA l l.length:=by
 have:=rf l l.length
 simp[bX];omega
theorem IV (l:List Int) (i:Nat):uW l ((i:Int)+1)=l.getD i 0:=by
 unfold uW
 split
 ·rename_i h
  have h:l.length<=i:=by omega
  simp[List.getD_eq_getElem?_getD,List.getElem?_eq_none h]
 ·have:((i:Int)+1-1).toNat=i:=by omega
  rw[this]
theorem T2 (l:List Int) {r:Int} (h:1<=r):uW l r=l.getD (r-1).toNat 0:=by
 obtain⟨k,rfl⟩: ∃k:Nat,r=(k:Int)+1:=⟨(r-1).toNat,by omega⟩
 rw[IV]
 congr 1
 omega
theorem xp (n:Nat) (f:Nat->Int) (i:Nat):(ti n f).getD i 0=if i<n then f i else 0:=by
 simp only[ti,List.getD_eq_getElem?_getD,List.getElem?_map]
 split
 ·rename_i h;simp[h]
 ·rename_i h;simp[h]
theorem xq (l:List Int): ∀k i,qA l k<=i->i<k->l.getD i 0=0
 |0,i,_,h=>by omega
 |k+1,i,h1,h2=>by
  unfold qA at h1
  split at h1
  ·by_cases e:i=k
   ·subst e;assumption
   ·exact xq l k i h1 (by omega)
  ·omega
theorem Eo (l:List Int): ∀k,qA l k≠0->l.getD (qA l k-1) 0≠0
 |0,h=>by simp[qA] at h
 |k+1,h=>by
  unfold qA at h⊢
  split
  ·rename_i h0
   rw[if_pos h0] at h
   exact Eo l k h
  ·simpa
theorem rh (l:List Int) (i:Nat):(bX l).getD i 0=l.getD i 0:=by
 have h0:=rf l l.length
 unfold bX
 by_cases h:i<qA l l.length
 ·simp[List.getD_eq_getElem?_getD,h]
 ·rw[List.getD_eq_getElem?_getD,List.getElem?_eq_none (by simp;omega)]
  by_cases h2:i<l.length
  ·exact(xq l l.length i (by omega) h2).symm
  ·simp[List.getD_eq_getElem?_getD,List.getElem?_eq_none (show l.length<=i by omega)]
theorem ext_get {a b:List Int} (hl:a.length=b.length) (h: ∀i,a.getD i 0=b.getD i 0):a=b:=by
 apply List.ext_getElem hl
 intro i h1 h2
 have:=h i
 simpa [List.getD_eq_getElem?_getD,h1,h2] using this
theorem KZ {v w:List Int} (h: ∀i,v.getD i 0=w.getD i 0):bX v=bX w:=by
 have key: ∀v w:List Int,(∀i,v.getD i 0=w.getD i 0)->qA v v.length<=qA w w.length:=by
  intro v w h
  by_cases h0:qA v v.length=0
  ·omega
  ·have h1:=Eo v v.length h0
   have h2:=rf v v.length
   rw[h] at h1
   refine Classical.byContradiction fun hc=>h1 ?_
   by_cases h3:qA v v.length-1<w.length
   ·exact xq w w.length _ (by omega) h3
   ·simp[List.getD_eq_getElem?_getD,List.getElem?_eq_none (show w.length<=qA v v.length-1 by omega)]
 have e:qA v v.length=qA w w.length:=by
  have:=key v w h
  have:=key w v fun i=>(h i).symm
  omega
 refine ext_get (by simpa using e) fun i=> ?_
 rw[rh,rh,h]
theorem sq {v:List Int} {i:Nat} (h:v.length<=i):v.getD i 0=0:=by
 simp[List.getD_eq_getElem?_getD,List.getElem?_eq_none h]
end Pi
namespace Pi
open Go Go.Proofs
set_option maxRecDepth 100000
set_option maxHeartbeats 0
abbrev GW (t r i:Int):D:= .agg [.int .i64 t,.int .i64 r,.int .i64 i]
abbrev Sp (t r:Int):D:= .agg [.int .i64 t,.int .i64 r]
def BZ (t r:Int):Bool:=decide (1<=t/\t<=1099511627776/\1<=r/\r<=16)
def cC (t r i:Int):Bool:=decide (1<=t/\t<=1099511627776/\1<=r/\r<=16/\0<=i/\i<=400000)
def Z3:D:=D.bool false
def Z4 (post:P×List (Nat×En)->Prop):Prop:=post (P.d Z3,[])
def Z2 (i:Int):Bool:=decide (i>=(0:Int))
def Z1:Int:=(1099511627776:Int)
def Z0 (t:Int):Bool:=decide (t>=(1:Int))
theorem K0 (t r i:Int) (post:P×List (Nat×En)->Prop):(bif Z0 t then bif decide (t<=Z1) then bif Z0 r then bif decide (r<=(16:Int)) then bif Z2 i then post (P.d (D.bool (decide (i<=(400000:Int)))),[]) else Z4 post else Z4 post else Z4 post else Z4 post else Z4 post)=(aH [] [] 147 [.d (GW t r i)] []) post:=by kernel_rfl
theorem GX (t r i:Int) (post:P×List (Nat×En)->Prop):(bif Z0 t then bif decide (t<=Z1) then bif Z0 r then bif decide (r<=(16:Int)) then bif Z2 i then post (P.d (D.bool (decide (i<=(400000:Int)))),[]) else Z4 post else Z4 post else Z4 post else Z4 post else Z4 post)=(aH [] [] 151 [.d (GW t r i)] []) post:=by kernel_rfl
def l0:bm:=fun ps R post=> ∃t r i,ps=[.d (GW t r i)]/\R=[]/\post (.d (.bool (cC t r i)),[])
def bx (l:List Int):List D:=l.map (D.int .i64)
abbrev vD (v:List Int):P:= .d (.sl 1 (bx v))
def hAt:bm:=fun ps R post=> ∃l r,ps=[vD l,.d (.int .i64 r)]/\R=[]/\l.length<=9223372036854775807/\post (.d (.int .i64 (uW l r)),[])
def Zc (r:Int):Nat:=Int.toNat (r-(1:Int))
def Za:Int:=(9223372036854775807:Int)
def Z9:Int:=(-9223372036854775808:Int)
def Zb (r:Int):Bool:=decide (Z9<=r-(1:Int)/\r-(1:Int)<=Za)
def Z7:D:=D.int IntKind.i64 (0:Int)
def Z8 (post:P×List (Nat×En)->Prop):Prop:=post (P.d Z7,[])
def Z6 (r:Int):Bool:=decide (r<(1:Int))
theorem qgc (es:List D) (r:Int) (post:P×List (Nat×En)->Prop):(bif Z6 r then Z8 post else bif decide (r>(↑(List.length es):Int)) then Z8 post else bif Zb r then bif decide ((0:Int)<=r-(1:Int)/\r-(1:Int)<(↑(List.length es):Int)) then bif cX PR (3:TypeId) (D.nth es (Zc r)) then post (P.d (D.int IntKind.i64 (D.ah (D.nth es (Zc r)))),[]) else False else False else False)=(aH [] [] 31 [.d (.sl 1 es),.d (.int .i64 r)] []) post:=by kernel_rfl
theorem qdC (es:List D) (r:Int) (post:P×List (Nat×En)->Prop):(bif Z6 r then Z8 post else bif decide (r>(↑(List.length es):Int)) then Z8 post else bif Zb r then bif decide ((0:Int)<=r-(1:Int)/\r-(1:Int)<(↑(List.length es):Int)) then bif cX PR (3:TypeId) (D.nth es (Zc r)) then post (P.d (D.int IntKind.i64 (D.ah (D.nth es (Zc r)))),[]) else False else False else False)=(aH [] [] 13 [.d (.sl 1 es),.d (.int .i64 r)] []) post:=by kernel_rfl
end Pi
namespace Pi
open Go Go.Proofs
set_option maxRecDepth 100000
variable {X:XF}
theorem OC {post:P×List (Nat×En)->Prop} {k:IntKind} {a b:Int} {R:List (Nat×En)} (hp:post (P.d (D.int k a),R)) (h:a=b):post (P.d (D.int k b),R):=h▸hp
theorem fy {post:P×List (Nat×En)->Prop} {a b:Bool} {R:List (Nat×En)} (hp:post (P.d (D.bool a),R)) (h:a=b):post (P.d (D.bool b),R):=h▸hp
theorem K1:FD X 147 l0:=FD.mk (H:=[]) (by kernel_rfl) .nil .nil (by
 intro ps R post hh
 obtain⟨t,r,i,rfl,rfl,hp⟩:=hh
 (rw[<-K0];delta Z3 Z4 Z2 Z1 Z0)
 repeat' (first |refine aw (fun _=> ?_) (fun _=> ?_))
 all_goals exact fy hp (by simp only[decide_eq_true_eq,decide_eq_false_iff_not,decide_eq_decide,cC] at*;omega))
theorem ri:FD X 151 l0:=FD.mk (H:=[]) (by kernel_rfl) .nil .nil (by
 intro ps R post hh
 obtain⟨t,r,i,rfl,rfl,hp⟩:=hh
 (rw[<-GX];delta Z3 Z4 Z2 Z1 Z0)
 repeat' (first |refine aw (fun _=> ?_) (fun _=> ?_))
 all_goals exact fy hp (by simp only[decide_eq_true_eq,decide_eq_false_iff_not,decide_eq_decide,cC] at*;omega))
@[simp] theorem dS (l:List Int):(bx l).length=l.length:=by simp[bx]
theorem ku {l:List Int} {i:Nat} (h:i<l.length):D.nth (bx l) i= .int .i64 (l.getD i 0):=by
 simp[D.nth,bx,h]
theorem GY (n:Int):cX PR 3 (.int .i64 n)=true:=by kernel_rfl
theorem OD {post:P×List (Nat×En)->Prop} {l:List Int} {r:Int} (hl:l.length<=9223372036854775807) (hp:post (.d (.int .i64 (uW l r)),[])):
  bif decide (r<1) then post (.d (.int .i64 0),[]) else bif decide (r>(l.length:Int)) then post (.d (.int .i64 0),[]) else
   bif decide (-9223372036854775808<=r-1/\r-1<=9223372036854775807) then bif decide (0<=r-1/\r-1<(l.length:Int)) then bif cX PR 3 (D.nth (bx l) (r-1).toNat) then post (.d (.int .i64 (D.nth (bx l) (r-1).toNat).ah),[]) else False else False else False:=by
 refine aw (fun h=> ?_) fun h=>aw (fun h'=> ?_) fun h'=> ?_
 ·exact OC hp (by simp only[decide_eq_true_eq] at h;simp[uW,h])
 ·exact OC hp (by simp only[decide_eq_true_eq] at h';simp[uW,h'])
 ·simp only[decide_eq_false_iff_not] at h h'
  have bk:(r-1).toNat<l.length:=by omega
  rw[ku bk]
  refine aq (by simp;omega) (aq (by simp;omega) (aq (GY _) ?_))
  exact OC hp (by rw[uW,if_neg (by omega)];rfl)
theorem qgd:FD X 31 hAt:=FD.mk (H:=[]) (by kernel_rfl) .nil .nil (by
 intro ps R post hh
 obtain⟨l,r,rfl,rfl,hl,hp⟩:=hh
 (rw[<-qgc];delta Zc Za Z9 Zb Z7 Z8 Z6)
 simp only[dS]
 exact OD hl hp)
theorem Xh:FD X 13 hAt:=FD.mk (H:=[]) (by kernel_rfl) .nil .nil (by
 intro ps R post hh
 obtain⟨l,r,rfl,rfl,hl,hp⟩:=hh
 (rw[<-qdC];delta Zc Za Z9 Zb Z7 Z8 Z6)
 simp only[dS]
 exact OD hl hp)
end Pi
namespace Pi
open Go Go.Proofs
set_option maxRecDepth 100000
set_option maxHeartbeats 0
abbrev iD (n:Int):P:= .d (.int .i64 n)
abbrev qao (v w:List Int) (k:Int):S:=⟨26,[(0,vD v),(1,vD w),(5,iD k)],[]⟩
abbrev T3 (v:List Int):S:=⟨21,[(0,vD v)],[]⟩
abbrev qap (v:List Int) (k:Int):S:=⟨21,[(0,vD v),(3,iD k)],[]⟩
abbrev qdD (v o:List Int) (r n:Int) (m:Nat) (k:Int):S:=⟨39,[(0,vD v),(1,iD r),(2,iD n),(8,P.sl 0 0 m),(9,iD k)],[(0,⟨0,none,.arr 3 false (bx o)⟩)]⟩
abbrev qaq (v:List Int) (n k:Int):S:=⟨25,[(0,vD v),(5,vD v),(6,iD n),(7,iD k)],[]⟩
abbrev qar (v:List Int) (k:Int):S:=⟨24,[(0,vD v),(3,iD k)],[]⟩
def Zm (k:Int):D:=D.int IntKind.i64 (k+(1:Int))
def Zn (k:Int):List (Nat×P):=[(5,P.d (Zm k))]
def Zk (v:List Int):P:=P.d (D.sl 1 (bx v))
def Zl (v:List Int):Nat×P:=(0,Zk v)
def Zj (k:Int):Bool:=decide (Z9<=k+(1:Int)/\k+(1:Int)<=Za)
def Zi:List (Nat×P):=[(4,P.d Z3)]
def Zg (k:Int):Nat:=Int.toNat k
noncomputable def Zh (v:List Int) (k:Int):Bool:=cX PR (3:TypeId) (D.nth (bx v) (Zg k))
def Ze (v:List Int):Int:=(↑(List.length (bx v)):Int)
def Zf (k:Int) (v:List Int):Bool:=decide ((0:Int)<=k/\k<Ze v)
theorem qas (v w:List Int) (k:Int) (post:PX×S->Prop):(bif decide (k<Ze v) then bif Zf k v then bif Zh v k then bif Zf k w then bif Zh w k then bif D.ah (D.nth (bx v) (Zg k)) !=D.ah (D.nth (bx w) (Zg k)) then post (PX.ret,S.mk 26 Zi []) else bif Zj k then post (PX.normal,S.mk 26 (Zl v::(1,Zk w)::Zn k) []) else False else False else False else False else False else post (PX.exit 0,S.mk 26 [] []))=(aF [] [] 26 4 (qao v w k)) post:=by kernel_rfl
def Zp (post:PX×S->Prop) (v:List Int):Prop:=post (PX.exit 0,S.mk 21 [Zl v] [])
def Zo (v:List Int):Bool:=decide (Z9<=Ze v-(1:Int)/\Ze v-(1:Int)<=Za)
theorem qat (v:List Int) (post:PX×S->Prop):(bif decide (Ze v>(0:Int)) then bif Zo v then bif decide ((0:Int)<=Ze v-(1:Int)/\Ze v-(1:Int)<Ze v) then bif cX PR (3:TypeId) (D.nth (bx v) (Int.toNat (Ze v-(1:Int)))) then bif D.ah (D.nth (bx v) (Int.toNat (Ze v-(1:Int))))==(0:Int) then bif Zo v then bif decide ((0:Int)<=Ze v-(1:Int)/\Ze v-(1:Int)<=Ze v) then post (PX.normal,S.mk 21 [(0,P.d (D.sl 1 (List.drop 0 (List.take (Int.toNat (Ze v-(1:Int))) (bx v)))))] []) else False else False else Zp post v else False else False else False else Zp post v)=(aF [] [] 74 1 (T3 v)) post:=by kernel_rfl
def Zs (k:Int):D:=D.int IntKind.i64 k
def Zt (v:List Int) (k:Int):S:=S.mk 21 [Zl v,(3,P.d (Zs k))] []
def Zr (k:Int):P:=P.d (D.int IntKind.i64 (k-(1:Int)))
def Zq (k:Int):Bool:=decide (k>(0:Int))
theorem qau (v:List Int) (k:Int) (post:PX×S->Prop):(bif Zq k then bif Zb k then bif decide ((0:Int)<=k-(1:Int)/\k-(1:Int)<Ze v) then bif cX PR (3:TypeId) (D.nth (bx v) (Zc k)) then bif D.ah (D.nth (bx v) (Zc k))==(0:Int) then bif Zb k then post (PX.normal,S.mk 21 [Zl v,(3,Zr k)] []) else False else post (PX.exit 0,Zt v k) else False else False else False else post (PX.exit 0,Zt v k))=(aF [] [] 75 2 (qap v k)) post:=by kernel_rfl
def ZB (o:List Int):List (Nat×En):=[(0,En.mk 0 none (Obj.arr (3:TypeId) false (bx o)))]
def Zz (m:Nat):P:=P.sl 0 0 m
def ZA (m:Nat):Nat×P:=(5,Zz m)
def Zy (k:Int):List (Nat×P):=[(6,P.d (Zm k))]
def Zx:Nat:=9223372036854775807
def Zw:Prop:=EqR [] []
def Zu (k:Int):List P:=[P.d (Zs k)]
def Zv (v:List Int) (k:Int) (l:List Int) (r:Int):Prop:=Zk v::Zu k=Zk l::Zu r
def ZF (k:Int):List (Nat×P):=[(9,P.d (Zm k))]
def ZE (n:Int):Nat×P:=(2,P.d (Zs n))
def ZD (r:Int):Nat×P:=(1,P.d (Zs r))
def ZC (n:Int):List D:=[Zs n]
theorem qav (v o:List Int) (r n:Int) (m:Nat) (k:Int) (post:PX×S->Prop):(bif decide (k<=max (Ze v) r) then bif k==r then bif Nat.ble m (List.length (bx o))&&aT (m+List.length (ZC n)) 8 then bif Zj k then post (PX.normal,S.mk 39 (Zl v::ZD r::ZE n::(8,P.sl 0 0 (m+List.length (ZC n)))::ZF k) [(0,En.mk 0 none (Obj.arr (3:TypeId) false (List.take m (bx o)++ZC n)))]) else False else False else∃(l:List Int) (cA:Int),Zv v k l cA/\Zw/\List.length l<=Zx/\bif Nat.ble m (List.length (bx o))&&aT (m+List.length [D.int IntKind.i64 (uW l cA)]) 8 then bif Zj k then post (PX.normal,S.mk 39 (Zl v::ZD r::ZE n::(8,P.sl 0 0 (m+List.length [D.int IntKind.i64 (uW l cA)]))::ZF k) [(0,En.mk 0 none (Obj.arr (3:TypeId) false (List.take m (bx o)++[D.int IntKind.i64 (uW l cA)])))]) else False else False else post (PX.exit 0,S.mk 39 [(8,Zz m)] (ZB o)))=(aF [(13,hAt)] [] 46 5 (qdD v o r n m k)) post:=by kernel_rfl
def ZJ (k:Int):List (Nat×P):=[(7,P.d (Zm k))]
def ZI (n:Int):Nat×P:=(6,P.d (Zs n))
def ZH:List (Nat×P):=[(2,P.d Z3)]
def ZG (k:Int) (n:Int):Bool:=decide (k<n)
theorem qaw (v:List Int) (n k:Int) (post:PX×S->Prop):(bif ZG k n then bif Zf k v then bif Zh v k then bif decide (D.ah (D.nth (bx v) (Zg k))<(0:Int)) then post (PX.ret,S.mk 25 (Zl v::ZH) []) else bif Zj k then post (PX.normal,S.mk 25 (Zl v::(5,Zk v)::ZI n::ZJ k) []) else False else False else False else post (PX.exit 0,S.mk 25 [Zl v] []))=(aF [] [] 108 2 (qaq v n k)) post:=by kernel_rfl
def ZK (k:Int):List (Nat×P):=[(3,P.d (Zm k))]
theorem qax (v:List Int) (k:Int) (post:PX×S->Prop):(bif decide (k<Ze v) then bif Zf k v then bif Zh v k then bif decide (D.ah (D.nth (bx v) (Zg k))<(0:Int)) then post (PX.ret,S.mk 24 (Zl v::ZH) []) else bif Zj k then post (PX.normal,S.mk 24 (Zl v::ZK k) []) else False else False else False else post (PX.exit 0,S.mk 24 [Zl v] []))=(aF [] [] 105 2 (qar v k)) post:=by kernel_rfl
end Pi
namespace Pi
open Go Go.Proofs
set_option maxRecDepth 100000
variable {X:XF}
theorem pZ {k:Int} (h0: -9223372036854775808<=k) (h1:k<9223372036854775807):decide ((-9223372036854775808:Int)<=k+(1:Int)/\k+(1:Int)<=(9223372036854775807:Int))=true:=by simp;omega
theorem kx {p:Prop} [Decidable p] (h:p):decide p=true:=by simpa using h
theorem ky {p:Prop} [Decidable p] (h: ¬p):decide p=false:=by simpa using h
theorem bb {p:Prop} [Decidable p] {A B:Prop} (h1:p->A) (h2: ¬p->B):cond (decide p) A B:=aw (fun h=>h1 (by simpa using h)) (fun h=>h2 (by simpa using h))
theorem bp {p:Prop} [Decidable p] {A:Prop} (h1:p) (h2:A):cond (decide p) A False:=aq (by simpa using h1) h2
theorem gK {a b:Int} {A B:Prop} (h1:a=b->A) (h2:a≠b->B):cond (a==b) A B:=aw (fun h=>h1 (by simpa using h)) (fun h=>h2 (by simpa using h))
theorem xr {a b:Int} {A B:Prop} (h1:a≠b->A) (h2:a=b->B):cond (a !=b) A B:=aw (fun h=>h1 (by simpa using h)) (fun h=>h2 (by simpa using h))
theorem Al {o:List Int} {m:Nat} (h:m=o.length) (x:Int):List.take m (bx o)++[D.int .i64 x]=bx (o++[x]):=by
 subst h
 rw[List.take_of_length_le (by simp)]
 simp[bx]
theorem qdE {m n b:Nat} (h:(m+n)*b<=140737488355328) (h2:m+n<=9223372036854775807) (l:List D) (hm:m<=l.length):(Nat.ble m l.length&&aT (m+n) b)=true:=by
 simp[hm,jF h h2]
abbrev mq (v:List Int):Prop:=v.length<=1000000
def qay:S->K (PX×S):=fun s post=> ∃v w,s=qao v w 0/\(v.length=w.length/\mq v)/\(v≠w->post (.ret,⟨26,[(4,.d (.bool false))],[]⟩))/\(v=w->post (.exit 0,⟨26,[],[]⟩))
theorem T4:LD X 26 4 (ae (aK 26 4) qay):=LD.par (H:=[]) (hk:=[]) (by kernel_rfl) (by kernel_rfl) .nil .nil
 (A:=List Int×List Int) (B:=Int) (fun a k=>qao a.1 a.2 k)
 (fun a k=>(a.1.length=a.2.length/\mq a.1)/\0<=k/\k<=a.1.length/\ ∀i:Nat,(i:Int)<k->a.1.getD i 0=a.2.getD i 0)
 (fun a k=>(a.1.length-k).toNat)
 (fun a x=>(a.1≠a.2/\x=(.ret,⟨26,[(4,.d (.bool false))],[]⟩))\/(a.1=a.2/\x=(.exit 0,⟨26,[],[]⟩)))
 (by
  rintro⟨v,w⟩ k ⟨⟨hl,hs⟩,h0,h1,he⟩
  dsimp only at*
  (rw[<-qas];delta Zm Zn Zk Zl Za Z9 Zj Z3 Zi Zg Zh Ze Zf)
  simp only[dS]
  unfold mq at hs
  refine bb (fun h=> ?_) fun h=> ?_
  ·rw[ku (by omega),ku (by omega)]
   refine bp (by omega) (aq (GY _) (bp (by omega) (aq (GY _) (xr (fun h'=> ?_) fun h'=>aq (pZ (by omega) (by omega)) ?_))))
   ·exact .inl ⟨fun e=>h' (by rw[e]),rfl⟩
   ·exact⟨_,by omega,k+1,rfl,⟨⟨hl,hs⟩,by omega,by omega,fun i hi=>by
     by_cases e:(i:Int)=k
     ·have:i=k.toNat:=by omega
      rw[this];exact h'
     ·exact he i (by omega)⟩,rfl⟩
  ·exact .inr ⟨ext_get hl fun i=>by
    by_cases hi:(i:Int)<k
    ·exact he i hi
    ·rw[sq (by omega),sq (by omega)],rfl⟩)
 (by
  rintro s post ⟨v,w,rfl,h1,h2,h3⟩
  refine⟨(v,w),0,rfl,⟨h1,by omega,by omega,fun i hi=>by omega⟩,?_⟩
  rintro x (⟨h,rfl⟩| ⟨h,rfl⟩)
  ·exact h2 h
  ·exact h3 h)
theorem K2 (v:List Int) (n:Nat):(bx v).take n=bx (v.take n):=by simp[bx]
def qaz:S->K (PX×S):=fun s post=> ∃v,s=T3 v/\mq v/\post (.exit 0,⟨21,[(0,vD (bX v))],[]⟩)
theorem T5:LD X 74 1 (ae (aK 74 1) qaz):=LD.par (H:=[]) (hk:=[]) (by kernel_rfl) (by kernel_rfl) .nil .nil
 (A:=List Int) (B:=Nat) (fun a k=>T3 (a.take k))
 (fun a k=>mq a/\k<=a.length/\qA a k=qA a a.length)
 (fun a k=>k)
 (fun a x=>x=(.exit 0,⟨21,[(0,vD (bX a))],[]⟩))
 (by
  rintro v k ⟨hs,h1,he⟩
  (rw[<-qat];delta Zk Zl Zp Za Ze Z9 Zo)
  have hlen:(v.take k).length=k:=by simp;omega
  unfold mq at hs
  simp only[dS,hlen]
  refine bb (fun h=> ?_) fun h=> ?_
  ·have hk:((k:Int)-1).toNat=k-1:=by omega
   have hg:(v.take k).getD (k-1) 0=v.getD (k-1) 0:=by simp[List.getD_eq_getElem?_getD,show k-1<k by omega]
   obtain⟨j,rfl⟩: ∃j,k=j+1:=⟨k-1,by omega⟩
   simp only[hk]
   rw[ku (by omega),hg]
   simp only[Nat.add_sub_cancel] at*
   refine bp (by omega) (bp (by omega) (aq (GY _) (gK (fun h'=> ?_) fun h'=> ?_)))
   ·replace h':v.getD j 0=0:=h'
    refine bp (by omega) (bp (by omega) ?_)
    refine⟨_,Nat.lt_succ_self j,j,?_,⟨hs,by omega,by rw[<-he,qA,if_pos h']⟩,rfl⟩
    simp[T3,bx,List.take_take]
   ·replace h':v.getD j 0≠0:=h'
    have:bX v=v.take (j+1):=by rw[bX,<-he,qA,if_neg h']
    show _=_
    rw[this]
  ·have:k=0:=by omega
   subst this
   have:bX v=v.take 0:=by rw[bX,<-he];rfl
   show _=_
   rw[this])
 (by
  rintro s post ⟨v,rfl,h1,h2⟩
  refine⟨v,v.length,by rw[List.take_length],⟨h1,Nat.le_refl _,rfl⟩,?_⟩
  rintro x rfl
  exact h2)
def qaA:S->K (PX×S):=fun s post=> ∃v n,s=qap v n/\(n=(v.length:Int)/\mq v)/\post (.exit 0,⟨21,[(0,vD v),(3,iD (qA v v.length))],[]⟩)
theorem T6:LD X 75 2 (ae (aK 75 2) qaA):=LD.par (H:=[]) (hk:=[]) (by kernel_rfl) (by kernel_rfl) .nil .nil
 (A:=List Int) (B:=Int) (fun a k=>qap a k)
 (fun a k=>mq a/\0<=k/\k<=a.length/\qA a k.toNat=qA a a.length)
 (fun a k=>k.toNat)
 (fun a x=>x=(.exit 0,⟨21,[(0,vD a),(3,iD (qA a a.length))],[]⟩))
 (by
  rintro v k ⟨hs,h0,h1,he⟩
  (rw[<-qau];delta Zs Zk Zl Zt Zr Zc Ze Za Z9 Zb Zq)
  unfold mq at hs
  simp only[dS]
  refine bb (fun h=> ?_) fun h=> ?_
  ·have hj:k.toNat=(k-1).toNat+1:=by omega
   rw[ku (by omega)]
   refine bp (by omega) (bp (by omega) (aq (GY _) (gK (fun h'=> ?_) fun h'=> ?_)))
   ·replace h':v.getD (k-1).toNat 0=0:=h'
    refine bp (by omega) ⟨_,by omega,k-1,rfl,⟨hs,by omega,by omega,by rw[<-he,hj,qA,if_pos h']⟩,rfl⟩
   ·replace h':v.getD (k-1).toNat 0≠0:=h'
    rw[hj,qA,if_neg h'] at he
    show _=_
    rw[<-he]
    simp
    omega
  ·have:k=0:=by omega
   subst this
   show _=_
   rw[<-he]
   rfl)
 (by
  rintro s post ⟨v,n,rfl,⟨hn,h1⟩,h2⟩
  refine⟨v,n,rfl,⟨h1,by omega,by omega,by rw[hn];rfl⟩,?_⟩
  rintro x rfl
  exact h2)
variable {X:XF}
def OE (f:Nat->Int) (k:Nat) (o:List Int):Prop:= ∀i,i<k->o.getD i 0=f i
theorem OE.set {f:Nat->Int} {k:Nat} {o:List Int} (h:OE f k o) (hk:k<o.length):OE f (k+1) (o.set k (f k)):=fun i hi=>by
 by_cases e:i=k
 ·subst e;simp[List.getD_eq_getElem?_getD,hk]
 ·have:=h i (by omega)
  simpa [List.getD_eq_getElem?_getD,List.getElem?_set,Ne.symm e] using this
theorem OE.all {f:Nat->Int} {o:List Int} (h:OE f o.length o):o=ti o.length f:=ext_get (by simp) fun i=>by
 rw[xp]
 split
 ·exact h i (by assumption)
 ·exact sq (by omega)
theorem K3 (n:Nat) (f:Nat->Int):ti (n+1) f=ti n f++[f n]:=by simp[ti,List.range_succ]
theorem qdF {m:Nat} (h:m<=1000000) (x:D):aT (m+List.length [x]) 8=true:=jF (by simp;omega) (by simp;omega)
theorem T7 {f id n t:Nat} {H:List (FuncId×bm)} (hH:HD X H) (hu:uniq PR f=true) (hc:bW (pI f) (bt PR f id)=true)
  {A:Type} (hd:A->List Int->Nat->Int->S) (Pre:A->Prop) (len:A->Nat) (F:A->Nat->Int)
  (hvc: ∀(a:A) (o:List Int) (m:Nat) (k:Int),Pre a->len a<=1000000->1<=k->k<=len a+1->m=o.length->(m:Int)+1=k-> ∀post,(k<=len a->post (.normal,hd a (o++[F a m]) (m+1) (k+1)))->(¬k<=len a->post (.exit 0,⟨n,[(t,P.sl 0 0 m)],[(0,⟨0,none,.arr 3 false (bx o)⟩)]⟩))->aF H [] f id (hd a o m k) post)
  {g:S->K (PX×S)} (hg: ∀s post,g s post-> ∃a,s=hd a [] 0 1/\Pre a/\len a<=1000000/\post (.exit 0,⟨n,[(t,P.sl 0 0 (len a))],[(0,⟨0,none,.arr 3 false (bx (ti (len a) (F a)))⟩)]⟩)):
  LD X f id (ae (aK f id) g):=LD.par (H:=H) (hk:=[]) hu hc hH .nil
 (A:=A) (B:=List Int×Nat×Int) (fun a b=>hd a b.1 b.2.1 b.2.2)
 (fun a b=>Pre a/\len a<=1000000/\b.2.1<=len a/\b.1=ti b.2.1 (F a)/\b.2.2=b.2.1+1)
 (fun a b=>len a+1-b.2.1)
 (fun a x=>x=(.exit 0,⟨n,[(t,P.sl 0 0 (len a))],[(0,⟨0,none,.arr 3 false (bx (ti (len a) (F a)))⟩)]⟩))
 (by
  rintro a ⟨o,m,k⟩ ⟨hp,hl,hm,ho,hk⟩
  dsimp only at*
  refine hvc a o m k hp hl (by omega) (by omega) (by rw[ho];simp) (by omega) _ (fun h=> ?_) fun h=> ?_
  ·exact⟨_,by dsimp only;omega,(o++[F a m],m+1,k+1),rfl,⟨hp,hl,by dsimp only;omega,by rw[ho,K3],by dsimp only;omega⟩,rfl⟩
  ·have:m=len a:=by omega
   subst this
   subst ho
   rfl)
 (by
  intro s post hs
  obtain⟨a,rfl,h1,h2,h3⟩:=hg s post hs
  refine⟨a,([],0,1),rfl,⟨h1,h2,Nat.zero_le _,rfl,rfl⟩,?_⟩
  rintro x rfl
  exact h3)
def qaB:S->K (PX×S):=fun s post=> ∃v r n es,s=⟨39,[(0,vD v),(1,iD r),(2,iD n),(8,P.sl 0 0 0),(9,iD 1)],[(0,⟨0,none,.arr 3 false es⟩)]⟩/\(es=[]/\mq v/\1<=r/\r<=16)/\
 post (.exit 0,⟨39,[(8,P.sl 0 0 (max v.length r.toNat))],[(0,⟨0,none,.arr 3 false (bx (oT v r n))⟩)]⟩)
theorem T8:LD X 46 5 (ae (aK 46 5) qaB):=T7 (H:=[(13,hAt)]) (.cons Xh .nil) (by kernel_rfl) (by kernel_rfl)
 (A:=List Int×Int×Int) (fun a o m k=>qdD a.1 o a.2.1 a.2.2 m k) (fun a=>mq a.1/\1<=a.2.1/\a.2.1<=16) (fun a=>max a.1.length a.2.1.toNat) (fun a i=>if(i:Int)+1=a.2.1 then a.2.2 else uW a.1 (i+1))
 (by
  rintro⟨v,r,n⟩ o m k ⟨hv,sN,hr1⟩ hl h1 h2 hm hk post p1 p2
  dsimp only at*
  unfold mq at hv
  (rw[<-qav];delta ZB Zz Zx Zw Zs Zu Zk Zv Zm ZF ZE ZD Zl Za Z9 Zj ZC Ze)
  simp only[dS]
  have nH: ∀x:D,(Nat.ble m (bx o).length&&aT (m+List.length [x]) 8)=true:=fun x=>by rw[qdF (by omega)];simp;omega
  simp only[dS] at nH
  refine bb (fun h=> ?_) fun h=>p2 (by omega)
  have:=p1 (by omega)
  rw[hk] at this
  refine gK (fun h'=> ?_) fun h'=> ?_
  ·rw[if_pos h'] at this
   refine aq (nH _) (aq (pZ (by omega) (by omega)) ?_)
   rw[Al hm]
   exact this
  ·rw[if_neg h'] at this
   refine⟨v,k,rfl,rfl,by omega,aq (nH _) (aq (pZ (by omega) (by omega)) ?_)⟩
   rw[Al hm]
   exact this)
 (by
  rintro s post ⟨v,r,n,es,rfl,⟨rfl,hv,h1,h2⟩,hp⟩
  refine⟨(v,r,n),rfl,⟨hv,h1,h2⟩,by unfold mq at hv;dsimp only;omega,hp⟩)
end Pi
namespace Pi
open Go Go.Proofs
set_option maxRecDepth 100000
set_option maxHeartbeats 0
def qaC:S->K (PX×S):=fun s post=> ∃v n,s=qaq v n 0/\(n=v.length/\mq v)/\(¬(∀x∈v,0<=x)->post (.ret,⟨25,[(0,vD v),(2,.d (.bool false))],[]⟩))/\((∀x∈v,0<=x)->post (.exit 0,⟨25,[(0,vD v)],[]⟩))
def qaD:S->K (PX×S):=fun s post=> ∃v,s=qar v 0/\mq v/\(¬(∀x∈v,0<=x)->post (.ret,⟨24,[(0,vD v),(2,.d (.bool false))],[]⟩))/\((∀x∈v,0<=x)->post (.exit 0,⟨24,[(0,vD v)],[]⟩))
def xt:bm:=fun ps R post=> ∃v w,ps=[vD v,vD w]/\R=[]/\mq v/\post (.d (.bool (decide (v=w))),[])
def kz:bm:=fun ps R post=> ∃v,ps=[vD v]/\R=[]/\mq v/\post (vD (bX v),[])
def qdG:bm:=fun ps R post=> ∃v r n,ps=[vD v,iD r,iD n]/\R=[]/\mq v/\(¬(1<=r/\r<=16)->post (.da [.sl 0 0 0,iD 1],[(0,⟨0,none,.arr 3 false []⟩)]))/\((1<=r/\r<=16)->post (.da [vD (bX (oT v r n)),iD 0],[]))
def qdH:bm:=fun ps R post=> ∃v,ps=[vD v]/\R=[]/\mq v/\post (.d (.bool (ux v)),[])
def ZM:P:=P.d (D.bool true)
def ZN (post:P×List (Nat×En)->Prop):Prop:=post (ZM,[])
def ZL:List (Nat×P):=[(5,P.d Z7)]
theorem qdI (v w:List Int) (post:P×List (Nat×En)->Prop):(bif Ze v !=Ze w then Z4 post else∃(cV:List Int) (w_1:List Int),S.mk 26 (Zl v::(1,Zk w)::ZL) []=S.mk 26 (Zl cV::(1,Zk w_1)::ZL) []/\(List.length cV=List.length w_1/\mq cV)/\(cV≠w_1->Z4 post)/\(cV=w_1->ZN post))=(aH [] [(4,ae (aK 26 4) qay)] 26 [vD v,vD w] []) post:=by kernel_rfl
theorem qdJ (v:List Int) (post:P×List (Nat×En)->Prop):(∃(cV:List Int),S.mk 21 [(0,P.d (D.sl 1 (bx v)))] []=S.mk 21 [(0,P.d (D.sl 1 (bx cV)))] []/\mq cV/\post (P.d (D.sl 1 (bx (bX cV))),[]))=(aH [] [(1,ae (aK 74 1) qaz)] 74 [vD v] []) post:=by kernel_rfl
theorem T9 (v:List Int) (post:P×List (Nat×En)->Prop):(∃(cV:List Int),[P.d (D.sl 1 (bx v))]=[P.d (D.sl 1 (bx cV))]/\EqR [] []/\mq cV/\post (P.d (D.sl 1 (bx (bX cV))),[]))=(aH [(74,kz)] [] 45 [vD v] []) post:=by kernel_rfl
theorem qdK (v:List Int) (post:P×List (Nat×En)->Prop):(∃(cV:List Int) (n:Int),S.mk 21 [Zl v,(3,P.d (D.int IntKind.i64 (Ze v)))] []=Zt cV n/\(n=(↑(List.length cV):Int)/\mq cV)/\bif decide ((0:Int)<=(↑(qA cV (List.length cV)):Int)/\(↑(qA cV (List.length cV)):Int)<=Ze cV) then post (P.d (D.sl 1 (List.drop 0 (List.take (qA cV (List.length cV)) (bx cV)))),[]) else False)=(aH [] [(2,ae (aK 75 2) qaA)] 75 [vD v] []) post:=by kernel_rfl
def ZU (v:List Int):List P:=[Zk v]
def ZT (es:List D):List (Nat×En):=[(0,En.mk 0 none (Obj.arr (3:TypeId) false es))]
def ZR:En:=En.mk 0 none (Obj.arr (3:TypeId) false [])
def ZS:List (Nat×En):=[(0,ZR)]
def ZP:D:=D.int IntKind.i64 (1:Int)
def ZO:P:=P.sl 0 0 0
def ZY:List P:=[P.d Z7]
def ZX (v:List Int) (r:Int) (n:Int):List (Nat×P):=[Zl v,ZD r,ZE n,(8,ZO),(9,P.d ZP)]
def ZW (r:Int):Bool:=decide (r>(16:Int))
def ZV:List P:=[P.d ZP]
theorem Ua (v:List Int) (r n:Int) (post:P×List (Nat×En)->Prop):(bif Z6 r then post (P.da (ZO::ZV),ZS) else bif ZW r then post (P.da (ZO::ZV),ZS) else∃(cV:List Int) (cA:Int) (cj:Int) (es:List D),S.mk 39 (ZX v r n) ZS=S.mk 39 (ZX cV cA cj) (ZT es)/\(es=[]/\mq cV/\(1:Int)<=cA/\cA<=(16:Int))/\ ∃(v:List Int),[P.d (D.sl 1 (List.take (max (List.length cV) (Zg cA)) (bx (oT cV cA cj))))]=ZU v/\Zw/\mq v/\post (P.da (P.d (D.sl 1 (bx (bX v)))::ZY),[]))=(aH [(75,kz)] [(5,ae (aK 46 5) qaB)] 46 [vD v,iD r,iD n] []) post:=by kernel_rfl
def Z10 (cV:List Int):Prop:= ∀(x:Int),x∈cV->(0:Int)<=x
def ZZ:List (Nat×P):=[(7,P.d Z7)]
theorem qdL (v:List Int) (post:P×List (Nat×En)->Prop):(∃(cV:List Int) (n:Int),S.mk 25 (Zl v::(5,Zk v)::(6,P.d (D.int IntKind.i64 (Ze v)))::ZZ) []=S.mk 25 (Zl cV::(5,Zk cV)::ZI n::ZZ) []/\(n=(↑(List.length cV):Int)/\mq cV)/\(¬Z10 cV->Z4 post)/\(Z10 cV->bif decide (Ze cV<=(16:Int)) then∃(v:List Int),ZU cV=ZU v/\Zw/\mq v/\post (P.d (D.bool ((↑(List.length (bx (bX v))):Int)==Ze cV)),[]) else Z4 post))=(aH [(45,kz)] [(2,ae (aK 108 2) qaC)] 108 [vD v] []) post:=by kernel_rfl
def Z12 (B0:List Int) (post:P×List (Nat×En)->Prop) (w:List Int):Prop:=Zw/\mq B0/\post (P.d (D.bool (decide (B0=w))),[])
def OG:List (Nat×P):=[(3,P.d Z7)]
theorem qdM (v:List Int) (post:P×List (Nat×En)->Prop):(∃(cV:List Int),S.mk 24 (Zl v::OG) []=S.mk 24 (Zl cV::OG) []/\mq cV/\(¬Z10 cV->Z4 post)/\(Z10 cV->bif decide (Ze cV<=(16:Int)) then∃(v:List Int),ZU cV=ZU v/\Zw/\mq v/\ ∃(B0:List Int) (w:List Int),[Zk cV,P.d (D.sl 1 (bx (bX v)))]=Zk B0::ZU w/\Z12 B0 post w else Z4 post))=(aH [(75,kz),(26,xt)] [(2,ae (aK 105 2) qaD)] 105 [vD v] []) post:=by kernel_rfl
end Pi
namespace Pi
open Go Go.Proofs
set_option maxRecDepth 100000
variable {X:XF}
theorem B1 (v:List Int):(∀x∈v,0<=x)↔ ∀i:Nat,i<v.length->0<=v.getD i 0:=by
 constructor
 ·intro h i hi
  have:=h v[i] (List.getElem_mem hi)
  simpa [List.getD_eq_getElem?_getD,hi] using this
 ·intro h x hx
  obtain⟨i,hi,rfl⟩:=List.getElem_of_mem hx
  have:=h i hi
  simpa [List.getD_eq_getElem?_getD,hi] using this
theorem Ub:LD X 108 2 (ae (aK 108 2) qaC):=LD.par (H:=[]) (hk:=[]) (by kernel_rfl) (by kernel_rfl) .nil .nil
 (A:=List Int×Int) (B:=Int) (fun a k=>qaq a.1 a.2 k)
 (fun a k=>(a.2=a.1.length/\mq a.1)/\0<=k/\k<=a.1.length/\ ∀i:Nat,(i:Int)<k->0<=a.1.getD i 0)
 (fun a k=>(a.1.length-k).toNat)
 (fun a x=>((¬ ∀x∈a.1,0<=x)/\x=(.ret,⟨25,[(0,vD a.1),(2,.d (.bool false))],[]⟩))\/((∀x∈a.1,0<=x)/\x=(.exit 0,⟨25,[(0,vD a.1)],[]⟩)))
 (by
  rintro⟨v,n⟩ k ⟨⟨hn,hs⟩,h0,h1,he⟩
  dsimp only at*
  subst hn
  (rw[<-qaw];delta Zm ZJ Zs ZI Zk Za Z9 Zj Z3 ZH Zl Zg Zh Ze Zf ZG)
  unfold mq at hs
  simp only[dS]
  refine bb (fun h=> ?_) fun h=> ?_
  ·rw[ku (by omega)]
   refine bp (by omega) (aq (GY _) (bb (fun h'=> ?_) fun h'=>aq (pZ (by omega) (by omega)) ?_))
   ·replace h':v.getD k.toNat 0<0:=h'
    refine .inl ⟨fun hh=> ?_,rfl⟩
    have:=(B1 v).1 hh k.toNat (by omega)
    omega
   ·replace h': ¬v.getD k.toNat 0<0:=h'
    exact⟨_,by omega,k+1,rfl,⟨⟨by simp,hs⟩,by omega,by first |omega | (dsimp only;omega),fun i hi=>by
     by_cases e:(i:Int)=k
     ·have:i=k.toNat:=by omega
      rw[this];first |omega | (dsimp only;omega)
     ·exact he i (by omega)⟩,rfl⟩
  ·exact .inr ⟨(B1 v).2 fun i hi=>he i (by omega),rfl⟩)
 (by
  rintro s post ⟨v,n,rfl,⟨hn,h1⟩,h2,h3⟩
  refine⟨(v,n),0,rfl,⟨⟨hn,h1⟩,by omega,by omega,fun i hi=>by omega⟩,?_⟩
  rintro x (⟨h,rfl⟩| ⟨h,rfl⟩)
  ·exact h2 h
  ·exact h3 h)
theorem Uc:LD X 105 2 (ae (aK 105 2) qaD):=LD.par (H:=[]) (hk:=[]) (by kernel_rfl) (by kernel_rfl) .nil .nil
 (A:=List Int) (B:=Int) (fun a k=>qar a k)
 (fun a k=>mq a/\0<=k/\k<=a.length/\ ∀i:Nat,(i:Int)<k->0<=a.getD i 0)
 (fun a k=>(a.length-k).toNat)
 (fun a x=>((¬ ∀x∈a,0<=x)/\x=(.ret,⟨24,[(0,vD a),(2,.d (.bool false))],[]⟩))\/((∀x∈a,0<=x)/\x=(.exit 0,⟨24,[(0,vD a)],[]⟩)))
 (by
  rintro v k ⟨hs,h0,h1,he⟩
  (rw[<-qax];delta Zm ZK Za Z9 Zj Z3 ZH Zk Zl Zg Zh Ze Zf)
  unfold mq at hs
  simp only[dS]
  refine bb (fun h=> ?_) fun h=> ?_
  ·rw[ku (by omega)]
   refine bp (by omega) (aq (GY _) (bb (fun h'=> ?_) fun h'=>aq (pZ (by omega) (by omega)) ?_))
   ·replace h':v.getD k.toNat 0<0:=h'
    refine .inl ⟨fun hh=> ?_,rfl⟩
    have:=(B1 v).1 hh k.toNat (by omega)
    omega
   ·replace h': ¬v.getD k.toNat 0<0:=h'
    exact⟨_,by omega,k+1,rfl,⟨hs,by omega,by omega,fun i hi=>by
     by_cases e:(i:Int)=k
     ·have:i=k.toNat:=by omega
      rw[this];omega
     ·exact he i (by omega)⟩,rfl⟩
  ·exact .inr ⟨(B1 v).2 fun i hi=>he i (by omega),rfl⟩)
 (by
  rintro s post ⟨v,rfl,h1,h2,h3⟩
  refine⟨v,0,rfl,⟨h1,by omega,by omega,fun i hi=>by omega⟩,?_⟩
  rintro x (⟨h,rfl⟩| ⟨h,rfl⟩)
  ·exact h2 h
  ·exact h3 h)
theorem GZ:FD X 26 xt:=FD.mk (H:=[]) (hk:=[(4,ae (aK 26 4) qay)]) (by kernel_rfl) .nil (.cons T4 .nil) (by
 intro ps R post hh
 obtain⟨v,w,rfl,rfl,hv,hp⟩:=hh
 (rw[<-qdI];delta ZM ZN Z7 ZL Zk Zl Z3 Z4 Ze)
 simp only[dS]
 refine xr (fun h=> ?_) fun h=>⟨v,w,rfl,⟨by omega,hv⟩,fun hn=> ?_,fun he=> ?_⟩
 ·exact fy hp (ky fun e=>h (by rw[e]))
 ·exact fy hp (ky hn)
 ·exact fy hp (kx he))
theorem qdN:FD X 74 kz:=FD.mk (H:=[]) (hk:=[(1,ae (aK 74 1) qaz)]) (by kernel_rfl) .nil (.cons T5 .nil) (by
 intro ps R post hh
 obtain⟨v,rfl,rfl,hv,hp⟩:=hh
 rw[<-qdJ]
 exact⟨v,rfl,hv,hp⟩)
theorem IW:FD X 45 kz:=FD.mk (H:=[(74,kz)]) (hk:=[]) (by kernel_rfl) (.cons qdN .nil) .nil (by
 intro ps R post hh
 obtain⟨v,rfl,rfl,hv,hp⟩:=hh
 rw[<-T9]
 exact⟨v,rfl,rfl,hv,hp⟩)
theorem Xi:FD X 75 kz:=FD.mk (H:=[]) (hk:=[(2,ae (aK 75 2) qaA)]) (by kernel_rfl) .nil (.cons T6 .nil) (by
 intro ps R post hh
 obtain⟨v,rfl,rfl,hv,hp⟩:=hh
 (rw[<-qdK];delta Zs Zk Zl Zt Ze)
 simp only[dS]
 refine⟨v,_,rfl,⟨rfl,hv⟩,bp ?_ ?_⟩
 ·have:=rf v v.length;omega
 ·rw[K2];exact hp)
theorem B2 {o:List Int} {m:Nat} (h:o.length=m):(bx o).take m=bx o:=by
 rw[List.take_of_length_le (by simp[h])]
theorem qdO:FD X 108 qdH:=FD.mk (H:=[(45,kz)]) (hk:=[(2,ae (aK 108 2) qaC)]) (by kernel_rfl) (.cons IW .nil) (.cons Ub .nil) (by
 intro ps R post hh
 obtain⟨v,rfl,rfl,hv,hp⟩:=hh
 (rw[<-qdL];delta Zw Zk ZU Z3 Z4 Z10 Zs ZI Z7 ZZ Ze Zl)
 simp only[dS]
 refine⟨v,_,rfl,⟨rfl,hv⟩,fun h=>fy hp (ky fun hh=>h hh.1),fun h=>bb (fun h'=>⟨v,rfl,rfl,hv,?_⟩) fun h'=> ?_⟩
 ·refine fy hp ?_
  rw[ux,Bool.eq_iff_iff]
  simp only[decide_eq_true_eq,beq_iff_eq]
  constructor
  ·rintro⟨_,_,h3⟩;omega
  ·intro h3;exact⟨h,by omega,by omega⟩
 ·exact fy hp (ky fun hh=>h' (by omega)))
theorem qdP:FD X 105 qdH:=FD.mk (H:=[(75,kz),(26,xt)]) (hk:=[(2,ae (aK 105 2) qaD)]) (by kernel_rfl) (.cons Xi (.cons GZ .nil)) (.cons Uc .nil) (by
 intro ps R post hh
 obtain⟨v,rfl,rfl,hv,hp⟩:=hh
 (rw[<-qdM];delta Zw Z12 Zk ZU Ze Z3 Z4 Z10 Z7 OG Zl)
 simp only[dS]
 refine⟨v,rfl,hv,fun h=>fy hp (ky fun hh=>h hh.1),fun h=>bb (fun h'=>⟨v,rfl,rfl,hv,v,bX v,rfl,rfl,hv,?_⟩) fun h'=> ?_⟩
 ·refine fy hp ?_
  rw[ux,Bool.eq_iff_iff]
  simp only[decide_eq_true_eq]
  constructor
  ·rintro⟨_,_,h3⟩
   have hl:=rf v v.length
   rw[xo] at h3
   rw[bX,h3,List.take_length]
  ·intro h3;exact⟨h,by omega,by rw[<-h3]⟩
 ·exact fy hp (ky fun hh=>h' (by omega)))
theorem Ud:FD X 46 qdG:=FD.mk (H:=[(75,kz)]) (hk:=[(5,ae (aK 46 5) qaB)]) (by kernel_rfl) (.cons Xi .nil) (.cons T8 .nil) (by
 intro ps R post hh
 obtain⟨v,r,n,rfl,rfl,hv,b9,fM⟩:=hh
 (rw[<-Ua];delta Z7 ZY Zw Zk ZU Zg ZT ZP ZO Zs ZE ZD Zl ZX ZW ZR ZS ZV Z6)
 have Ga:=hv
 unfold mq at Ga
 have hl:(oT v r n).length=max v.length r.toNat:=by simp[oT]
 refine bb (fun h=>b9 (by omega)) fun h=>bb (fun h'=>b9 (by omega)) fun h'=>⟨v,r,n,_,rfl,⟨rfl,hv,by omega,by omega⟩,oT v r n,by rw[B2 hl],rfl,by unfold mq;rw[hl];omega,fM (by omega)⟩)
end Pi
namespace Pi
open Go Go.Proofs
set_option maxRecDepth 100000
set_option maxHeartbeats 0
def Am (t r i:Int):List UInt8:=Lib.itoa t++[46]++Lib.itoa r++[46]++Lib.itoa i
def kA (t r i:Int):List UInt8:=if cC t r i=true then Am t r i else []
def OH:bm:=fun ps R post=> ∃t r i,ps=[.d (GW t r i)]/\R=[]/\post (.d (.str (kA t r i)),[])
end Pi
namespace Pi
open Go Go.Proofs
set_option maxRecDepth 100000
variable {X:XF}
theorem za: ∀u:Nat,(Lib.decDigits u).length<=u+1:=by
 intro u
 induction u using Nat.strongRecOn with
 |_ u ih=>
  rw[Lib.decDigits]
  split
  ·simp
  ·have:=ih (u/10) (by omega)
   simp only[List.length_append,List.length_cons,List.length_nil]
   omega
theorem xu {n:Int} (h0:0<=n) (h1:n<=1099511627776):(Lib.itoa n).length<=1099511627777:=by
 unfold Lib.itoa
 rw[if_neg (by omega)]
 have:=za n.toNat
 omega
structure qfJ (s:List UInt8):Prop where
 len:s.length<4294967281
 cnt:(Lib.split s [46]).length=Lib.count s [46]+1
 lim:Lib.count s [46]<=4294967281
 each: ∀x∈Lib.split s [46],x.length<=281474976710656
end Pi
namespace Pi
open Go
def ni (k:Nat):UInt8:=UInt8.ofNat (48+k)
theorem tj {u:Nat} (h:u<10):Lib.decDigits u=[ni u]:=by rw[Lib.decDigits,dif_pos h];rfl
theorem IX {u:Nat} (h: ¬u<10):Lib.decDigits u=Lib.decDigits (u/10)++[ni (u%10)]:=by rw[Lib.decDigits,dif_neg h];rfl
theorem IY: ∀(k u:Nat),u<10^(k+1)->(Lib.decDigits u).length<=k+1
 |0,u,h=>by rw[tj (by simpa using h)];simp
 |k+1,u,h=>by
  by_cases hu:u<10
  ·rw[tj hu];simp
  ·rw[IX hu]
   have:=IY k (u/10) (by rw[Nat.div_lt_iff_lt_mul (by omega)];rw[Nat.pow_succ] at h;exact h)
   simp;omega
end Pi
namespace Pi
open Go Go.Proofs
set_option maxRecDepth 100000
set_option maxHeartbeats 0
abbrev sD (s:List UInt8):P:= .d (.str s)
abbrev qaE (n:Int) (s:List UInt8):S:=⟨37,[(0,iD n),(3,sD s)],[]⟩
def qaF:S->K (PX×S):=fun s post=> ∃n,s=qaE n []/\(0<=n/\n<=9223372036854775807)/\ ∀n' s',(0<=n'/\n'<=9/\s'.length<=9223372036854775807/\Lib.decDigits n.toNat=ni n'.toNat::s')->post (.exit 0,⟨37,[(0,iD n'),(3,sD s')],[]⟩)
def B3:bm:=fun ps R post=> ∃n,ps=[iD n]/\R=[]/\(0<=n/\n<=9223372036854775807)/\post (sD (Lib.itoa n),[])
def sr (s:List UInt8):Nat:=List.length s
def Z13 (n:Int):List UInt8:=[UInt8.ofNat (Int.toNat (D.ah (D.int IntKind.u8 (IntKind.wrap IntKind.u8 ((48:Int)+Int.tmod n (10:Int))))))]
theorem qaG (n:Int) (s:List UInt8) (post:PX×S->Prop):(bif decide (n>(9:Int)) then bif decide (Z9<=(48:Int)+Int.tmod n (10:Int)/\(48:Int)+Int.tmod n (10:Int)<=Za) then bif decide (List.length (Z13 n)+sr s<=Zx) then bif decide (Z9<=Int.tdiv n (10:Int)/\Int.tdiv n (10:Int)<=Za) then post (PX.normal,S.mk 37 [(0,P.d (D.int IntKind.i64 (Int.tdiv n (10:Int)))),(3,P.d (D.str (Z13 n++s)))] []) else False else False else False else post (PX.exit 0,S.mk 37 [(0,P.d (Zs n)),(3,P.d (D.str s))] []))=(aF [] [] 186 4 (qaE n s)) post:=by kernel_rfl
def Z19 (n':Int):List UInt8:=[UInt8.ofNat (Int.toNat (D.ah (D.int IntKind.u8 (IntKind.wrap IntKind.u8 ((48:Int)+n')))))]
def Z18 (cj:Int):Prop:=(0:Int)<=cj/\cj<=Za
def Fz:D:=D.str []
def Z17 (n:Int):S:=S.mk 37 [(0,P.d (Zs n)),(3,P.d Fz)] []
def K4 (n:Int):Bool:=decide (n<(0:Int))
theorem qdQ (n:Int) (post:P×List (Nat×En)->Prop):(bif K4 n then bif decide (Z9<=(0:Int)-n/\(0:Int)-n<=Za) then False else False else∃(cj:Int),Z17 n=Z17 cj/\Z18 cj/\ ∀(n':Int) (s':List UInt8),(0:Int)<=n'/\n'<=(9:Int)/\sr s'<=Zx/\Lib.decDigits (Zg cj)=ni (Zg n')::s'->bif decide (Z9<=(48:Int)+n'/\(48:Int)+n'<=Za) then bif decide (List.length (Z19 n')+sr s'<=Zx) then post (P.d (D.str (Z19 n'++s')),[]) else False else False)=(aH [(186,fun _ _ _=>False)] [(4,ae (aK 186 4) qaF)] 186 [iD n] []) post:=by kernel_rfl
def OI:List UInt8:=[(46:UInt8)]
def Z1c (n:Int) (cj:Int):List UInt8:=Lib.itoa n++OI++Lib.itoa cj++OI
def G6 (t:Int) (r:Int) (i:Int):List P:=[P.d (D.agg (Zs t::Zs r::ZC i))]
theorem Ue (t r i:Int) (post:P×List (Nat×En)->Prop):(∃(oU:Int) (cA:Int) (aJ:Int),G6 t r i=G6 oU cA aJ/\Zw/\bif !cC oU cA aJ then post (P.d Fz,[]) else∃(n:Int),Zu t=Zu n/\Zw/\Z18 n/\bif decide (List.length (Lib.itoa n)+1<=Zx) then∃(cj:Int),Zu r=Zu cj/\Zw/\Z18 cj/\bif decide (List.length (Lib.itoa n++OI)+List.length (Lib.itoa cj)<=Zx) then bif decide (List.length (Lib.itoa n++OI++Lib.itoa cj)+1<=Zx) then∃(n_2:Int),Zu i=Zu n_2/\Zw/\Z18 n_2/\bif decide (List.length (Z1c n cj)+List.length (Lib.itoa n_2)<=Zx) then post (P.d (D.str (Z1c n cj++Lib.itoa n_2)),[]) else False else False else False else False)=(aH [(186,B3),(151,l0)] [] 177 [.d (GW t r i)] []) post:=by kernel_rfl
end Pi
namespace Pi
open Go Go.Proofs
set_option maxRecDepth 100000
variable {X:XF}
theorem xv {k:Int} (h0:0<=k) (h1:k<=9):UInt8.ofNat (Int.toNat (D.ah (D.int .u8 (IntKind.wrap .u8 (48+k)))))=ni k.toNat:=by
 have:IntKind.wrap .u8 (48+k)=48+k:=IntWalk.u8_in (48+k) ⟨by omega,by omega⟩
 simp only[D.ah,this,ni]
 congr 1
 omega
theorem Uf:LD X 186 4 (ae (aK 186 4) qaF):=LD.par (H:=[]) (hk:=[]) (by kernel_rfl) (by kernel_rfl) .nil .nil
 (A:=Int) (B:=Int×List UInt8) (fun _ b=>qaE b.1 b.2)
 (fun a b=>0<=b.1/\b.1<=9223372036854775807/\b.1.toNat+b.2.length<=9223372036854775807/\Lib.decDigits a.toNat=Lib.decDigits b.1.toNat++b.2)
 (fun _ b=>b.1.toNat)
 (fun a x=> ∃n' s',(0<=n'/\n'<=9/\s'.length<=9223372036854775807/\Lib.decDigits a.toNat=ni n'.toNat::s')/\x=(.exit 0,⟨37,[(0,iD n'),(3,sD s')],[]⟩))
 (by
  rintro a ⟨n,s⟩ ⟨h0,h1,hl,he⟩
  dsimp only at*
  (rw[<-qaG];delta Zs Zx sr Z13 Za Z9)
  refine bb (fun h=> ?_) fun h=> ?_
  ·have ed:Int.tdiv n 10=((n.toNat/10:Nat):Int):=by rw[Int.tdiv_eq_ediv_of_nonneg (by omega)];omega
   have em:Int.tmod n 10=((n.toNat%10:Nat):Int):=by rw[Int.tmod_eq_emod_of_nonneg (by omega)];omega
   rw[ed,em,xv (by omega) (by omega)]
   refine bp (by omega) (bp (by simp;omega) (bp (by omega) ?_))
   refine⟨_,?_,(((n.toNat/10:Nat):Int),ni (n.toNat%10)::s),rfl,⟨by omega,by dsimp only;omega,by simp;omega,?_⟩,rfl⟩
   ·dsimp only;omega
   ·rw[he,IX (by omega: ¬n.toNat<10)]
    simp only[Int.toNat_natCast,List.append_assoc,List.singleton_append]
  ·rw[tj (u:=n.toNat) (by omega)] at he
   exact⟨n,s,⟨h0,by omega,by omega,he⟩,rfl⟩)
 (by
  rintro s post ⟨n,rfl,⟨h1,h2⟩,h3⟩
  refine⟨n,(n,[]),rfl,⟨h1,h2,by simp;omega,by simp⟩,?_⟩
  rintro x ⟨n',s',h,rfl⟩
  exact h3 n' s' h)
theorem ga {n:Int} (h0:0<=n) (h1:n<=9223372036854775807):(Lib.itoa n).length<=21:=by
 have h:=IY 20 n.toNat (by
  have:(10:Nat)^21=1000000000000000000000:=by decide
  omega)
 unfold Lib.itoa
 rw[if_neg (by omega)]
 exact h
theorem OJ:FD X 186 B3:=FD.mk (H:=[(186,fun _ _ _=>False)]) (hk:=[(4,ae (aK 186 4) qaF)]) (by kernel_rfl) (.cons (fun _ _ _ h=>h.elim) .nil) (.cons Uf .nil) (by
 intro ps R post hh
 obtain⟨n,rfl,rfl,⟨h0,h1⟩,hp⟩:=hh
 (rw[<-qdQ];delta Z19 Zg Zx sr Za Z18 Fz Zs Z17 Z9 K4)
 refine bb (fun h=>by omega) fun h=>⟨n,rfl,⟨h0,h1⟩,?_⟩
 rintro n' s' ⟨a0,a1,a2,a3⟩
 have hs:Lib.itoa n=ni n'.toNat::s':=by rw[<-a3];unfold Lib.itoa;rw[if_neg (by omega)]
 rw[xv a0 a1]
 have hl:(Lib.itoa n).length<=21:=ga h0 h1
 rw[hs] at hl hp
 simp at hl
 exact bp (by omega) (bp (by simp;omega) hp))
theorem Ug:FD X 177 OH:=FD.mk (H:=[(186,B3),(151,l0)]) (hk:=[]) (by kernel_rfl) (.cons OJ (.cons ri .nil)) .nil (by
 intro ps R post hh
 obtain⟨t,r,i,rfl,rfl,hp⟩:=hh
 (rw[<-Ue];delta OI Z1c Zx Za Z18 Zs Zu Fz Zw ZC G6)
 refine⟨_,_,_,rfl,rfl,aw (fun h=> ?_) fun h=> ?_⟩
 ·have h:cC t r i=false:=by simpa using h
  rw[kA,if_neg (by simp[h])] at hp
  exact hp
 ·have h:cC t r i=true:=by simpa using h
  rw[kA,if_pos h] at hp
  simp only[cC,decide_eq_true_eq] at h
  have l1:=xu (n:=t) (by omega) (by omega)
  have l2:=xu (n:=r) (by omega) (by omega)
  have l3:=xu (n:=i) (by omega) (by omega)
  exact⟨_,rfl,rfl,⟨by omega,by omega⟩,aq (by simp;omega) ⟨_,rfl,rfl,⟨by omega,by omega⟩,aq (by simp;omega) (aq (by simp;omega) ⟨_,rfl,rfl,⟨by omega,by omega⟩,aq (by simp;omega) hp⟩)⟩⟩)
end Pi
namespace Pi
open Go
def G7:List UInt8:=[48,49,50,51,52,53,54,55,56,57,65,66,67,68,69,70,71,72,73,74,75,76,77,78,79,80,81,82,83,84,85,86,87,88,89,90,97,98,99,100,101,102,103,104,105,106,107,108,109,110,111,112,113,114,115,116,117,118,119,120,121,122,46,45,95]
def hY (b:UInt8):Bool:=decide ((48<=b.toNat/\b.toNat<=57)\/(65<=b.toNat/\b.toNat<=90)\/(97<=b.toNat/\b.toNat<=122)\/b.toNat=46\/b.toNat=45\/b.toNat=95)
theorem K5: ∀n:Fin 256,G7.contains (UInt8.ofNat n.val)=hY (UInt8.ofNat n.val):=by decide+kernel
theorem G8 (b:UInt8):G7.contains b=hY b:=by
 have:=K5 ⟨b.toNat,b.toNat_lt⟩
 simpa using this
def eL (s:List UInt8):Bool:=decide (s≠[]/\s.length<=32/\s≠[46]/\s≠[46,46]/\ ∀b∈s,hY b=true)
theorem dropWhile_nil {α:Type} (p:α->Bool): ∀l:List α,l.dropWhile p=[]↔ ∀b∈l,p b=true
 | []=>by simp
 |x::l=>by
  cases h:p x with
  |true=>simp[List.dropWhile,h,dropWhile_nil p l]
  |false=>simp[List.dropWhile,h]
theorem OL (s cs:List UInt8):Lib.trimS s cs=[]↔ ∀b∈s,cs.contains b=true:=by
 unfold Lib.trimS Lib.trimLeftS Lib.trimRightS
 rw[dropWhile_nil]
 constructor
 ·intro h b hb
  have hr:b∈s.reverse:=by simpa using hb
  rw[<-List.takeWhile_append_dropWhile (p:=(cs.contains ·)) (l:=s.reverse)] at hr
  rcases List.mem_append.1 hr with h1 |h1
  ·exact List.all_eq_true.1 (List.all_takeWhile (p:=(cs.contains ·)) (l:=s.reverse)) b h1
  ·exact h b (by simpa using h1)
 ·intro h b hb
  have hb:b∈s.reverse.dropWhile (cs.contains ·):=by simpa using hb
  exact h b (by simpa using(List.dropWhile_sublist _).subset hb)
def pre (c:UInt8) (s:List UInt8):List UInt8:=s.takeWhile (· !=c)
def kB (s:List UInt8) (t r i:Int):List UInt8×Int:=if eL s=true then(if cC t r i=true then(s++126::Am t r i,0) else([],1)) else([],70)
end Pi
namespace Pi
open Go Go.Proofs
set_option maxRecDepth 100000
section
variable {X:XF}
theorem G9 (t r i:Int):(kA t r i).length<=2000000:=by
 unfold kA
 split
 ·rename_i h
  simp only[cC,decide_eq_true_eq] at h
  have l1:=ga (n:=t) (by omega) (by omega)
  have l2:=ga (n:=r) (by omega) (by omega)
  have l3:=ga (n:=i) (by omega) (by omega)
  simp[Am];omega
 ·simp
theorem Xj {m:Nat} {x:D} (h:tc PR (m+3) 50 x): ∃t r i,x=GW t r i/\(Lit.int .i64 t).wf=true/\(Lit.int .i64 r).wf=true/\(Lit.int .i64 i).wf=true:=by
 obtain⟨cs,rfl,hl,hf⟩:=la (k:=3) Tryz.underlying50 (by kernel_rfl) h
 obtain⟨a,b,c,rfl⟩: ∃a b c,cs=[a,b,c]:=by
  match cs,hl with
  | [a,b,c],_=>exact⟨a,b,c,rfl⟩
 have c23:PR.cellsOf 30=2:=by kernel_rfl
 have c3:PR.cellsOf 3=1:=by kernel_rfl
 have h1:=hf _ (List.mem_cons_self ..)
 have h2:=hf _ (List.mem_cons_of_mem _ (List.mem_cons_self ..))
 simp only[c23,List.drop_zero,List.take_succ_cons,List.take_zero] at h1
 simp only[c3,List.drop_succ_cons,List.drop_zero,List.take_succ_cons,List.take_zero] at h2
 unfold Fit at h1
 rw[Tryz.underlying30] at h1
 obtain⟨_,hf1⟩:=h1
 have h3:=hf1 _ (List.mem_cons_self ..)
 have h4:=hf1 _ (List.mem_cons_of_mem _ (List.mem_cons_self ..))
 simp only[c3,List.drop_zero,List.take_succ_cons,List.take_zero] at h3
 simp only[c3,List.drop_succ_cons,List.drop_zero,List.take_succ_cons,List.take_zero] at h4
 obtain⟨t,rfl,wt⟩:=mW Tryz.underlying3 h3
 obtain⟨r,rfl,wr⟩:=mW Tryz.underlying3 h4
 obtain⟨i,rfl,wi⟩:=mW Tryz.underlying3 h2
 exact⟨t,r,i,rfl,wt,wr,wi⟩
end
end Pi
namespace Pi
open Go Go.Proofs
set_option maxRecDepth 100000
set_option maxHeartbeats 0
abbrev kP (b:Bool):P:= .d (.bool b)
def OM:bm:=fun ps R post=> ∃s c,ps=[sD s,sD c]/\R=[]/\(s.length<=9223372036854775807/\c.length<4294967281/\c.all (fun b=>decide (b.toNat<128))=true)/\post (sD (Lib.trimS s c),[])
def An:bm:=fun ps R post=> ∃s,ps=[sD s]/\R=[]/\post (kP (eL s),[])
def Ha:bm:=fun ps R post=> ∃s t r i,ps=[sD s,.d (GW t r i)]/\R=[]/\post (.da [sD (kB s t r i).1,iD (kB s t r i).2],[])
abbrev nmH (s:List UInt8) (k:Int):S:=⟨64,[(0,sD s),(3,iD k)],[]⟩
def xw (c:List UInt8):List P:=[P.d (D.str c)]
def B4 (s:List UInt8):Int:=(↑(sr s):Int)
theorem qaH (s:List UInt8) (post:P×List (Nat×En)->Prop):(bif !s==[] then bif decide (B4 s<=(32:Int)) then bif !s==OI then bif !s==(46:UInt8)::OI then∃(hZ:List UInt8) (c:List UInt8),[P.d (D.str s),P.d (D.str (have y:List UInt8:=have y:List UInt8:=have y:List UInt8:=have y:List UInt8:=[(121:UInt8),(122:UInt8),(46:UInt8),(45:UInt8),(95:UInt8)];(117:UInt8)::(118:UInt8)::(119:UInt8)::(120:UInt8)::y;have y:List UInt8:=(113:UInt8)::(114:UInt8)::(115:UInt8)::(116:UInt8)::y;(109:UInt8)::(110:UInt8)::(111:UInt8)::(112:UInt8)::y;have y:List UInt8:=have y:List UInt8:=(105:UInt8)::(106:UInt8)::(107:UInt8)::(108:UInt8)::y;(101:UInt8)::(102:UInt8)::(103:UInt8)::(104:UInt8)::y;have y:List UInt8:=(97:UInt8)::(98:UInt8)::(99:UInt8)::(100:UInt8)::y;(87:UInt8)::(88:UInt8)::(89:UInt8)::(90:UInt8)::y;have y:List UInt8:=have y:List UInt8:=have y:List UInt8:=(83:UInt8)::(84:UInt8)::(85:UInt8)::(86:UInt8)::y;(79:UInt8)::(80:UInt8)::(81:UInt8)::(82:UInt8)::y;have y:List UInt8:=(75:UInt8)::(76:UInt8)::(77:UInt8)::(78:UInt8)::y;(71:UInt8)::(72:UInt8)::(73:UInt8)::(74:UInt8)::y;have y:List UInt8:=have y:List UInt8:=(67:UInt8)::(68:UInt8)::(69:UInt8)::(70:UInt8)::y;(56:UInt8)::(57:UInt8)::(65:UInt8)::(66:UInt8)::y;have y:List UInt8:=(52:UInt8)::(53:UInt8)::(54:UInt8)::(55:UInt8)::y;(48:UInt8)::(49:UInt8)::(50:UInt8)::(51:UInt8)::y))]=P.d (D.str hZ)::xw c/\Zw/\(sr hZ<=Zx/\sr c<4294967281/\(List.all c fun(b:UInt8)=>decide (UInt8.toNat b<128))=true)/\post (P.d (D.bool (Lib.trimS hZ c==[])),[]) else Z4 post else Z4 post else Z4 post else Z4 post)=(aH [(146,OM)] [] 112 [sD s] []) post:=by kernel_rfl
def Z1g (k:Int) (post:PX×S->Prop) (s:List UInt8):Prop:=bif Zj k then post (PX.normal,S.mk 64 ((0,P.d (D.str s))::ZK k) []) else False
def Sq (s:List UInt8) (k:Int):Int:=(↑(UInt8.toNat (List.getD s (Zg k) (0:UInt8))):Int)
def Z1h (s:List UInt8) (k:Int) (post:PX×S->Prop):Prop:=bif Sq s k==(46:Int) then Z1g k post s else bif Sq s k==(45:Int) then Z1g k post s else bif !Sq s k==(95:Int) then post (PX.ret,S.mk 64 ZH []) else Z1g k post s
def Z1i (s:List UInt8) (k:Int) (post:PX×S->Prop):Prop:=bif decide (Sq s k>=(97:Int)) then bif decide (Sq s k<=(122:Int)) then Z1g k post s else Z1h s k post else Z1h s k post
def Z1j (s:List UInt8) (k:Int) (post:PX×S->Prop):Prop:=bif decide (Sq s k>=(65:Int)) then bif decide (Sq s k<=(90:Int)) then Z1g k post s else Z1i s k post else Z1i s k post
theorem qdR (s:List UInt8) (k:Int) (post:PX×S->Prop):(bif decide (k<B4 s) then bif decide ((0:Int)<=k/\k<B4 s) then bif decide (Sq s k>=(48:Int)) then bif decide (Sq s k<=(57:Int)) then Z1g k post s else Z1j s k post else Z1j s k post else False else post (PX.exit 0,S.mk 64 [] []))=(aF [] [] 138 4 (nmH s k)) post:=by kernel_rfl
theorem ON (s:List UInt8) (t r i:Int) (post:P×List (Nat×En)->Prop):(∃(hZ:List UInt8),xw s=xw hZ/\Zw/\bif !eL hZ then post (P.da [P.d Fz,P.d (D.int IntKind.i64 (70:Int))],[]) else∃(oU:Int) (cA:Int) (aJ:Int),G6 t r i=G6 oU cA aJ/\Zw/\bif kA oU cA aJ==[] then post (P.da (P.d Fz::ZV),[]) else bif decide (sr s+1<=Zx) then bif decide (List.length (s++[(126:UInt8)])+List.length (kA oU cA aJ)<=Zx) then post (P.da (P.d (D.str (s++[(126:UInt8)]++kA oU cA aJ))::ZY),[]) else False else False)=(aH [(138,An),(177,OH)] [] 152 [sD s,.d (GW t r i)] []) post:=by kernel_rfl
end Pi
namespace Pi
open Go Go.Proofs
set_option maxRecDepth 100000
section
variable {X:XF}
theorem qaI:FD X 146 OM:=FD.TI Tryz.func146 (by kernel_rfl) (by kernel_rfl) (by
 intro ps R post hh
 obtain⟨s,c,rfl,rfl,hc,hp⟩:=hh
 refine⟨_,?_,hp⟩
 show IP [.d (.str s),.d (.str c)] []=_
 exact if_pos hc)
theorem qaJ:FD X 112 An:=FD.mk (H:=[(146,OM)]) (hk:=[]) (by kernel_rfl) (.cons qaI .nil) .nil (by
 intro ps R post hh
 obtain⟨s,rfl,rfl,hp⟩:=hh
 (rw[<-qaH];delta Z3 Z4 Zx sr Zw xw OI B4)
 refine aw (fun h1=>bb (fun h2=>aw (fun h3=>aw (fun h4=>⟨s,G7,rfl,rfl,⟨by omega,by decide,by decide⟩,?_⟩) fun h4=> ?_) fun h3=> ?_) fun h2=> ?_) fun h1=> ?_
 ·refine fy hp ?_
  rw[Bool.eq_iff_iff,eL,beq_iff_eq,OL]
  simp only[G8,decide_eq_true_eq]
  constructor
  ·intro h;exact h.2.2.2.2
  ·intro h;exact⟨by simpa using h1,by omega,by simpa using h3,by simpa using h4,h⟩
 ·exact fy hp (ky fun h=>by simp at h4;exact h.2.2.2.1 h4)
 ·exact fy hp (ky fun h=>by simp at h3;exact h.2.2.1 h3)
 ·exact fy hp (ky fun h=>by omega)
 ·exact fy hp (ky fun h=>by simp at h1;exact h.1 h1))
theorem K6 (b:UInt8):hY b=true↔((48<=(b.toNat:Int)/\(b.toNat:Int)<=57)\/(65<=(b.toNat:Int)/\(b.toNat:Int)<=90)\/(97<=(b.toNat:Int)/\(b.toNat:Int)<=122)\/(b.toNat:Int)=46\/(b.toNat:Int)=45\/(b.toNat:Int)=95):=by
 unfold hY
 simp only[decide_eq_true_eq]
 omega
theorem Ep (p:UInt8->Bool) (s:List UInt8):(∀b∈s,p b=true)↔ ∀i:Nat,i<s.length->p (s.getD i 0)=true:=by
 constructor
 ·intro h i hi
  have:=h s[i] (List.getElem_mem hi)
  simpa [List.getD_eq_getElem?_getD,hi] using this
 ·intro h x hx
  obtain⟨i,hi,rfl⟩:=List.getElem_of_mem hx
  have:=h i hi
  simpa [List.getD_eq_getElem?_getD,hi] using this
def gNm:S->K (PX×S):=fun s post=> ∃l,s=nmH l 0/\l.length<=32/\(¬(∀b∈l,hY b=true)->post (.ret,⟨64,[(2,kP false)],[]⟩))/\((∀b∈l,hY b=true)->post (.exit 0,⟨64,[],[]⟩))
theorem qaK:LD X 138 4 (ae (aK 138 4) gNm):=LD.par (H:=[]) (hk:=[]) (by kernel_rfl) (by kernel_rfl) .nil .nil
 (A:=List UInt8) (B:=Int) (fun a k=>nmH a k)
 (fun a k=>a.length<=32/\0<=k/\k<=a.length/\ ∀i:Nat,(i:Int)<k->hY (a.getD i 0)=true)
 (fun a k=>(a.length-k).toNat)
 (fun a x=>((¬ ∀b∈a,hY b=true)/\x=(.ret,⟨64,[(2,kP false)],[]⟩))\/((∀b∈a,hY b=true)/\x=(.exit 0,⟨64,[],[]⟩)))
 (by
  rintro l k ⟨hs,h0,h1,he⟩
  (rw[<-qdR];delta Z3 ZH Zm ZK Za Z9 Zj Z1g Zg Sq Z1h Z1i Z1j sr B4)
  have hb:=K6 (l.getD k.toNat 0)
  have b9: ¬hY (l.getD k.toNat 0)=true->k<l.length-> ¬ ∀b∈l,hY b=true:=fun h hk hh=>h ((Ep _ l).1 hh k.toNat (by omega))
  have fM:hY (l.getD k.toNat 0)=true->k<l.length->roundPost (l.length-k).toNat (fun m s=> ∃b',s=nmH l b'/\(l.length<=32/\0<=b'/\b'<=(l.length:Int)/\ ∀i:Nat,(i:Int)<b'->hY (l.getD i 0)=true)/\m=(l.length-b').toNat) (fun x=>((¬ ∀b∈l,hY b=true)/\x=(.ret,⟨64,[(2,kP false)],[]⟩))\/((∀b∈l,hY b=true)/\x=(.exit 0,⟨64,[],[]⟩))) (PX.normal,nmH l (k+1)):=fun h hk=>
   ⟨_,by omega,k+1,rfl,⟨hs,by omega,by omega,fun i hi=>by
    by_cases e:(i:Int)=k
    ·have:i=k.toNat:=by omega
     rw[this];exact h
    ·exact he i (by omega)⟩,rfl⟩
  generalize (((l.getD k.toNat 0).toNat:Nat):Int)=b at*
  refine bb (fun h=>bp (by omega) ?_) fun h=> .inr ⟨(Ep _ l).2 fun i hi=>he i (by omega),rfl⟩
  repeat' (first |refine bb (fun _=> ?_) (fun _=> ?_)|refine gK (fun _=> ?_) (fun _=> ?_)|refine xr (fun _=> ?_) (fun _=> ?_))
  all_goals first
   |exact absurd (pZ (k:=k) (by omega) (by omega)) (by simp;omega)
   |exact fM (hb.2 (by omega)) h
   |exact .inl ⟨b9 (fun hh=>by have:=hb.1 hh;omega) h,rfl⟩)
 (by
  rintro s post ⟨l,rfl,h1,h2,h3⟩
  refine⟨l,0,rfl,⟨h1,by omega,by omega,fun i hi=>by omega⟩,?_⟩
  rintro x (⟨h,rfl⟩| ⟨h,rfl⟩)
  ·exact h2 h
  ·exact h3 h)
end
end Pi
namespace Pi
open Go Go.Proofs
set_option maxRecDepth 100000
set_option maxHeartbeats 0
def oV (l:List (List UInt8)):List UInt8:=l.flatMap fun x=>47::x
def Uh (l:List (List UInt8)):Nat:=(oV l).length
def Z1k (s:List UInt8):S:=S.mk 64 ((0,P.d (D.str s))::OG) []
theorem Ui (s:List UInt8) (post:P×List (Nat×En)->Prop):(bif s==[] then Z4 post else bif decide (B4 s>(32:Int)) then Z4 post else bif s==OI then Z4 post else bif s==(46:UInt8)::OI then Z4 post else∃(l:List UInt8),Z1k s=Z1k l/\sr l<=32/\((¬∀(b:UInt8),b∈l->hY b=true)->Z4 post)/\((∀(b:UInt8),b∈l->hY b=true)->ZN post))=(aH [] [(4,ae (aK 138 4) gNm)] 138 [sD s] []) post:=by kernel_rfl
end Pi
namespace Pi
open Go Go.Proofs
set_option maxRecDepth 100000
section
variable {X:XF}
theorem B5:FD X 138 An:=FD.mk (H:=[]) (hk:=[(4,ae (aK 138 4) gNm)]) (by kernel_rfl) .nil (.cons qaK .nil) (by
 intro ps R post hh
 obtain⟨s,rfl,rfl,hp⟩:=hh
 (rw[<-Ui];delta ZM ZN sr Z7 OG Z1k OI B4 Z3 Z4)
 refine aw (fun h1=> ?_) fun h1=>bb (fun h2=> ?_) fun h2=>aw (fun h3=> ?_) fun h3=>aw (fun h4=> ?_) fun h4=>⟨s,rfl,by omega,fun b9=> ?_,fun fM=> ?_⟩
 ·exact fy hp (ky fun h=>h.1 (by simpa using h1))
 ·exact fy hp (ky fun h=>by omega)
 ·exact fy hp (ky fun h=>h.2.2.1 (by simpa using h3))
 ·exact fy hp (ky fun h=>h.2.2.2.1 (by simpa using h4))
 ·exact fy hp (ky fun h=>b9 h.2.2.2.2)
 ·exact fy hp (kx ⟨by simpa using h1,by omega,by simpa using h3,by simpa using h4,fM⟩))
theorem xx {t r i:Int}:kA t r i=[]↔cC t r i=false:=by
 unfold kA
 split
 ·rename_i h
  simp[h,Am]
 ·rename_i h
  simpa using h
theorem OO:FD X 152 Ha:=FD.mk (H:=[(138,An),(177,OH)]) (hk:=[]) (by kernel_rfl) (.cons B5 (.cons Ug .nil)) .nil (by
 intro ps R post hh
 obtain⟨s,t,r,i,rfl,rfl,hp⟩:=hh
 (rw[<-ON];delta Z7 ZY Zx sr ZP ZV Zs ZC G6 Fz Zw xw)
 unfold kB at hp
 refine⟨s,rfl,rfl,aw (fun h=> ?_) fun h=>⟨t,r,i,rfl,rfl,aw (fun h2=> ?_) fun h2=> ?_⟩⟩
 ·rw[if_neg (by simpa using h)] at hp;exact hp
 ·have h2:cC t r i=false:=xx.1 (by simpa using h2)
  rw[if_pos (by simpa using h),if_neg (by simp[h2])] at hp;exact hp
 ·have hn:eL s=true:=by simpa using h
  have hi:cC t r i=true:=by
   cases hi:cC t r i with
   |true=>rfl
   |false=>rw[xx.2 hi] at h2;simp at h2
  rw[if_pos hn,if_pos hi] at hp
  have hl:=G9 t r i
  simp only[eL,decide_eq_true_eq] at hn
  refine bp (by omega) (bp (by simp;omega) ?_)
  rw[kA,if_pos hi]
  simpa using hp)
end
end Pi
namespace Pi
open Go Go.Proofs
set_option maxRecDepth 100000
set_option maxHeartbeats 0
def Hb:bm:=fun ps R post=> ∃s,ps=[sD s]/\R=[]/\s.length<=2000000/\post (kP (Lib.validD s),[])
def Hc:bm:=fun ps R post=> ∃s,ps=[sD s]/\R=[]/\s.length<=2000000/\post (iD (Lib.runeCount ⟨⟨s⟩⟩),[])
def Z1m:List P:=[P.d (D.int IntKind.i64 (60:Int))]
def K7 (hZ:List UInt8):Prop:=sr hZ<=2000000
theorem qdS (s:List UInt8) (post:P×List (Nat×En)->Prop):(∃(hZ:List UInt8),xw s=xw hZ/\Zw/\K7 hZ/\bif !Lib.validD hZ then post (P.da (P.d Z7::Z1m),[]) else∃(s_2:List UInt8),xw s=xw s_2/\Zw/\K7 s_2/\post (P.da (P.d (D.int IntKind.i64 (↑(Lib.runeCount (ByteArray.mk (Array.mk s_2))):Int))::ZY),[]))=(aH [(148,Hb),(149,Hc)] [] 115 [sD s] []) post:=by kernel_rfl
end Pi
namespace Pi
open Go Go.Proofs
set_option maxRecDepth 100000
section
variable {X:XF}
theorem Uj:FD X 148 Hb:=FD.TI Tryz.func148 (by kernel_rfl) (by kernel_rfl) (by
 rintro ps R post ⟨s,rfl,rfl,hs,hp⟩
 exact⟨_,if_pos (by omega),hp⟩)
theorem Uk:FD X 149 Hc:=FD.TI Tryz.func149 (by kernel_rfl) (by kernel_rfl) (by
 rintro ps R post ⟨s,rfl,rfl,hs,hp⟩
 exact⟨_,if_pos (by omega),hp⟩)
end
end Pi
namespace Pi
open Go Go.Proofs
set_option maxRecDepth 100000
set_option maxHeartbeats 0
abbrev En3:=List UInt8×Bool×List UInt8
def SmE (l:List En3):Prop:=l.length<=2000000/\ ∀e∈l,e.1.length<=2000000/\e.2.2.length<=2000000
def SmX (l:List En3):Prop:=l.length<=2000/\ ∀e∈l,e.1.length<=10000/\e.2.2.length<=10000
end Pi
namespace Pi
open Go Go.Proofs
set_option maxRecDepth 100000
section
variable {X:XF}
theorem SmX.e {l:List En3} (h:SmX l):SmE l:=⟨by have:=h.1;omega,fun e he=>by have:=h.2 e he;omega⟩
end
end Pi
namespace Pi
open Go Go.Proofs
set_option maxRecDepth 100000
set_option maxHeartbeats 0
def He (s:List UInt8):Prop:=(Lib.decodeL s).1=65533/\(Lib.decodeL s).2=1
def Hf:bm:=fun ps R post=> ∃s,ps=[sD s]/\R=[]/\(s≠[]/\s.length<=2000000)/\(He s-> ∀c n,post (.da [iD c,iD n,kP false],[]))/\(¬He s-> ∀(c:Int) (n:Int),n=(Lib.decodeL s).2->1<=n->n.toNat<=s.length->post (.da [iD c,iD n,kP true],[]))
def Z1o:List P:=[ZM]
def Xk (s:List UInt8):Int:=(↑(UInt8.toNat (List.getD s 3 (0:UInt8))):Int)
def Er (s:List UInt8):Int:=(↑(UInt8.toNat (List.getD s 2 (0:UInt8))):Int)
def C4 (s:List UInt8):Int:=(↑(UInt8.toNat (List.getD s 1 (0:UInt8))):Int)
def Ao (s:List UInt8):Int:=(↑(UInt8.toNat (List.getD s 0 (0:UInt8))):Int)
def Xl (s:List UInt8):Int:=(Ao s-(240:Int))*(64:Int)
def Xm (s:List UInt8):Int:=(Xl s+C4 s-(128:Int))*(64:Int)
def Z1H (s:List UInt8):Int:=(Xm s+Er s-(128:Int))*(64:Int)
def Xn (s:List UInt8):Int:=Z1H s+Xk s-(128:Int)
def Z1J (post:P×List (Nat×En)->Prop) (s:List UInt8):Prop:=post (P.da (P.d (D.int IntKind.i64 (Xn s))::P.d (D.int IntKind.i64 (4:Int))::Z1o),[])
def Z1z (s:List UInt8):Bool:=decide ((0:Int)<=(1:Int)+(1:Int)/\(1:Int)+(1:Int)<B4 s)
def Z1u (s:List UInt8):Bool:=decide (C4 s>=(192:Int))
def Z1t (s:List UInt8):Bool:=decide (C4 s<(128:Int))
def Z1s (s:List UInt8):Bool:=decide (Z9<=C4 s/\C4 s<=Za)
def Z1q (s:List UInt8):Bool:=decide ((0:Int)<=(1:Int)/\(1:Int)<B4 s)
def uy (post:P×List (Nat×En)->Prop):Prop:=post (P.da [P.d Z7,P.d Z7,P.d Z3],[])
def Z1K (s:List UInt8) (post:P×List (Nat×En)->Prop):Prop:=bif decide (Ao s>=(240:Int)) then bif decide (Ao s<(245:Int)) then bif decide (Z9<=Ao s-(240:Int)/\Ao s-(240:Int)<=Za) then bif decide (B4 s<(4:Int)) then uy post else bif Z1q s then bif Z1s s then bif Z1t s then uy post else bif Z1u s then uy post else bif decide (Z9<=Xl s/\Xl s<=Za) then bif decide (Z9<=Xl s+C4 s/\Xl s+C4 s<=Za) then bif decide (Z9<=Xl s+C4 s-(128:Int)/\Xl s+C4 s-(128:Int)<=Za) then bif Z1z s then bif decide (Z9<=Er s/\Er s<=Za) then bif decide (Er s<(128:Int)) then uy post else bif decide (Er s>=(192:Int)) then uy post else bif decide (Z9<=Xm s/\Xm s<=Za) then bif decide (Z9<=Xm s+Er s/\Xm s+Er s<=Za) then bif decide (Z9<=Xm s+Er s-(128:Int)/\Xm s+Er s-(128:Int)<=Za) then bif decide ((0:Int)<=(1:Int)+(1:Int)+(1:Int)/\(1:Int)+(1:Int)+(1:Int)<B4 s) then bif decide (Z9<=Xk s/\Xk s<=Za) then bif decide (Xk s<(128:Int)) then uy post else bif decide (Xk s>=(192:Int)) then uy post else bif decide (Z9<=Z1H s/\Z1H s<=Za) then bif decide (Z9<=Z1H s+Xk s/\Z1H s+Xk s<=Za) then bif decide (Z9<=Xn s/\Xn s<=Za) then bif decide (Xn s<(65536:Int)) then uy post else bif decide (Xn s>(1114111:Int)) then uy post else bif decide (Xn s>=(55296:Int)) then bif decide (Xn s<(57344:Int)) then uy post else Z1J post s else Z1J post s else False else False else False else False else False else False else False else False else False else False else False else False else False else False else False else False else uy post else uy post
def Xo (s:List UInt8):Int:=(Ao s-(224:Int))*(64:Int)
def Z1B (s:List UInt8):Int:=(Xo s+C4 s-(128:Int))*(64:Int)
def Xp (s:List UInt8):Int:=Z1B s+Er s-(128:Int)
def Z1D (post:P×List (Nat×En)->Prop) (s:List UInt8):Prop:=post (P.da (P.d (D.int IntKind.i64 (Xp s))::P.d (D.int IntKind.i64 (3:Int))::Z1o),[])
def Z1L (s:List UInt8) (post:P×List (Nat×En)->Prop):Prop:=bif decide (Ao s>=(224:Int)) then bif decide (Ao s<(240:Int)) then bif decide (Z9<=Ao s-(224:Int)/\Ao s-(224:Int)<=Za) then bif decide (B4 s<(3:Int)) then uy post else bif Z1q s then bif Z1s s then bif Z1t s then uy post else bif Z1u s then uy post else bif decide (Z9<=Xo s/\Xo s<=Za) then bif decide (Z9<=Xo s+C4 s/\Xo s+C4 s<=Za) then bif decide (Z9<=Xo s+C4 s-(128:Int)/\Xo s+C4 s-(128:Int)<=Za) then bif Z1z s then bif decide (Z9<=Er s/\Er s<=Za) then bif decide (Er s<(128:Int)) then uy post else bif decide (Er s>=(192:Int)) then uy post else bif decide (Z9<=Z1B s/\Z1B s<=Za) then bif decide (Z9<=Z1B s+Er s/\Z1B s+Er s<=Za) then bif decide (Z9<=Xp s/\Xp s<=Za) then bif decide (Xp s<(2048:Int)) then uy post else bif decide (Xp s>(1114111:Int)) then uy post else bif decide (Xp s>=(55296:Int)) then bif decide (Xp s<(57344:Int)) then uy post else Z1D post s else Z1D post s else False else False else False else False else False else False else False else False else False else False else False else Z1K s post else Z1K s post
def Z1v (s:List UInt8):Int:=(Ao s-(192:Int))*(64:Int)
def Z1w (s:List UInt8):Int:=Z1v s+C4 s-(128:Int)
def Z1x (post:P×List (Nat×En)->Prop) (s:List UInt8):Prop:=post (P.da (P.d (D.int IntKind.i64 (Z1w s))::P.d (D.int IntKind.i64 (2:Int))::Z1o),[])
theorem Ul (s:List UInt8) (post:P×List (Nat×En)->Prop):(bif decide ((0:Int)<=(0:Int)/\(0:Int)<B4 s) then bif decide (Z9<=Ao s/\Ao s<=Za) then bif decide (Ao s<(128:Int)) then post (P.da (P.d (D.int IntKind.i64 (Ao s))::P.d ZP::Z1o),[]) else bif decide (Ao s>=(194:Int)) then bif decide (Ao s<(224:Int)) then bif decide (Z9<=Ao s-(192:Int)/\Ao s-(192:Int)<=Za) then bif decide (B4 s<(2:Int)) then uy post else bif Z1q s then bif Z1s s then bif Z1t s then uy post else bif Z1u s then uy post else bif decide (Z9<=Z1v s/\Z1v s<=Za) then bif decide (Z9<=Z1v s+C4 s/\Z1v s+C4 s<=Za) then bif decide (Z9<=Z1w s/\Z1w s<=Za) then bif decide (Z1w s>(1114111:Int)) then uy post else bif decide (Z1w s>=(55296:Int)) then bif decide (Z1w s<(57344:Int)) then uy post else Z1x post s else Z1x post s else False else False else False else False else False else False else Z1L s post else Z1L s post else False else False)=(aH [] [] 168 [sD s] []) post:=by kernel_rfl
abbrev rsH (s:List UInt8) (o:List (List UInt8)):S:=⟨29,[(0,sD s),(4,.sl 0 0 o.length)],[(0,⟨0,none,.arr 9 false (o.map D.str)⟩)]⟩
def Z1R (o:List (List UInt8)):En:=En.mk 0 none (Obj.arr (9:TypeId) false (List.map D.str o))
def Z1S (post:P×List (Nat×En)->Prop) (o:List (List UInt8)):Prop:=post (P.da (P.sl 0 0 (List.length o)::ZY),[(0,Z1R o)])
def Xq (hZ:List UInt8):Prop:=Lib.validD hZ=true
def Z1M:Nat×En:=(0,En.mk 0 none (Obj.arr (9:TypeId) false []))
def Xr (hZ:List UInt8):Prop:=Lib.validD hZ=false
def Z1P (hZ:List UInt8) (post:P×List (Nat×En)->Prop):Prop:=Xr hZ-> ∀(_:List (List UInt8)),post (P.da (ZO::Z1m),[Z1M])
def Z1N (s:List UInt8):S:=S.mk 29 [(0,P.d (D.str s)),(4,ZO)] [Z1M]
def Z1T (post:P×List (Nat×En)->Prop) (o:List (List UInt8)):Prop:=post (P.da (P.d (D.int IntKind.i64 (↑(List.length o):Int))::ZY),[])
def Z1U (o:List (List UInt8)) (n:Int) (s:List UInt8):Nat:=List.length o+List.length [D.str (List.drop 0 (List.take (Zg n) s))]
theorem qdT (s:List UInt8) (o:List (List UInt8)) (post:PX×S->Prop):(bif decide (B4 s>(0:Int)) then∃(hZ:List UInt8),xw s=xw hZ/\Zw/\(hZ≠[]/\K7 hZ)/\(He hZ-> ∀(_ _:Int),post (PX.ret,S.mk 29 [(2,ZO),(3,P.d (D.int IntKind.i64 (60:Int))),(4,P.sl 1 0 (List.length o))] [Z1M,(1,Z1R o)]))/\(¬He hZ-> ∀(_ n:Int),n=(↑(Prod.snd (Lib.decodeL hZ)):Int)->(1:Int)<=n->Zg n<=sr hZ->bif decide ((0:Int)<=n/\n<=B4 s) then bif Nat.ble (List.length o) (List.length (List.map D.str o))&&aT (Z1U o n s) 16 then bif decide ((0:Int)<=n/\n<=B4 s) then post (PX.normal,S.mk 29 [(0,P.d (D.str (List.drop (Zg n) (List.take (sr s) s)))),(4,P.sl 0 0 (Z1U o n s))] [(0,En.mk 0 none (Obj.arr (9:TypeId) false (List.take (List.length o) (List.map D.str o)++[D.str (List.drop 0 (List.take (Zg n) s))])))]) else False else False else False) else post (PX.exit 0,S.mk 29 [(4,P.sl 0 0 (List.length o))] [(0,Z1R o)]))=(aF [(168,Hf)] [] 144 2 (rsH s o)) post:=by kernel_rfl
def Es (n b0 b1 b2 b3:Nat):Nat×Nat:=
 if b0<128 then(b0,1) else
 if b0/32=6/\1<n/\b1/64=2 then(if 128<=(b0%32)*64+b1%64 then((b0%32)*64+b1%64,2) else(65533,1)) else
 if b0/16=14/\(1<n/\b1/64=2)/\2<n/\b2/64=2 then(if 2048<=(b0%16)*4096+(b1%64)*64+b2%64/\((b0%16)*4096+(b1%64)*64+b2%64<55296\/57344<=(b0%16)*4096+(b1%64)*64+b2%64/\(b0%16)*4096+(b1%64)*64+b2%64<=1114111) then((b0%16)*4096+(b1%64)*64+b2%64,3) else(65533,1)) else
 if b0/8=30/\(1<n/\b1/64=2)/\(2<n/\b2/64=2)/\3<n/\b3/64=2 then(if 65536<=(b0%8)*262144+(b1%64)*4096+(b2%64)*64+b3%64/\((b0%8)*262144+(b1%64)*4096+(b2%64)*64+b3%64<55296\/57344<=(b0%8)*262144+(b1%64)*4096+(b2%64)*64+b3%64/\(b0%8)*262144+(b1%64)*4096+(b2%64)*64+b3%64<=1114111) then((b0%8)*262144+(b1%64)*4096+(b2%64)*64+b3%64,4) else(65533,1)) else(65533,1)
theorem OP (s:List UInt8) (k:Nat):(ByteArray.mk s.toArray).get! k=s.getD k 0:=by
 show s.toArray.getD k 0=_
 simp[Array.getD,List.getD_eq_getElem?_getD]
 split
 ·rename_i h;simp[h]
 ·rename_i h;simp[List.getElem?_eq_none (by omega:s.length<=k)]
theorem K8 (s:List UInt8):Lib.decodeL s=Es s.length (s.getD 0 0).toNat (s.getD 1 0).toNat (s.getD 2 0).toNat (s.getD 3 0).toNat:=by
 have hs:(ByteArray.mk s.toArray).size=s.length:=rfl
 have hv: ∀c:Nat,Utf8.valid (c:Int)=decide (c<55296\/57344<=c/\c<=1114111):=fun c=>by
  unfold Utf8.valid
  rw[Bool.eq_iff_iff]
  simp only[Bool.or_eq_true,Bool.and_eq_true,decide_eq_true_eq]
  omega
 unfold Lib.decodeL Utf8.decode Es
 simp only[OP,Nat.zero_add,hs,hv,Bool.and_eq_true,beq_iff_eq,decide_eq_true_eq,ge_iff_le,Utf8.runeError,and_assoc]
section
variable {X:XF}
theorem Um:FD X 168 Hf:=FD.mk (H:=[]) (hk:=[]) (by kernel_rfl) .nil .nil (by
 intro ps R post hh
 obtain⟨s,rfl,rfl,⟨dz,hs⟩,h1,h2⟩:=hh
 (rw[<-Ul];delta ZM Z1o Xk Er C4 Ao Xl Xm Z1H Xn Z1J sr B4 Z1z Z1u Z1t Za Z9 Z1s Z1q Z3 Z7 uy Z1K Xo Z1B Xp Z1D Z1L Z1v Z1w Z1x ZP)
 have Un:0<s.length:=List.length_pos_iff.2 dz
 unfold He at h1 h2
 rw[K8] at h1 h2
 have Bp:=(s.getD 0 0).toNat_lt
 have jk:=(s.getD 1 0).toNat_lt
 have cu:=(s.getD 2 0).toNat_lt
 have iL:=(s.getD 3 0).toNat_lt
 generalize (s.getD 0 0).toNat=b0 at Bp h1 h2
 generalize (s.getD 1 0).toNat=b1 at jk h1 h2
 generalize (s.getD 2 0).toNat=b2 at cu h1 h2
 generalize (s.getD 3 0).toNat=b3 at iL h1 h2
 generalize s.length=n at Un hs h1 h2
 have bad:Es n b0 b1 b2 b3=(65533,1)->post (.da [iD 0,iD 0,kP false],[]):=fun h=>h1 (by rw[h];exact⟨rfl,rfl⟩) 0 0
 have qdU:b0<128-> ∀c,post (.da [iD c,iD 1,kP true],[]):=fun h c=>by
  have e:Es n b0 b1 b2 b3=(b0,1):=by unfold Es;rw[if_pos h]
  rw[e] at h2
  exact h2 (fun h=>by have:=h.1;simp only at this;omega) c 1 rfl (by omega) (by omega)
 have qge: ∀c (k:Int),(Es n b0 b1 b2 b3).2=k.toNat->2<=k->k.toNat<=n->post (.da [iD c,iD k,kP true],[]):=fun c k h3 h4 h5=>h2 (fun h=>by rw[h3] at h;omega) c k (by omega) (by omega) h5
 clear h1 h2
 repeat' (first |refine bp (by omega) ?_ |refine bb (fun h=> ?_) (fun h=> ?_))
 all_goals first
  | (refine bad ?_;unfold Es;(repeat' split);all_goals first |rfl | (exfalso;omega))
  |exact qdU (by omega) _
  | (refine qge _ _ ?_ (by omega) (by omega);unfold Es;(repeat' split);all_goals first |rfl | (exfalso;omega)))
end
def p7 (x y:Int):Int:=if x<y then-1 else if x>y then 1 else 0
def IZ (x y:Int):Int:=if x≠0 then x else y
def oW (t r t' r':Int):Int:=IZ (p7 t t') (p7 r r')
def qB (t r i t' r' i':Int):Int:=IZ (oW t r t' r') (p7 i i')
def tq (t r t' r':Int):Bool:=decide (t<t'\/t=t'/\r<r')
abbrev itD (t r i:Int) (p:List UInt8) (d b:Bool):D:= .agg [.int .i64 t,.int .i64 r,.int .i64 i,.str p,.bool d,.bool b]
def Xs (post:P×List (Nat×En)->Prop):Prop:=post (P.d ZP,[])
def I0:P:=P.d (D.int IntKind.i64 (-1:Int))
def n9 (post:P×List (Nat×En)->Prop):Prop:=post (I0,[])
def Z1Y (x:Int) (y:Int) (post:P×List (Nat×En)->Prop):Prop:=bif ZG x y then n9 post else bif decide (x>y) then Xs post else Z8 post
theorem K9 (x y:Int) (post:P×List (Nat×En)->Prop):(bif x !=x then bif y !=y then Z8 post else n9 post else bif y !=y then Xs post else Z1Y x y post)=(aH [] [] 100 [.d (.int .i64 x),.d (.int .i64 y)] []) post:=by kernel_rfl
theorem qgf (x y:Int) (post:P×List (Nat×En)->Prop):(bif D.ah (D.nth (Zs x::ZC y) 0) !=(0:Int) then post (P.d (D.int IntKind.i64 (D.ah (D.nth (Zs x::ZC y) 0))),[]) else bif D.ah (D.nth (Zs x::ZC y) 1) !=(0:Int) then post (P.d (D.int IntKind.i64 (D.ah (D.nth (Zs x::ZC y) 1))),[]) else Z8 post)=(aH [] [] 99 [.d (.sl 1 [.int .i64 x,.int .i64 y])] []) post:=by kernel_rfl
theorem OQ (t r t' r':Int) (post:P×List (Nat×En)->Prop):(bif decide (t<t') then post (P.d (D.bool true),[]) else bif t==t' then post (P.d (D.bool (decide (r<r'))),[]) else post (P.d (D.bool false),[]))=(aH [] [] 14 [.d (Sp t r),.d (Sp t' r')] []) post:=by kernel_rfl
def fN:bm:=fun ps R post=> ∃x y,ps=[.d (.int .i64 x),.d (.int .i64 y)]/\R=[]/\post (.d (.int .i64 (p7 x y)),[])
def hOr:bm:=fun ps R post=> ∃x y,ps=[.d (.sl 1 [.int .i64 x,.int .i64 y])]/\R=[]/\post (.d (.int .i64 (IZ x y)),[])
def vz:bm:=fun ps R post=> ∃t r t' r',ps=[.d (Sp t r),.d (Sp t' r')]/\R=[]/\post (.d (.bool (tq t r t' r')),[])
def tu:bm:=fun ps R post=> ∃t r t' r',ps=[.d (Sp t r),.d (Sp t' r')]/\R=[]/\post (.d (.int .i64 (oW t r t' r')),[])
def kC:bm:=fun ps R post=> ∃t r i t' r' i',ps=[.d (GW t r i),.d (GW t' r' i')]/\R=[]/\post (.d (.int .i64 (qB t r i t' r' i')),[])
def Z1Z (t:Int) (t':Int) (x:Int) (y:Int):Prop:=P.d (Zs t)::Zu t'=P.d (Zs x)::Zu y
theorem qdV (t r t' r':Int) (post:P×List (Nat×En)->Prop):(∃(x:Int) (y:Int),Z1Z t t' x y/\Zw/\ ∃(aM:Int) (Uo:Int),Z1Z r r' aM Uo/\Zw/\ ∃(x_2:Int) (y_2:Int),[P.d (D.sl 1 [D.int IntKind.i64 (p7 x y),D.int IntKind.i64 (p7 aM Uo)])]=[P.d (D.sl 1 (Zs x_2::ZC y_2))]/\Zw/\post (P.d (D.int IntKind.i64 (IZ x_2 y_2)),[]))=(aH [(100,fN),(99,hOr)] [] 66 [.d (Sp t r),.d (Sp t' r')] []) post:=by kernel_rfl
def Hg (t:Int) (r:Int) (t':Int) (r':Int):List P:=[P.d (D.agg (Zs t::ZC r)),P.d (D.agg (Zs t'::ZC r'))]
theorem qaL (t r t' r':Int) (post:P×List (Nat×En)->Prop):(∃(oU:Int) (cA:Int) (B6:Int) (B7:Int),Hg t r t' r'=Hg oU cA B6 B7/\Zw/\bif tq oU cA B6 B7 then n9 post else∃(t_2:Int) (Xt:Int) (qdW:Int) (qdX:Int),Hg t' r' t r=Hg t_2 Xt qdW qdX/\Zw/\bif tq t_2 Xt qdW qdX then Xs post else Z8 post)=(aH [(14,vz)] [] 117 [.d (Sp t r),.d (Sp t' r')] []) post:=by kernel_rfl
theorem Ur (t r i t' r' i':Int) (post:P×List (Nat×En)->Prop):(∃(oU:Int) (cA:Int) (B6:Int) (B7:Int),Hg t r t' r'=Hg oU cA B6 B7/\Zw/\ ∃(x:Int) (y:Int),Z1Z i i' x y/\Zw/\ ∃(aM:Int) (Uo:Int),[P.d (D.sl 1 [D.int IntKind.i64 (oW oU cA B6 B7),D.int IntKind.i64 (p7 x y)])]=[P.d (D.sl 1 (Zs aM::ZC Uo))]/\Zw/\post (P.d (D.int IntKind.i64 (IZ aM Uo)),[]))=(aH [(100,fN),(99,hOr),(66,tu)] [] 150 [.d (GW t r i),.d (GW t' r' i')] []) post:=by kernel_rfl
theorem OR (t r i t' r' i':Int) (post:P×List (Nat×En)->Prop):(∃(oU:Int) (cA:Int) (B6:Int) (B7:Int),Hg t r t' r'=Hg oU cA B6 B7/\Zw/\bif oW oU cA B6 B7 !=(0:Int) then post (P.d (D.int IntKind.i64 (oW oU cA B6 B7)),[]) else Z1Y i i' post)=(aH [(117,tu)] [] 88 [.d (GW t r i),.d (GW t' r' i')] []) post:=by kernel_rfl
end Pi
namespace Pi
open Go Go.Proofs
set_option maxRecDepth 100000
theorem oX {post:P×List (Nat×En)->Prop} {k:IntKind} {a b:Int} {R:List (Nat×En)} (hp:post (P.d (D.int k a),R)) (h:a=b):post (P.d (D.int k b),R):=h▸hp
theorem xy {post:P×List (Nat×En)->Prop} {a b:Bool} {R:List (Nat×En)} (hp:post (P.d (D.bool a),R)) (h:a=b):post (P.d (D.bool b),R):=h▸hp
theorem xA (x:Int):(x !=x)=false:=by simp
theorem Et: ∀ps R post,fN ps R post->aH [] [] 100 ps R post:=by
 intro ps R post hh
 obtain⟨x,y,rfl,rfl,hp⟩:=hh
 (rw[<-K9];delta Z7 Z8 ZP Xs I0 n9 ZG Z1Y)
 refine kq (xA x) (kq (xA y) ?_)
 refine aw (fun h=> ?_) fun h=>aw (fun h'=> ?_) fun h'=> ?_
 ·exact oX hp (by
   have h:x<y:=by simpa using h
   simp[p7,h])
 ·exact oX hp (by
   have h: ¬x<y:=by simpa using h
   have h':x>y:=by simpa using h'
   simp[p7,h,h'])
 ·exact oX hp (by
   have h: ¬x<y:=by simpa using h
   have h': ¬x>y:=by simpa using h'
   simp[p7,h,h'])
theorem bOr: ∀ps R post,hOr ps R post->aH [] [] 99 ps R post:=by
 intro ps R post hh
 obtain⟨x,y,rfl,rfl,hp⟩:=hh
 (rw[<-qgf];delta Z7 Z8 Zs ZC)
 refine aw (fun h=> ?_) fun h=>aw (fun h'=> ?_) fun h'=> ?_
 ·exact oX hp (by
   have h:x≠0:=by simpa [D.nth,D.ah] using h
   simp[IZ,h,D.nth,D.ah])
 ·exact oX hp (by
   have h:x=0:=by simpa [D.nth,D.ah] using h
   simp[IZ,h,D.nth,D.ah])
 ·exact oX hp (by
   have h:x=0:=by simpa [D.nth,D.ah] using h
   have h':y=0:=by simpa [D.nth,D.ah] using h'
   simp[IZ,h,h'])
theorem Us: ∀ps R post,vz ps R post->aH [] [] 14 ps R post:=by
 intro ps R post hh
 obtain⟨t,r,t',r',rfl,rfl,hp⟩:=hh
 rw[<-OQ]
 refine aw (fun h=> ?_) fun h=>aw (fun h'=> ?_) fun h'=> ?_
 ·exact xy hp (by
   have h:t<t':=by simpa using h
   simp[tq,h])
 ·exact xy hp (by
   have h':t=t':=by simpa using h'
   simp[tq,h'])
 ·exact xy hp (by
   have h: ¬t<t':=by simpa using h
   have h': ¬t=t':=by simpa using h'
   simp[tq,h'];omega)
theorem qdY: ∀ps R post,tu ps R post->aH [(100,fN),(99,hOr)] [] 66 ps R post:=by
 intro ps R post hh
 obtain⟨t,r,t',r',rfl,rfl,hp⟩:=hh
 (rw[<-qdV];delta Zs ZC Zw Zu Z1Z)
 exact⟨_,_,rfl,rfl,_,_,rfl,rfl,_,_,rfl,rfl,hp⟩
theorem qaM: ∀ps R post,kC ps R post->aH [(100,fN),(99,hOr),(66,tu)] [] 150 ps R post:=by
 intro ps R post hh
 obtain⟨t,r,i,t',r',i',rfl,rfl,hp⟩:=hh
 (rw[<-Ur];delta Zs ZC Zu Z1Z Zw Hg)
 exact⟨_,_,_,_,rfl,rfl,_,_,rfl,rfl,_,_,rfl,rfl,hp⟩
section
variable {X:XF}
theorem Eu:FD X 14 vz:=FD.mk (H:=[]) (by kernel_rfl) .nil .nil Us
theorem qaN:FD X 117 tu:=FD.mk (H:=[(14,vz)]) (by kernel_rfl) (.cons Eu .nil) .nil (by
 intro ps R post hh
 obtain⟨t,r,t',r',rfl,rfl,hp⟩:=hh
 (rw[<-qaL];delta Z7 Z8 ZP Xs I0 n9 Zw Zs ZC Hg)
 refine⟨_,_,_,_,rfl,rfl,aw (fun h=> ?_) fun h=>⟨_,_,_,_,rfl,rfl,aw (fun h'=> ?_) fun h'=> ?_⟩⟩
 all_goals exact oX hp (by simp only[tq,decide_eq_true_eq,decide_eq_false_iff_not] at*;simp only[oW,IZ,p7];(repeat' split)<;>omega))
theorem oY:FD X 88 kC:=FD.mk (H:=[(117,tu)]) (by kernel_rfl) (.cons qaN .nil) .nil (by
 intro ps R post hh
 obtain⟨t,r,i,t',r',i',rfl,rfl,hp⟩:=hh
 (rw[<-OR];delta Z7 Z8 ZP Xs I0 n9 ZG Z1Y Zw Zs ZC Hg)
 refine⟨_,_,_,_,rfl,rfl,aw (fun h=> ?_) fun h=>aw (fun h'=> ?_) fun h'=>aw (fun h''=> ?_) fun h''=> ?_⟩
 all_goals exact oX hp (by simp only[bne_iff_ne,bne_eq_false_iff_eq,ne_eq,decide_eq_true_eq,decide_eq_false_iff_not] at*;simp only[qB,IZ,p7];(repeat' split)<;>omega))
theorem Ap:FD X 100 fN:=FD.mk (H:=[]) (by kernel_rfl) .nil .nil Et
theorem qdZ:FD X 99 hOr:=FD.mk (H:=[]) (by kernel_rfl) .nil .nil bOr
theorem Xu:FD X 66 tu:=FD.mk (H:=[(100,fN),(99,hOr)]) (by kernel_rfl) (.cons Ap (.cons qdZ .nil)) .nil qdY
theorem Ut:FD X 150 kC:=FD.mk (H:=[(100,fN),(99,hOr),(66,tu)]) (by kernel_rfl) (.cons Ap (.cons qdZ (.cons Xu .nil))) .nil qaM
end
theorem La:FC 100 fN:=FC.mk (H:=[]) (by kernel_rfl) .nil Et
theorem qgg:FC 99 hOr:=FC.mk (H:=[]) (by kernel_rfl) .nil bOr
theorem Xv:FC 66 tu:=FC.mk (H:=[(100,fN),(99,hOr)]) (by kernel_rfl) (.cons La (.cons qgg .nil)) qdY
theorem FC.qd0 {g:Nat} {h:bm} (hf:FC g h) {x y:D} {i:Int} (hp:h [.d x,.d y] [] (fun z=>z=(.d (.int .i64 i),[]))):xd PR xl g x y i:=by
 obtain⟨z,h1,h2⟩:=hf _ _ _ hp
 subst h2
 exact h1
end Pi
namespace Pi
open Go Go.Proofs
set_option maxRecDepth 100000
set_option maxHeartbeats 0
abbrev aC:=Int×Int×Int
def bH (x:aC):D:= .agg [.int .i64 x.1,.int .i64 x.2.1,.int .i64 x.2.2]
abbrev dx (l:List aC):P:= .d (.sl 3 (l.map bH))
abbrev Pl:=aC×aC×List UInt8×Bool
def bI (p:Pl):D:= .agg [.int .i64 p.1.1,.int .i64 p.1.2.1,.int .i64 p.1.2.2,.int .i64 p.2.1.1,.int .i64 p.2.1.2.1,.int .i64 p.2.1.2.2,.str p.2.2.1,.bool p.2.2.2]
abbrev ey (l:List Pl):P:= .d (.sl 8 (l.map bI))
def xC (p:Pl):Bool:=cC p.1.1 p.1.2.1 p.1.2.2&&eL p.2.2.1
def dT (T:List Pl) (x:aC):Option Pl:=T.find? fun p=>p.1==x
def Hh (T:List Pl) (p:Pl):List Pl:=if(dT T p.1).isSome then T else if xC p then T++[p] else T
def oa (l:List Pl):List Pl:=l.foldl Hh []
end Pi
namespace Pi
open Go Go.Proofs
set_option maxRecDepth 100000
theorem gL (p:Pl):cX PR 104 (bI p)=true:=by
 obtain⟨⟨a,b,c⟩,⟨d,e,f⟩,g,h⟩:=p
 kernel_rfl
theorem rj (x:aC):cX PR 50 (bH x)=true:=by
 obtain⟨a,b,c⟩:=x
 kernel_rfl
def su:Pl:=((0,0,0),(0,0,0),[],false)
theorem iy {l:List Pl} {i:Nat} (h:i<l.length):D.nth (l.map bI) i=bI (l.getD i su):=by
 rw[ay bI l i h]
 simp[List.getD_eq_getElem?_getD,h]
theorem qaO {l:List aC} {i:Nat} (h:i<l.length):D.nth (l.map bH) i=bH (l.getD i (0,0,0)):=by
 rw[ay bH l i h]
 simp[List.getD_eq_getElem?_getD,h]
theorem Hi {α β:Type} (f:β->α->β) (b:β) (l:List α) (d:α) (k:Nat) (h:k<l.length):(l.take (k+1)).foldl f b=f ((l.take k).foldl f b) (l.getD k d):=by
 rw[List.take_add_one,List.getElem?_eq_getElem h,List.foldl_append]
 simp[List.getD_eq_getElem?_getD,h]
section
variable {X:XF}
end
end Pi
namespace Pi
open Go Go.Proofs
set_option maxRecDepth 100000
set_option maxHeartbeats 0
def Uu (T:List Pl):Nat->aC->List aC->Option (List aC)
 |0,_,_=>none
 |n+1,x,out=>match dT T x with
  |none=>none
  |some p=>if 0<out.length/\p.2.2.2=false then none else if p.2.1=(0,0,0) then some (out++[x]) else Uu T n p.2.1 (out++[x])
def wy (T:List Pl) (x:aC):Option (List aC):=Uu T (T.length+1) x []
end Pi
namespace Pi
open Go
def Aq (x y:aC):Bool:=decide (x.1<y.1\/x.1=y.1/\(x.2.1<y.2.1\/x.2.1=y.2.1/\x.2.2<y.2.2))
theorem jJ (x y:aC):qB x.1 x.2.1 x.2.2 y.1 y.2.1 y.2.2<0↔Aq x y=true:=by
 unfold Aq
 simp only[decide_eq_true_eq,qB,oW,IZ,p7]
 (repeat' split)<;>omega
structure Hj {α:Type} (lt:α->α->Bool):Prop where
 Mx: ∀x,lt x x=false
 tr: ∀x y z,lt x y=true->lt y z=true->lt x z=true
 sM: ∀x y,lt x y=false->lt y x=false->x=y
theorem Hj.asymm {α:Type} {lt:α->α->Bool} (h:Hj lt) {x y:α} (h1:lt x y=true):lt y x=false:=by
 cases h2:lt y x with
 |false=>rfl
 |true=>have:=h.tr _ _ _ h1 h2;rw[h.Mx] at this;cases this
theorem Hj.W9 {α:Type} {lt:α->α->Bool} (h:Hj lt) {x y z:α} (h1:lt x y=false) (h2:lt y z=false):lt x z=false:=by
 cases h3:lt x z with
 |false=>rfl
 |true=>
  cases h4:lt y x with
  |true=>rw[h.tr _ _ _ h4 h3] at h2;cases h2
  |false=>
   have:=h.sM _ _ h1 h4
   subst this
   rw[h3] at h2
   cases h2
section
variable {α:Type} (lt:α->α->Bool)
def nj (a:α):List α->List α
 | []=>[a]
 |b::r=>if lt a b then b::nj a r else a::b::r
def dy (o:List α) (a:α):List α:=(nj lt a o.reverse).reverse
def cN (l:List α):List α:=l.foldl (dy lt) []
variable {lt}
theorem tv (a:α): ∀l,(nj lt a l).Perm (a::l)
 | []=> .refl _
 |b::r=>by
  unfold nj
  split
  ·exact((tv a r).cons b).trans (.swap a b r)
  ·exact .refl _
theorem jQ (o:List α) (a:α):(dy lt o a).Perm (o++[a]):=by
 unfold dy
 refine(List.reverse_perm _).trans ((tv a _).trans ?_)
 exact((List.reverse_perm o).cons a).trans (List.perm_append_comm (l₁:=[a]) (l₂:=o))
theorem xD: ∀(l o:List α),(l.foldl (dy lt) o).Perm (o++l)
 | [],o=>by simp
 |a::r,o=>by
  refine(xD r _).trans ?_
  exact((jQ o a).append_right r).trans (by simp)
theorem cW (l:List α):(cN lt l).Perm l:=by simpa [cN] using xD (lt:=lt) l []
theorem I1 (h:Hj lt) (a:α): ∀l,l.Pairwise (fun x y=>lt x y=false)->(nj lt a l).Pairwise (fun x y=>lt x y=false)
 | [],_=>by simp[nj]
 |b::r,hp=>by
  unfold nj
  have Mv:=List.pairwise_cons.1 hp
  split
  ·rename_i hl
   refine List.pairwise_cons.2 ⟨fun y hy=> ?_,I1 h a r Mv.2⟩
   rcases List.mem_cons.1 ((tv a r).mem_iff.1 hy) with rfl |hy
   ·exact h.asymm hl
   ·exact Mv.1 _ hy
  ·rename_i hl
   have hl:lt a b=false:=by simpa using hl
   refine List.pairwise_cons.2 ⟨fun y hy=> ?_,hp⟩
   rcases List.mem_cons.1 hy with rfl |hy
   ·exact hl
   ·exact h.W9 hl (Mv.1 _ hy)
theorem Uv (h:Hj lt) {o:List α} (a:α) (hp:o.Pairwise (fun x y=>lt y x=false)):(dy lt o a).Pairwise (fun x y=>lt y x=false):=by
 unfold dy
 rw[List.pairwise_reverse]
 exact I1 h a _ (by rw[List.pairwise_reverse];exact hp)
theorem Ew (h:Hj lt): ∀(l o:List α),o.Pairwise (fun x y=>lt y x=false)->(l.foldl (dy lt) o).Pairwise (fun x y=>lt y x=false)
 | [],_,hp=>hp
 |a::r,_,hp=>Ew h r _ (Uv h a hp)
theorem OS (h:Hj lt) (l:List α):(cN lt l).Pairwise (fun x y=>lt y x=false):=Ew h l [] .nil
end
theorem xE {α β:Type} {lt:β->β->Bool} (h:Hj lt) (key:α->β) {a b:List α} (hk: ∀x∈a,∀y∈a,key x=key y->x=y) (hp:a.Perm b)
  (ha:a.Pairwise (fun x y=>lt (key y) (key x)=false)) (hb:b.Pairwise (fun x y=>lt (key y) (key x)=false)):a=b:=
 List.Perm.eq_of_pairwise (le:=fun x y=>lt (key y) (key x)=false) (fun x y hx hy h1 h2=>hk x hx y (hp.mem_iff.2 hy) (h.sM _ _ h2 h1)) ha hb hp
theorem Ex {α β:Type} {lt:β->β->Bool} (key:α->β) (a:α): ∀l:List α,(nj (fun x y=>lt (key x) (key y)) a l).map key=nj lt (key a) (l.map key)
 | []=>rfl
 |b::r=>by
  simp only[nj,List.map_cons]
  split
  ·simp[Ex key a r]
  ·simp
theorem OT {α β:Type} {lt:β->β->Bool} (key:α->β) (o:List α) (a:α):(dy (fun x y=>lt (key x) (key y)) o a).map key=dy lt (o.map key) (key a):=by
 unfold dy
 rw[List.map_reverse,Ex,List.map_reverse]
theorem Ar {α β:Type} {lt:β->β->Bool} (key:α->β): ∀l o:List α,(l.foldl (dy (fun x y=>lt (key x) (key y))) o).map key=(l.map key).foldl (dy lt) (o.map key)
 | [],_=>rfl
 |a::r,o=>by
  simp only[List.foldl_cons,List.map_cons]
  rw[Ar key r,OT]
theorem pJ {α β:Type} {lt:β->β->Bool} (h:Hj lt) (key:α->β) (l:List α):(cN (fun x y=>lt (key x) (key y)) l).Pairwise (fun x y=>lt (key y) (key x)=false):=by
 have e:(cN (fun x y=>lt (key x) (key y)) l).map key=cN lt (l.map key):=Ar key l []
 have:=OS h (l.map key)
 rw[<-e,List.pairwise_map] at this
 exact this
abbrev aS:aC:=(0,0,0)
inductive Up (T:List Pl):aC->List aC->Prop
 |top {x:aC} {p:Pl} (h:dT T x=some p) (h0:p.2.1=aS):Up T x [x]
 |step {x:aC} {p q:Pl} {w:List aC} (h:dT T x=some p) (h0:p.2.1≠aS) (hq:dT T p.2.1=some q) (hd:q.2.2.2=true) (hw:Up T p.2.1 w):Up T x (x::w)
section
variable {T:List Pl}
theorem iZ {x:aC} {p:Pl} (h:dT T x=some p):p∈T/\p.1=x:=by
 unfold dT at h
 exact⟨List.mem_of_find?_eq_some h,by simpa using List.find?_some h⟩
theorem Up.one {x:aC} {w:List aC} (h:Up T x w): ∀{w'},Up T x w'->w=w':=by
 induction h with
 |top h h0=>
  intro w' h'
  cases h' with
  |top=>rfl
  |step h1 h2=>rw[h] at h1;cases h1;exact absurd h0 h2
 |step h h0 hq hd hw ih=>
  intro w' h'
  cases h' with
  |top h1 h2=>rw[h] at h1;cases h1;exact absurd h2 h0
  |step h1 h2 _ _ h5=>rw[h] at h1;cases h1;rw[ih h5]
theorem Up.hd {x:aC} {w:List aC} (h:Up T x w): ∃r,w=x::r:=by
 cases h with
 |top=>exact⟨_,rfl⟩
 |step=>exact⟨_,rfl⟩
theorem Up.at {x:aC} {w:List aC} (h:Up T x w): ∃p,dT T x=some p:=by
 cases h with
 |top h=>exact⟨_,h⟩
 |step h=>exact⟨_,h⟩
theorem Up.sub {x:aC} {w:List aC} (h:Up T x w): ∀u∈w,∃w',Up T u w'/\w'.length<=w.length/\ ∃v,w=v++w':=by
 induction h with
 |top h h0=>
  intro u hu
  simp at hu
  subst hu
  exact⟨_,.top h h0,by simp,[],rfl⟩
 | @step x p q w h h0 hq hd hw ih=>
  intro u hu
  rcases List.mem_cons.1 hu with rfl |hu
  ·exact⟨_,.step h h0 hq hd hw,Nat.le_refl _,[],rfl⟩
  ·obtain⟨w',h1,h2,v,h3⟩:=ih u hu
   exact⟨w',h1,by simp;omega,x::v,by rw[h3];rfl⟩
theorem Up.nodup {x:aC} {w:List aC} (h:Up T x w):w.Nodup:=by
 induction h with
 |top=>simp
 | @step x p q w h h0 hq hd hw ih=>
  refine List.nodup_cons.2 ⟨fun hx=> ?_,ih⟩
  obtain⟨w',h1,h2,_⟩:=hw.sub x hx
  have:=h1.one (.step h h0 hq hd hw)
  rw[this] at h2
  simp at h2
  omega
theorem Up.len {x:aC} {w:List aC} (h:Up T x w):w.length<=T.length:=by
 have:w⊆T.map (·.1):=fun u hu=>by
  obtain⟨w',h1,_⟩:=h.sub u hu
  obtain⟨p,hp⟩:=h1.at
  obtain⟨h2,h3⟩:=iZ hp
  exact List.mem_map.2 ⟨p,h2,h3⟩
 simpa using h.nodup.length_le_of_subset this
theorem OU: ∀(n:Nat) (x:aC) (out l:List aC),Uu T n x out=some l->(∀p,0<out.length->dT T x=some p->p.2.2.2=true)-> ∃w,l=out++w/\Up T x w
 |0,_,_,_,h,_=>by cases h
 |n+1,x,out,l,h,hd=>by
  unfold Uu at h
  cases hp:dT T x with
  |none=>rw[hp] at h;cases h
  |some p=>
   rw[hp] at h
   simp only at h
   split at h
   ·cases h
   ·split at h
    ·cases h
     exact⟨[x],rfl,.top hp (by assumption)⟩
    ·rename_i h0 h1
     cases hq:dT T p.2.1 with
     |none=>
      cases n with
      |zero=>cases h
      |succ n=>unfold Uu at h;rw[hq] at h;cases h
     |some q=>
      have qd1:q.2.2.2=true:=by
       cases n with
       |zero=>cases h
       |succ n=>
        unfold Uu at h
        rw[hq] at h
        simp only at h
        split at h
        ·cases h
        ·rename_i hh
         cases hqd:q.2.2.2 with
         |true=>rfl
         |false=>exact absurd ⟨by simp,hqd⟩ hh
      obtain⟨w,e,hw⟩:=OU n p.2.1 (out++[x]) l h fun p' _ Mv=>by rw[hq] at Mv;cases Mv;exact qd1
      exact⟨x::w,by rw[e];simp,.step hp h1 hq qd1 hw⟩
theorem qaP {x:aC} {w:List aC} (h:Up T x w): ∀(n:Nat) (out:List aC),w.length<=n->(∀p,0<out.length->dT T x=some p->p.2.2.2=true)->Uu T n x out=some (out++w):=by
 induction h with
 | @top x p h h0=>
  intro n out hn hd
  cases n with
  |zero=>simp at hn
  |succ n=>
   unfold Uu
   simp only[h]
   rw[if_neg (fun hh=>by have:=hd p hh.1 h;rw[hh.2] at this;cases this),if_pos h0]
 | @step x p q w h h0 hq KD hw ih=>
  intro n out hn hd
  cases n with
  |zero=>simp at hn
  |succ n=>
   unfold Uu
   simp only[h]
   rw[if_neg (fun hh=>by have:=hd p hh.1 h;rw[hh.2] at this;cases this),if_neg h0]
   rw[ih n (out++[x]) (by simp at hn;omega) fun p' _ Mv=>by rw[hq] at Mv;cases Mv;exact KD]
   simp
theorem Hk {x:aC} {w:List aC}:wy T x=some w↔Up T x w:=by
 constructor
 ·intro h
  obtain⟨w',e,hw⟩:=OU _ _ _ _ h (fun _ h=>by simp at h)
  rw[e]
  exact hw
 ·intro h
  have:=qaP h (T.length+1) [] (by have:=h.len;omega) (fun _ h=>by simp at h)
  rw[List.nil_append] at this
  exact this
def sv (T:List Pl):Nat->aC->Bool
 |0,_=>false
 |n+1,x=>match dT T x with
  |none=>false
  |some p=>if p.2.1=aS then true else match dT T p.2.1 with
   |none=>false
   |some q=>if q.2.2.2=false then false else sv T n p.2.1
def kD (T:List Pl) (x:aC):Bool:=sv T (T.length+1) x
theorem Ey: ∀(n:Nat) (x:aC),sv T n x=true-> ∃w,Up T x w
 |0,_,h=>by cases h
 |n+1,x,h=>by
  unfold sv at h
  cases hp:dT T x with
  |none=>rw[hp] at h;cases h
  |some p=>
   rw[hp] at h
   simp only at h
   split at h
   ·exact⟨_,.top hp (by assumption)⟩
   ·rename_i h0
    cases hq:dT T p.2.1 with
    |none=>rw[hq] at h;cases h
    |some q=>
     rw[hq] at h
     simp only at h
     split at h
     ·cases h
     ·rename_i hd
      obtain⟨w,hw⟩:=Ey n _ h
      exact⟨_,.step hp h0 hq (by simpa using hd) hw⟩
theorem OV {x:aC} {w:List aC} (h:Up T x w): ∀n,w.length<=n->sv T n x=true:=by
 induction h with
 | @top x p h h0=>
  intro n hn
  cases n with
  |zero=>simp at hn
  |succ n=>unfold sv;simp only[h];rw[if_pos h0]
 | @step x p q w h h0 hq hd hw ih=>
  intro n hn
  cases n with
  |zero=>simp at hn
  |succ n=>
   unfold sv
   simp only[h,hq]
   rw[if_neg h0,if_neg (by rw[hd];simp)]
   exact ih n (by simp at hn;omega)
theorem xF {x:aC}:kD T x=true↔ ∃w,Up T x w:=
 ⟨Ey _ _,fun⟨_,h⟩=>OV h _ (by have:=h.len;omega)⟩
def lb (T:List Pl):Nat->aC->aC->Bool
 |0,_,_=>true
 |n+1,x,up=>if x=up then true else match dT T x with
  |none=>false
  |some p=>lb T n p.2.1 up
def within (T:List Pl) (x up:aC):Bool:=lb T (T.length+1) x up
theorem Hl {x:aC} {w:List aC} (h:Up T x w) {up:aC} (hu:up≠aS) (h00:dT T aS=none): ∀n,w.length<n->lb T n x up=decide (up∈w):=by
 induction h with
 | @top x p h h0=>
  intro n hn
  match n,hn with
  |n+2,_=>
   unfold lb
   simp only[h]
   split
   ·rename_i e;simp[e]
   ·rename_i e
    unfold lb
    rw[h0,if_neg (fun h=>hu h.symm)]
    simp only[h00]
    simpa using fun h:up=x=>e h.symm
  |1,hn=>simp at hn
 | @step x p q w h h0 hq hd hw ih=>
  intro n hn
  cases n with
  |zero=>simp at hn
  |succ n=>
   unfold lb
   simp only[h]
   split
   ·rename_i e;simp[e]
   ·rename_i e
    rw[ih n (by simp at hn;omega)]
    have:up≠x:=fun h=>e h.symm
    simp[this]
def marked (T:List Pl) (live:List aC) (z:aC):Bool:=live.any fun x=>match wy T x with |some w=>w.contains z |none=>false
theorem rk {live:List aC} {z:aC}:marked T live z=true↔ ∃x∈live,∃w,Up T x w/\z∈w:=by
 unfold marked
 rw[List.any_eq_true]
 constructor
 ·rintro⟨x,hx,h⟩
  cases hw:wy T x with
  |none=>rw[hw] at h;cases h
  |some w=>rw[hw] at h;exact⟨x,hx,w,Hk.1 hw,by simpa using h⟩
 ·rintro⟨x,hx,w,hw,hz⟩
  exact⟨x,hx,by rw[Hk.2 hw];simpa using hz⟩
def a8 (T:List Pl) (live:List aC):List Pl:=T.filter fun p=>marked T live p.1
theorem As {live:List aC} {z:aC} (h:marked T live z=true): ∃w,Up T z w/\ ∀u∈w,marked T live u=true:=by
 obtain⟨x,hx,w,hw,hz⟩:=rk.1 h
 obtain⟨w',h1,_,v,h3⟩:=hw.sub z hz
 exact⟨w',h1,fun u hu=>rk.2 ⟨x,hx,w,hw,by rw[h3];exact List.mem_append_right _ hu⟩⟩
def mkF (S:List aC):List aC->List aC
 | []=>S
 |u::r=>if u∈S then S else mkF (S++[u]) r
def UpC (T:List Pl) (S:List aC):Prop:= ∀z∈S,∃w,Up T z w/\ ∀u∈w,u∈S
theorem Uw {x:aC} {w:List aC} (h:Up T x w): ∀{S:List aC},(∀u∈w,u∈S-> ∀w',Up T u w'-> ∀z∈w',z∈S)-> ∀z,z∈mkF S w↔z∈S\/z∈w:=by
 induction h with
 | @top x p h h0=>
  intro S hC z
  unfold mkF
  split
  ·rename_i hx
   exact⟨.inl,fun h=>h.elim id fun hz=>by simp at hz;exact hz▸hx⟩
  ·simp[mkF]
 | @step x p q w h h0 hq hd hw ih=>
  intro S hC z
  unfold mkF
  split
  ·rename_i hx
   exact⟨.inl,fun hz=>hz.elim id fun hz=>hC x (by simp) hx _ (.step h h0 hq hd hw) z hz⟩
  ·rename_i hx
   have hn:=(Up.step h h0 hq hd hw).nodup
   have hxw:x∉w:=(List.nodup_cons.1 hn).1
   rw[ih (fun u hu hS w' Ec z hz=>by
    have hS':u∈S:=by
     rcases List.mem_append.1 hS with h |h
     ·exact h
     ·simp at h;subst h;exact absurd hu hxw
    exact List.mem_append_left _ (hC u (by simp[hu]) hS' w' Ec z hz))]
   simp[or_assoc]
theorem UpC.in {S:List aC} (h:UpC T S) {z:aC} (hz:z∈S) {w:List aC} (hw:Up T z w): ∀u∈w,u∈S:=by
 obtain⟨w',h1,h2⟩:=h z hz
 rw[hw.one h1]
 exact h2
theorem UpC.mk {x:aC} {w:List aC} (h:Up T x w) {S:List aC} (hS:UpC T S):UpC T (mkF S w)/\ ∀z,z∈mkF S w↔z∈S\/z∈w:=by
 have hm:=Uw h (S:=S) fun u _ hu w' Ec=>hS.in hu Ec
 refine⟨fun z hz=> ?_,hm⟩
 rcases(hm z).1 hz with hz |hz
 ·obtain⟨w',h1,h2⟩:=hS z hz
  exact⟨w',h1,fun u hu=>(hm u).2 (.inl (h2 u hu))⟩
 ·obtain⟨w',h1,_,v,h3⟩:=h.sub z hz
  exact⟨w',h1,fun u hu=>(hm u).2 (.inr (by rw[h3];exact List.mem_append_right _ hu))⟩
def qd2 (T:List Pl) (live:List aC):List aC:=(a8 T live).map (·.1)
def Uq (T:List Pl):Prop:=(T.map (·.1)).Nodup
theorem I2 (hu:Uq T) {p:Pl} (hp:p∈T):dT T p.1=some p:=by
 unfold dT
 unfold Uq at hu
 induction T with
 |nil=>cases hp
 |cons a r ih=>
  rw[List.map_cons,List.nodup_cons] at hu
  rw[List.find?_cons]
  rcases List.mem_cons.1 hp with rfl |hp
  ·simp
  ·have:(a.1==p.1)=false:=by
    simp only[beq_eq_false_iff_ne,ne_eq]
    exact fun e=>hu.1 (e▸List.mem_map_of_mem hp)
   rw[this]
   exact ih hu.2 hp
theorem Ez (hu:Uq T) (live:List aC):(qd2 T live).Nodup:=
 List.Nodup.sublist (List.filter_sublist.map _) hu
end
end Pi
namespace Pi
open Go Go.Proofs
abbrev ax:=Int×Int
structure a7 where
 kind:Int
 node:aC
 parent:aC
 name:List UInt8
 dir:Bool
 bT:List ax
 after:aC
 elem:aC
 text:List UInt8
 elems:List aC
structure aj where
 s:ax
 n:Int
 deps:List Int
 bN:ax
 ops:List a7
abbrev qC (a b:ax):Bool:=tq a.1 a.2 b.1 b.2
abbrev OW (a:ax):Bool:=BZ a.1 a.2
abbrev rgX (x:aC):Bool:=cC x.1 x.2.1 x.2.2
abbrev FA (x:aC):ax:=(x.1,x.2.1)
def kF (n:Nat) (f:Nat->Bool):Bool:=(List.range n).all f
theorem EA {n:Nat} {f:Nat->Bool}:kF n f=true↔ ∀i,i<n->f i=true:=by simp[kF]
theorem B8 {n i:Nat} {f:Nat->Bool} (hi:i<n) (h:f i=false):kF n f=false:=by
 cases hh:kF n f with
 |false=>rfl
 |true=>rw[EA.1 hh i hi] at h;cases h
theorem B9 {n:Nat} {f:Nat->Bool} (h: ∀i,i<n->f i=true):kF n f=true:=EA.2 h
def dA (s:ax) (k:Int) (x:aC):Bool:=rgX x&&(qC (FA x) s ||FA x==s&&decide (x.2.2<k))
def l6 (s:ax) (k:Int) (x:aC):Bool:=x==aS ||dA s k x
def lB (s:ax) (l:List ax) (i:Nat):Bool:=OW (l.getD i (0,0))&& !qC s (l.getD i (0,0))&&(i==0 ||qC (l.getD (i-1) (0,0)) (l.getD i (0,0)))
def oZ (s:ax) (l:List ax):Bool:=kF l.length (lB s l)&&decide (l.length<=200)
def Ca (s:ax) (k:Int) (l:List aC) (i:Nat):Bool:=dA s k (l.getD i aS)&&(i==0 ||Aq (l.getD (i-1) aS) (l.getD i aS))
def uX (s:ax) (k:Int) (l:List aC):Bool:=kF l.length (Ca s k l)&&decide (1<=l.length/\l.length<=2000)
def o4 (o:a7) (place dir bT run elems:Bool):Bool:=
 (place ||o.parent==aS&&o.name==[])&&(dir || !o.dir)&&(bT ||o.bT.length==0)&&(run ||o.after==aS&&o.elem==aS&&o.text==[])&&(elems ||o.elems.length==0)
def h9 (o:a7):Bool:=o4 o (o.kind==0 ||o.kind==1) (o.kind==0) (o.kind==2) (o.kind==3) (o.kind==4)
def Cb (s:List UInt8):Int:=Lib.runeCount ⟨⟨s⟩⟩
def o5 (s:List UInt8):Bool:=Lib.validD s&&decide (1<=Cb s/\Cb s<=2000)
def pK (s:ax) (k:Int) (o:a7):Option Int:=
 if h9 o=false then none
 else if o.kind=0 then(if o.node=(s.1,s.2,k)/\l6 s k o.parent=true/\eL o.name=true then some 1 else none)
 else if o.kind=1 then(if dA s k o.node=true/\l6 s k o.parent=true/\eL o.name=true then some 0 else none)
 else if o.kind=2 then(if dA s k o.node=true/\oZ s o.bT=true then some 0 else none)
 else if o.kind=3 then(if dA s k o.node=true/\l6 s k o.after=true/\o.elem=(s.1,s.2,k)/\o5 o.text=true then some (Cb o.text) else none)
 else if o.kind=4 then(if dA s k o.node=true/\uX s k o.elems=true then some 0 else none)
 else none
def jo (s:ax):Int->List a7->Bool
 |_,[]=>true
 |k,o::r=>match pK s k o with |some n=>jo s (k+n) r |none=>false
def Xw (g:aj):Bool:=OW g.s&&decide (1<=g.n/\g.n<=1099511627776)&&ux g.deps&&(uW g.deps g.s.2==g.n-1)
def cQ (g:aj):Bool:=Xw g&&(if g.bN≠(0,0) then OW g.bN&&qC g.bN g.s&&g.ops.length==0 else decide (1<=g.ops.length/\g.ops.length<=200)&&jo g.s 0 g.ops)
def OX:Nat->List UInt8->List (List UInt8)
 |0,_=>[]
 |n+1,s=>if s=[] then [] else s.take (Lib.decodeL s).2::OX n (s.drop (Lib.decodeL s).2)
def I3 (s:List UInt8):List (List UInt8):=OX s.length s
theorem vA {s:List UInt8} (h:s≠[]):1<=(Lib.decodeL s).2:=by
 refine Lib.decode_width_pos ⟨s.toArray⟩ 0 ?_
 exact List.length_pos_iff.2 h
theorem tA: ∀(n m:Nat) (s:List UInt8),s.length<=n->s.length<=m->OX n s=OX m s
 |0,0,_,_,_=>rfl
 |0,m+1,s,h,_=>by
  have:s=[]:=List.eq_nil_of_length_eq_zero (by omega)
  subst this
  rfl
 |n+1,0,s,_,h=>by
  have:s=[]:=List.eq_nil_of_length_eq_zero (by omega)
  subst this
  rfl
 |n+1,m+1,s,h1,h2=>by
  unfold OX
  split
  ·rfl
  ·rename_i dz
   have:=vA dz
   have hl:0<s.length:=List.length_pos_iff.2 dz
   rw[tA n m _ (by rw[List.length_drop];omega) (by rw[List.length_drop];omega)]
theorem Ux:I3 []=[]:=rfl
theorem EB {s:List UInt8} (h:s≠[]):I3 s=s.take (Lib.decodeL s).2::I3 (s.drop (Lib.decodeL s).2):=by
 have hl:0<s.length:=List.length_pos_iff.2 h
 have:=vA h
 unfold I3
 rw[tA s.length ((s.length-1)+1) s (Nat.le_refl _) (by omega)]
 show(if s=[] then [] else _)=_
 rw[if_neg h]
 rw[tA (s.length-1) (s.drop (Lib.decodeL s).2).length _ (by rw[List.length_drop];omega) (Nat.le_refl _)]
theorem Uy {s:List UInt8} (h:s≠[]):Lib.runeCount ⟨s.toArray⟩=1+Lib.runeCount ⟨(s.drop (Lib.decodeL s).2).toArray⟩:=by
 have hl:0<s.length:=List.length_pos_iff.2 h
 have hp:=vA h
 have hle:=Lib.decodeL_le s h
 have hs:(ByteArray.mk s.toArray).size=s.length:=rfl
 have e1:Lib.runeCount ⟨s.toArray⟩=Lib.runeCountFrom ⟨s.toArray⟩ ((s.length-1)+1) 0:=by
  unfold Lib.runeCount
  exact Lib.fuel_enough _ _ _ _ (by omega) (by omega)
 rw[e1]
 unfold Lib.runeCountFrom
 rw[if_pos (by rw[hs];exact hl)]
 have ex:(ByteArray.mk (s.drop (Lib.decodeL s).2).toArray)=(ByteArray.mk s.toArray).extract (Lib.decodeL s).2 (ByteArray.mk s.toArray).size:=by
  apply ByteArray.ext
  simp[ByteArray.data_extract,hs]
  rw[<-List.length_drop,List.take_length]
 have e2:Lib.runeCount ⟨(s.drop (Lib.decodeL s).2).toArray⟩=Lib.runeCountFrom ⟨s.toArray⟩ (s.length-(Lib.decodeL s).2) (Lib.decodeL s).2:=by
  unfold Lib.runeCount
  have hz:(ByteArray.mk (s.drop (Lib.decodeL s).2).toArray).size=s.length-(Lib.decodeL s).2:=by
   show(s.drop (Lib.decodeL s).2).toArray.size=_
   simp
  rw[hz,ex,Lib.tail_count]
  rfl
 rw[e2]
 show 1+Lib.runeCountFrom _ (s.length-1) (0+(Lib.decodeL s).2)=_
 rw[Nat.zero_add]
 congr 1
 exact Lib.fuel_enough _ _ _ _ (by omega) (by omega)
theorem Hm: ∀(n:Nat) (s:List UInt8),s.length<=n->Lib.runeCount ⟨s.toArray⟩=(I3 s).length
 |0,s,h=>by
  have:s=[]:=List.eq_nil_of_length_eq_zero (by omega)
  subst this
  rfl
 |n+1,s,h=>by
  by_cases hs:s=[]
  ·subst hs;rfl
  ·have:=vA hs
   have hl:0<s.length:=List.length_pos_iff.2 hs
   rw[Uy hs,EB hs,List.length_cons,Hm n _ (by rw[List.length_drop];omega)]
   omega
theorem xG (s:List UInt8):Cb s=((I3 s).length:Nat):=by
 unfold Cb
 rw[<-Hm s.length s (Nat.le_refl _)]
theorem I4 (s:List UInt8):(I3 s).length<=s.length:=by
 rw[<-Hm s.length s (Nat.le_refl _)]
 exact Lib.runeCount_le _
end Pi
namespace Pi
open Go Go.Proofs
set_option maxRecDepth 100000
set_option maxHeartbeats 0
def qaQ:S->K (PX×S):=fun st post=> ∃s,st=rsH s []/\s.length<=2000000/\(Lib.validD s=false-> ∀o:List (List UInt8),post (.ret,⟨29,[(2,.sl 0 0 0),(3,iD 60),(4,.sl 1 0 o.length)],[(0,⟨0,none,.arr 9 false []⟩),(1,⟨0,none,.arr 9 false (o.map D.str)⟩)]⟩))/\(Lib.validD s=true-> ∀o:List (List UInt8),o=I3 s->post (.exit 0,⟨29,[(4,.sl 0 0 o.length)],[(0,⟨0,none,.arr 9 false (o.map D.str)⟩)]⟩))
def Cc:bm:=fun ps R post=> ∃s,ps=[sD s]/\R=[]/\s.length<=2000000/\(Lib.validD s=false->post (.da [.sl 0 0 0,iD 60],[(0,⟨0,none,.arr 9 false []⟩)]))/\(Lib.validD s=true-> ∀o:List (List UInt8),o=I3 s->post (.da [.sl 0 0 o.length,iD 0],[(0,⟨0,none,.arr 9 false (o.map D.str)⟩)]))
def Au:bm:=fun ps R post=> ∃s,ps=[sD s]/\R=[]/\s.length<=2000000/\(Lib.validD s=false->post (.da [iD 0,iD 60],[]))/\(Lib.validD s=true-> ∀n,n=Cb s->post (.da [iD n,iD 0],[]))
theorem qd3 (s:List UInt8) (post:P×List (Nat×En)->Prop):(∃(hZ:List UInt8),Z1N s=Z1N hZ/\K7 hZ/\Z1P hZ post/\(Xq hZ-> ∀(o:List (List UInt8)),o=I3 hZ->Z1S post o))=(aH [] [(2,ae (aK 144 2) qaQ)] 144 [sD s] []) post:=by kernel_rfl
theorem qd4 (s:List UInt8) (post:P×List (Nat×En)->Prop):(∃(hZ:List UInt8),xw s=xw hZ/\Zw/\K7 hZ/\(Xr hZ->post (P.da (P.d Z7::Z1m),[]))/\(Xq hZ-> ∀(o:List (List UInt8)),o=I3 hZ->Z1T post o))=(aH [(144,Cc)] [] 142 [sD s] []) post:=by kernel_rfl
end Pi
namespace Pi
open Go Go.Proofs
set_option maxRecDepth 100000
section
variable {X:XF}
theorem Uz:LD X 144 2 (ae (aK 144 2) qaQ):=LD.par (H:=[(168,Hf)]) (hk:=[]) (by kernel_rfl) (by kernel_rfl) (.cons Um .nil) .nil
 (A:=List UInt8) (B:=List UInt8×List (List UInt8)) (fun _ b=>rsH b.1 b.2)
 (fun a b=>a.length<=2000000/\b.1.length+b.2.length<=a.length/\Lib.validD b.1=Lib.validD a/\b.2++I3 b.1=I3 a)
 (fun _ b=>b.1.length)
 (fun a x=>(Lib.validD a=false/\ ∃o:List (List UInt8),x=(.ret,⟨29,[(2,.sl 0 0 0),(3,iD 60),(4,.sl 1 0 o.length)],[(0,⟨0,none,.arr 9 false []⟩),(1,⟨0,none,.arr 9 false (o.map D.str)⟩)]⟩))\/(Lib.validD a=true/\ ∃o:List (List UInt8),o=I3 a/\x=(.exit 0,⟨29,[(4,.sl 0 0 o.length)],[(0,⟨0,none,.arr 9 false (o.map D.str)⟩)]⟩)))
 (by
  rintro a ⟨s,o⟩ ⟨ha,hl,hv,hpc⟩
  dsimp only at*
  (rw[<-qdT];delta Zg Z1U sr Z1R Z1M ZO K7 Zw xw B4)
  refine bb (fun h=> ?_) fun h=> ?_
  ·have dz:s≠[]:=fun e=>by subst e;simp at h
   have jj:=Lib.validD_step s dz
   refine⟨s,rfl,rfl,⟨dz,by omega⟩,fun hb c n=> .inl ⟨?_,o,rfl⟩,fun hb c n hn h1 hle=> ?_⟩
   ·unfold He at hb
    rw[<-hv,jj,if_pos hb]
   ·unfold He at hb
    rw[if_neg hb] at jj
    refine bp (by omega) (aq (qdE (by simp;omega) (by simp;omega) _ (by simp)) (bp (by omega) ?_))
    refine⟨_,?_,(s.drop n.toNat,o++[s.take n.toNat]),?_,⟨ha,?_,?_,?_⟩,rfl⟩
    ·dsimp only
     rw[List.length_drop];omega
    ·rw[List.take_length,List.take_of_length_le (l:=List.map D.str o) (by simp),List.drop_zero]
     simp only[rsH,List.map_append,List.map_cons,List.map_nil,List.length_append,List.length_cons,List.length_nil]
    ·dsimp only
     rw[List.length_drop,List.length_append];simp;omega
    ·dsimp only
     rw[<-hv,jj,hn]
     rfl
    ·dsimp only
     rw[<-hpc,EB dz,List.append_assoc,hn]
     rfl
  ·have:s=[]:=List.eq_nil_of_length_eq_zero (by omega)
   subst this
   exact .inr ⟨hv.symm.trans Lib.validD_nil,o,by rw[<-hpc,Ux,List.append_nil],rfl⟩)
 (by
  rintro st post ⟨s,rfl,hs,h1,h2⟩
  refine⟨s,(s,[]),rfl,⟨hs,by simp,rfl,rfl⟩,?_⟩
  rintro x (⟨h3,o,rfl⟩| ⟨h3,o,h4,rfl⟩)
  ·exact h1 h3 o
  ·exact h2 h3 o h4)
theorem OY:FD X 144 Cc:=FD.mk (H:=[]) (hk:=[(2,ae (aK 144 2) qaQ)]) (by kernel_rfl) .nil (.cons Uz .nil) (by
 intro ps R post hh
 obtain⟨s,rfl,rfl,hs,h1,h2⟩:=hh
 (rw[<-qd3];delta Z1R Z7 ZY Z1S Xq Z1M Z1m ZO Xr Z1P sr K7 Z1N)
 exact⟨s,rfl,hs,fun h o=>h1 h,fun h o=>h2 h o⟩)
theorem UA:FD X 142 Au:=FD.mk (H:=[(144,Cc)]) (hk:=[]) (by kernel_rfl) (.cons OY .nil) .nil (by
 intro ps R post hh
 obtain⟨s,rfl,rfl,hs,h1,h2⟩:=hh
 (rw[<-qd4];delta Z7 ZY Z1T Xq Z1m Xr sr K7 Zw xw)
 refine⟨s,rfl,rfl,hs,fun h=>h1 h,fun h o ho=>h2 h _ ?_⟩
 rw[ho,xG])
theorem qaR:FD X 115 Au:=FD.mk (H:=[(148,Hb),(149,Hc)]) (hk:=[]) (by kernel_rfl) (.cons Uj (.cons Uk .nil)) .nil (by
 intro ps R post hh
 obtain⟨s,rfl,rfl,hs,h1,h2⟩:=hh
 (rw[<-qdS];delta Z7 ZY Z1m sr K7 Zw xw)
 refine⟨s,rfl,rfl,hs,aw (fun h=>h1 (by simpa using h)) fun h=>⟨s,rfl,rfl,hs,h2 (by simpa using h) _ rfl⟩⟩)
end
def ja {α:Type} (t:α->Bool) (l:List α):Int:=match l.findIdx? t with |some i=>(i:Int)|none=> -1
theorem EC {α:Type} {t:α->Bool} {l:List α} {i:Nat} (hi:i<l.length) (ht:t l[i]=true) (hb: ∀j (hj:j<i),t (l[j]'(by omega))=false):ja t l=(i:Int):=by
 unfold ja
 rw[List.findIdx?_eq_some_iff_getElem.2 ⟨hi,ht,fun j hj=>by rw[hb j hj];simp⟩]
theorem I5 {α:Type} {t:α->Bool} {l:List α} (h: ∀j (hj:j<l.length),t l[j]=false):ja t l= -1:=by
 unfold ja
 rw[List.findIdx?_eq_none_iff.2 fun x hx=>by obtain⟨j,hj,rfl⟩:=List.getElem_of_mem hx;exact h j hj]
theorem xH {α:Type} (t:α->Bool) (l:List α):ja t l<0↔l.any t=false:=by
 unfold ja
 split
 ·rename_i i h
  obtain⟨hi,ht,_⟩:=List.findIdx?_eq_some_iff_getElem.1 h
  constructor
  ·intro h;omega
  ·intro h2
   rw[List.any_eq_false] at h2
   exact absurd ht (h2 _ (List.getElem_mem hi))
 ·rename_i h
  refine⟨fun _=> ?_,fun _=>by omega⟩
  rw[List.any_eq_false]
  intro x hx
  have:=(List.findIdx?_eq_none_iff.1 h) x hx
  simp[this]
variable {X:XF}
theorem LD.idx {H:List (FuncId×bm)} {hk:List (Nat×(S->K (PX×S)))} {f id:Nat} {g:S->K (PX×S)} (hu:uniq PR f=true) (hc:bW (pI f) (bt PR f id)=true) (hH:HD X H) (hl:OB X f hk)
  {A B:Type} (hd:A->B->Int->S) (len:A->Nat) (Inv:A->Nat->B->Prop) (Out:A->PX×S->Prop)
  (hr: ∀a b (k:Int) post,0<=k->k<len a->k.toNat<len a->Inv a k.toNat b->(∀b',Inv a (k.toNat+1) b'->post (.normal,hd a b' (k+1)))->(∀x,x.1≠ .normal->Out a x->post x)->aF H hk f id (hd a b k) post)
  (hx: ∀a b (k:Int) post,k=len a->Inv a (len a) b->(∀x,x.1≠ .normal->Out a x->post x)->aF H hk f id (hd a b k) post)
  (hg: ∀s post,g s post-> ∃a b,s=hd a b 0/\Inv a 0 b/\ ∀x,Out a x->post x):LD X f id (ae (aK f id) g):=
 LD.par hu hc hH hl (A:=A) (B:=B×Int) (fun a b=>hd a b.1 b.2) (fun a b=>0<=b.2/\b.2.toNat<=len a/\Inv a b.2.toNat b.1) (fun a b=>(len a-b.2).toNat) Out
  (by
   rintro a ⟨b,k⟩ ⟨h1,h2,h3⟩
   dsimp only at*
   have cp: ∀x:PX×S,x.1≠ .normal->Out a x->roundPost ((len a-k).toNat) (fun m s=> ∃b':B×Int,s=hd a b'.1 b'.2/\(0<=b'.2/\b'.2.toNat<=len a/\Inv a b'.2.toNat b'.1)/\m=(len a-b'.2).toNat) (Out a) x:=by
    rintro⟨e,s⟩ dz hx
    cases e with
    |normal=>exact absurd rfl dz
    |exit i=>exact hx
    |ret=>exact hx
   by_cases hk:k<len a
   ·refine hr a b k _ h1 hk (by omega) h3 (fun b' hb=> ?_) cp
    exact⟨((len a:Int)-(k+1)).toNat,by omega,(b',k+1),rfl,⟨by show 0<=k+1;omega,by show(k+1).toNat<=len a;omega,by show Inv a (k+1).toNat b';rw[show(k+1).toNat=k.toNat+1 by omega];exact hb⟩,rfl⟩
   ·have e:k=len a:=by omega
    refine hx a b k _ e ?_ cp
    have:k.toNat=len a:=by omega
    rwa [this] at h3)
  (by
   intro s post hp
   obtain⟨a,b,h1,h2,h3⟩:=hg s post hp
   exact⟨a,(b,0),h1,⟨Int.le_refl _,by simp,h2⟩,h3⟩)
theorem LD.find {H:List (FuncId×bm)} {hk:List (Nat×(S->K (PX×S)))} {f id:Nat} {g:S->K (PX×S)} (hu:uniq PR f=true) (hc:bW (pI f) (bt PR f id)=true) (hH:HD X H) (hl:OB X f hk)
  {A α:Type} (hd:A->Int->S) (nU:A->List α) (t:A->Nat->α->Bool) (C:A->Prop) (rt:A->Int->PX×S) (ex:A->PX×S) (qgh: ∀a k,(rt a k).1≠ .normal) (qgi: ∀a,(ex a).1≠ .normal)
  (hr: ∀a (k:Int) post (eb:k.toNat<(nU a).length),C a->0<=k->k<(nU a).length->(t a k.toNat (nU a)[k.toNat]=true->post (rt a k))->(t a k.toNat (nU a)[k.toNat]=false->post (.normal,hd a (k+1)))->aF H hk f id (hd a k) post)
  (hx: ∀a (k:Int) post,C a->k=(nU a).length->post (ex a)->aF H hk f id (hd a k) post)
  (hg: ∀s post,g s post-> ∃a,s=hd a 0/\C a/\(∀(i:Int) (hi:i.toNat<(nU a).length),0<=i->t a i.toNat (nU a)[i.toNat]=true->(∀j (hj:j<i.toNat),t a j ((nU a)[j]'(by omega))=false)->post (rt a i))/\((∀j (hj:j<(nU a).length),t a j (nU a)[j]=false)->post (ex a))):LD X f id (ae (aK f id) g):=
 LD.idx hu hc hH hl (A:=A) (B:=Unit) (fun a _ k=>hd a k) (fun a=>(nU a).length) (fun a k _=>C a/\ ∀j (hj:j<(nU a).length),j<k->t a j (nU a)[j]=false)
  (fun a x=>(∃(i:Int) (hi:i.toNat<(nU a).length),0<=i/\t a i.toNat (nU a)[i.toNat]=true/\(∀j (hj:j<i.toNat),t a j ((nU a)[j]'(by omega))=false)/\x=rt a i)\/((∀j (hj:j<(nU a).length),t a j (nU a)[j]=false)/\x=ex a))
  (by
   intro a _ k post h0 hk eb ⟨hC,hI⟩ hn ho
   refine hr a k post eb hC h0 hk (fun ht=>ho _ (qgh a k) (.inl ⟨k,eb,h0,ht,fun j hj=>hI j (by omega) hj,rfl⟩)) fun ht=>hn () ⟨hC,fun j hj hjk=> ?_⟩
   by_cases e:j=k.toNat
   ·subst e;exact ht
   ·exact hI j hj (by omega))
  (by
   intro a _ k post hk ⟨hC,hI⟩ ho
   exact hx a k post hC hk (ho _ (qgi a) (.inr ⟨fun j hj=>hI j hj hj,rfl⟩)))
  (by
   intro s post hp
   obtain⟨a,h1,h2,h3,h4⟩:=hg s post hp
   refine⟨a,(),h1,⟨h2,fun j _ hj=>by omega⟩,?_⟩
   rintro x (⟨i,hi,g1,g2,g3,rfl⟩| ⟨g1,rfl⟩)
   ·exact h3 i hi g1 g2 g3
   ·exact h4 g1)
end Pi
namespace Pi
open Go Go.Proofs
set_option maxRecDepth 100000
set_option maxHeartbeats 0
abbrev iE (n:Int):D:= .int .i64 n
def aX (s:ax):D:= .agg [iE s.1,iE s.2]
def gM (o:a7):D:= .agg [iE o.kind,iE o.node.1,iE o.node.2.1,iE o.node.2.2,iE o.parent.1,iE o.parent.2.1,iE o.parent.2.2,.str o.name,.bool o.dir,.sl 2 (o.bT.map aX),
 iE o.after.1,iE o.after.2.1,iE o.after.2.2,iE o.elem.1,iE o.elem.2.1,iE o.elem.2.2,.str o.text,.sl 3 (o.elems.map bH)]
def aP (g:aj):D:= .agg [iE g.s.1,iE g.s.2,iE g.n,.sl 1 (bx g.deps),iE g.bN.1,iE g.bN.2,.sl 18 (g.ops.map gM)]
abbrev bO (l:List aj):P:= .d (.sl 7 (l.map aP))
abbrev qaS (l:List a7):P:= .d (.sl 18 (l.map gM))
abbrev fE (l:List ax):P:= .d (.sl 2 (l.map aX))
structure Lb (a b:ax) (c:Int):Prop where
 lt:c<0↔qC a b=true
 gt:c>0↔qC b a=true
structure I6 (a b:aC) (c:Int):Prop where
 lt:c<0↔Aq a b=true
 gt:c>0↔Aq b a=true
def xI:bm:=fun ps R post=> ∃a b,ps=[.d (aX a),.d (aX b)]/\R=[]/\ ∀c,Lb a b c->post (iD c,[])
def pL:bm:=fun ps R post=> ∃x y,ps=[.d (bH x),.d (bH y)]/\R=[]/\ ∀c,I6 x y c->post (iD c,[])
def uY:bm:=fun ps R post=> ∃s,ps=[.d (aX s)]/\R=[]/\ ∀b,b=OW s->post (kP b,[])
def Lc:bm:=fun ps R post=> ∃x,ps=[.d (bH x)]/\R=[]/\ ∀b,b=rgX x->post (kP b,[])
def o6:bm:=fun ps R post=> ∃a b,ps=[.d (aX a),.d (aX b)]/\R=[]/\ ∀r,r=qC a b->post (kP r,[])
abbrev ckB (g:aj) (k:Int):Obj:= .box 149 [iD g.s.1,iD g.s.2,iD g.n,.d (.sl 1 (bx g.deps)),iD g.bN.1,iD g.bN.2,qaS g.ops,iD k]
abbrev uz (g:aj) (k:Int):List (Nat×En):=[(0,⟨0,some 0,ckB g k⟩)]
theorem qd5 (s:ax) (post:P×List (Nat×En)->Prop):(bif decide (Prod.fst s>=(1:Int)) then bif decide (Prod.fst s<=Z1) then bif decide (Prod.snd s>=(1:Int)) then post (P.d (D.bool (decide (Prod.snd s<=(16:Int)))),[]) else Z4 post else Z4 post else Z4 post)=(aH [] [] 82 [.d (aX s)] []) post:=by kernel_rfl
theorem qaT (s:ax) (post:P×List (Nat×En)->Prop):(bif decide (Prod.fst s>=(1:Int)) then bif decide (Prod.fst s<=Z1) then bif decide (Prod.snd s>=(1:Int)) then post (P.d (D.bool (decide (Prod.snd s<=(16:Int)))),[]) else Z4 post else Z4 post else Z4 post)=(aH [] [] 104 [.d (aX s)] []) post:=by kernel_rfl
def nk (g:aj):P:=P.d (D.sl 18 (List.map gM (aj.ops g)))
def ia (g:aj):D:=D.int IntKind.i64 (Prod.snd (aj.bN g))
def ib (g:aj):D:=D.int IntKind.i64 (Prod.fst (aj.bN g))
def lC (g:aj):P:=P.d (D.sl 1 (bx (aj.deps g)))
def ob (g:aj):P:=P.d (D.int IntKind.i64 (aj.n g))
def ic (g:aj):Int:=Prod.snd (aj.s g)
def fO (g:aj):D:=D.int IntKind.i64 (ic g)
def ie (g:aj):Int:=Prod.fst (aj.s g)
def gb (g:aj):D:=D.int IntKind.i64 (ie g)
def Ld (g:aj) (k:Int):Obj:=Obj.box (149:TypeId) (P.d (gb g)::P.d (fO g)::ob g::lC g::P.d (ib g)::P.d (ia g)::nk g::Zu k)
def qD (g:aj) (k:Int):List (Nat×En):=[(0,En.mk 0 (some 0) (Ld g k))]
def Hn (post:P×List (Nat×En)->Prop) (g:aj) (k:Int):Prop:=post (P.d Z3,qD g k)
def lD (x:aC):Int:=Prod.snd (Prod.snd x)
def lE (x:aC):Int:=Prod.fst (Prod.snd x)
def Z2n (x:aC) (g:aj):Bool:=Prod.fst x==ie g&&(lE x==ic g&&true)
def mr (a:ax):D:=D.agg [D.int IntKind.i64 (Prod.fst a),D.int IntKind.i64 (Prod.snd a)]
def nq (b:ax):List P:=[P.d (mr b)]
def ED (a:ax) (b:ax):List P:=P.d (mr a)::nq b
def Le (g:aj):P:=P.d (D.agg [gb g,fO g])
def I7 (g:aj):List P:=[Le g]
def Z2f (x:aC) (g:aj) (a:ax) (b:ax):Prop:=P.d (D.agg [D.int IntKind.i64 (Prod.fst x),D.int IntKind.i64 (lE x)])::I7 g=ED a b
def uZ (x:aC):P:=P.d (D.agg [D.int IntKind.i64 (Prod.fst x),D.int IntKind.i64 (lE x),D.int IntKind.i64 (lD x)])
def kW (x:aC):List P:=[uZ x]
theorem UB (g:aj) (k:Int) (x:aC) (post:P×List (Nat×En)->Prop):(∃(aM:aC),kW x=kW aM/\Zw/\ ∀(b:Bool),b=rgX aM->bif b then∃(a:ax) (b:ax),Z2f x g a b/\Zw/\ ∀(c:Int),Lb a b c->bif K4 c then post (ZM,qD g k) else bif Z2n x g then post (P.d (D.bool (decide (lD x<k))),qD g k) else Hn post g k else Hn post g k)=(aH [(147,Lc),(66,xI)] [] 113 [.ref 0 0 0,.d (bH x)] (uz g k)) post:=by kernel_rfl
def rl:bm:=fun ps R post=> ∃g k x,ps=[.ref 0 0 0,.d (bH x)]/\R=uz g k/\ ∀b,b=dA g.s k x->post (kP b,uz g k)
def iz (b:Bool):P:=P.d (D.bool b)
def yu (b:Bool) (aO:aj) (ca:Int) (aM:aC):Prop:=b=dA (aj.s aO) ca aM
def Av (g:aj) (k:Int) (aO:aj) (ca:Int):Prop:=qD g k=qD aO ca
def bQ:P:=P.ref 0 0 0
def Z2p (x:aC):Bool:=Prod.fst x==(0:Int)&&(lE x==(0:Int)&&true)&&(lD x==(0:Int)&&true)
theorem OZ (g:aj) (k:Int) (x:aC) (post:P×List (Nat×En)->Prop):(bif Z2p x then post (ZM,qD g k) else∃(aO:aj) (ca:Int) (aM:aC),bQ::kW x=bQ::kW aM/\Av g k aO ca/\ ∀(b:Bool),yu b aO ca aM->post (iz b,qD aO ca))=(aH [(113,rl)] [] 111 [.ref 0 0 0,.d (bH x)] (uz g k)) post:=by kernel_rfl
def Cd:bm:=fun ps R post=> ∃g k x,ps=[.ref 0 0 0,.d (bH x)]/\R=uz g k/\ ∀b,b=l6 g.s k x->post (kP b,uz g k)
def plainO (o:a7):a7:=
 if o.kind=0 then⟨o.kind,o.node,o.parent,o.name,o.dir,[],aS,aS,[],[]⟩
 else if o.kind=1 then⟨o.kind,o.node,o.parent,o.name,false,[],aS,aS,[],[]⟩
 else if o.kind=2 then⟨o.kind,o.node,aS,[],false,o.bT,aS,aS,[],[]⟩
 else if o.kind=3 then⟨o.kind,o.node,aS,[],false,[],o.after,o.elem,o.text,[]⟩
 else if o.kind=4 then⟨o.kind,o.node,aS,[],false,[],aS,aS,[],o.elems⟩
 else⟨o.kind,o.node,aS,[],false,[],aS,aS,[],[]⟩
def Ce:bm:=fun ps R post=> ∃o,ps=[.d (gM o)]/\R=[]/\ ∀p,p=plainO o->post (.d (gM p),[])
def Sr (o:a7):List D:=[D.sl 3 (List.map bH (a7.elems o))]
def vB (o:a7):Int:=Prod.snd (Prod.snd (a7.elem o))
def vC (o:a7):Int:=Prod.fst (Prod.snd (a7.elem o))
def vE (o:a7):Int:=Prod.fst (a7.elem o)
def zb (o:a7):Int:=Prod.snd (Prod.snd (a7.after o))
def Aw (o:a7):D:=D.int IntKind.i64 (zb o)
def zd (o:a7):Int:=Prod.fst (Prod.snd (a7.after o))
def Ax (o:a7):D:=D.int IntKind.i64 (zd o)
def Ay (o:a7):D:=D.int IntKind.i64 (Prod.fst (a7.after o))
def Z2D:List D:=[Z7,Z7,Z7,Z7,Z7,Z7,Fz,D.sl 3 []]
def kQ (o:a7):D:=D.sl 2 (List.map aX (a7.bT o))
def Z2E:List D:=D.sl 2 []::Z2D
def ze (o:a7):Int:=Prod.snd (Prod.snd (a7.parent o))
def zf (o:a7):D:=D.int IntKind.i64 (ze o)
def zg (o:a7):Int:=Prod.fst (Prod.snd (a7.parent o))
def zh (o:a7):D:=D.int IntKind.i64 (zg o)
def zi (o:a7):D:=D.int IntKind.i64 (Prod.fst (a7.parent o))
def uA (o:a7):D:=D.int IntKind.i64 (Prod.snd (Prod.snd (a7.node o)))
def uB (o:a7):D:=D.int IntKind.i64 (Prod.fst (Prod.snd (a7.node o)))
def uC (o:a7):D:=D.int IntKind.i64 (Prod.fst (a7.node o))
def vF (o:a7):D:=D.int IntKind.i64 (a7.kind o)
theorem O0 (o:a7) (post:P×List (Nat×En)->Prop):(bif a7.kind o==(0:Int) then post (P.d (D.agg (vF o::uC o::uB o::uA o::zi o::zh o::zf o::D.str (a7.name o)::D.bool (a7.dir o)::Z2E)),[]) else bif a7.kind o==(1:Int) then post (P.d (D.agg (vF o::uC o::uB o::uA o::zi o::zh o::zf o::D.str (a7.name o)::Z3::Z2E)),[]) else bif a7.kind o==(2:Int) then post (P.d (D.agg (vF o::uC o::uB o::uA o::Z7::Z7::Z7::Fz::Z3::kQ o::Z2D)),[]) else bif a7.kind o==(3:Int) then post (P.d (D.agg [vF o,uC o,uB o,uA o,Z7,Z7,Z7,Fz,Z3,D.sl 2 [],Ay o,Ax o,Aw o,D.int IntKind.i64 (vE o),D.int IntKind.i64 (vC o),D.int IntKind.i64 (vB o),D.str (a7.text o),D.sl 3 []]),[]) else bif a7.kind o==(4:Int) then post (P.d (D.agg (vF o::uC o::uB o::uA o::Z7::Z7::Z7::Fz::Z3::D.sl 2 []::Z7::Z7::Z7::Z7::Z7::Z7::Fz::Sr o)),[]) else post (P.d (D.agg (vF o::uC o::uB o::uA o::Z7::Z7::Z7::Fz::Z3::Z2E)),[]))=(aH [] [] 145 [.d (gM o)] []) post:=by kernel_rfl
def Z2R (p:a7):Int:=(↑(List.length (List.map bH (a7.elems p))):Int)
def mv (p:a7):Int:=(↑(List.length (List.map aX (a7.bT p))):Int)
def Cf (o:a7):P:=P.d (D.agg (vF o::uC o::uB o::uA o::zi o::zh o::zf o::D.str (a7.name o)::D.bool (a7.dir o)::kQ o::Ay o::Ax o::Aw o::D.int IntKind.i64 (vE o)::D.int IntKind.i64 (vC o)::D.int IntKind.i64 (vB o)::D.str (a7.text o)::Sr o))
theorem qaU (o:a7) (post:P×List (Nat×En)->Prop):(∃(aQ:a7),[Cf o]=[Cf aQ]/\Zw/\ ∀(p:a7),p=plainO aQ->bif Prod.fst (a7.parent p)==Prod.fst (a7.parent o)&&(zg p==zg o&&true)&&(ze p==ze o&&true) then bif a7.name p==a7.name o then bif a7.dir p==a7.dir o then bif Prod.fst (a7.after p)==Prod.fst (a7.after o)&&(zd p==zd o&&true)&&(zb p==zb o&&true) then bif vE p==vE o&&(vC p==vC o&&true)&&(vB p==vB o&&true) then bif a7.text p==a7.text o then bif mv p==mv o then post (P.d (D.bool (Z2R p==Z2R o)),[]) else Z4 post else Z4 post else Z4 post else Z4 post else Z4 post else Z4 post else Z4 post)=(aH [(145,Ce)] [] 109 [.d (gM o)] []) post:=by kernel_rfl
def Ho:bm:=fun ps R post=> ∃o,ps=[.d (gM o)]/\R=[]/\ ∀b,b=h9 o->post (kP b,[])
abbrev dtH (g:aj) (k:Int) (l:List ax) (i:Int):S:=⟨45,[(0,.ref 0 0 0),(1,fE l),(7,fE l),(8,iD ((l.map aX).length:Int)),(9,iD i)],uz g k⟩
def kG (l:List ax):P:=P.d (D.sl 2 (List.map aX l))
def Hp (l:List ax):Nat×P:=(1,kG l)
def eO:Nat×P:=(0,bQ)
def zj (l:List ax):Int:=(↑(List.length (List.map aX l)):Int)
def Z34 (i:Int) (post:PX×S->Prop) (l:List ax) (g:aj) (k:Int):Prop:=bif Zj i then post (PX.normal,S.mk 45 (eO::Hp l::(7,kG l)::(8,P.d (D.int IntKind.i64 (zj l)))::ZF i) (qD g k)) else False
def FB (l:List ax) (i:Int):Int:=D.ah (D.ao (D.nth (List.map aX l) (Zg i)) 1)
def EE (l:List ax) (i:Int):Int:=D.ah (D.ao (D.nth (List.map aX l) (Zg i)) 0)
def FE (l:List ax) (i:Int):List D:=[D.int IntKind.i64 (EE l i),D.int IntKind.i64 (FB l i)]
def Z33 (l:List ax) (i:Int) (a:ax) (b:ax):Prop:=[P.d (D.agg [D.int IntKind.i64 (D.ah (D.ao (D.nth (List.map aX l) (Zc i)) 0)),D.int IntKind.i64 (D.ah (D.ao (D.nth (List.map aX l) (Zc i)) 1))]),P.d (D.agg (FE l i))]=ED a b
def Z32 (post:PX×S->Prop) (l:List ax) (g:aj) (k:Int):Prop:=post (PX.ret,S.mk 45 (eO::Hp l::Zi) (qD g k))
noncomputable def vG (l:List ax) (i:Int):Bool:=cX PR (30:TypeId) (D.nth (List.map aX l) (Zg i))
def I8 (i:Int) (l:List ax):Bool:=decide ((0:Int)<=i/\i<zj l)
def Mz (i:Int) (l:List ax):Bool:=decide (i<zj l)
theorem I9 (g:aj) (k:Int) (l:List ax) (i:Int) (post:PX×S->Prop):(bif Mz i l then bif I8 i l then bif vG l i then∃(s:ax),[P.d (D.agg (FE l i))]=nq s/\Zw/\ ∀(b:Bool),b=OW s->bif !b then Z32 post l g k else∃(a:ax) (b:ax),P.d (D.agg (FE l i))::I7 g=ED a b/\Zw/\ ∀(c:Int),Lb a b c->bif Zq c then Z32 post l g k else bif Zq i then bif Zb i then bif decide ((0:Int)<=i-(1:Int)/\i-(1:Int)<zj l) then bif cX PR (30:TypeId) (D.nth (List.map aX l) (Zc i)) then∃(a:ax) (b:ax),Z33 l i a b/\Zw/\ ∀(c:Int),Lb a b c->bif Z2 c then Z32 post l g k else Z34 i post l g k else False else False else False else Z34 i post l g k else False else False else post (PX.exit 0,S.mk 45 [eO,Hp l] (qD g k)))=(aF [(82,uY),(66,xI)] [] 114 2 (dtH g k l i)) post:=by kernel_rfl
abbrev elH (g:aj) (k:Int) (l:List aC) (i:Int):S:=⟨41,[(0,.ref 0 0 0),(1,dx l),(7,dx l),(8,iD ((l.map bH).length:Int)),(9,iD i)],uz g k⟩
def tB (l:List aC):Nat:=List.length (List.map bH l)
def nr (l:List aC):P:=P.d (D.sl 3 (List.map bH l))
def mx (l:List aC):Nat×P:=(1,nr l)
def Z3j (i:Int) (post:PX×S->Prop) (l:List aC) (aO:aj) (ca:Int):Prop:=bif Zj i then post (PX.normal,S.mk 41 (eO::mx l::(7,nr l)::(8,P.d (D.int IntKind.i64 (↑(tB l):Int)))::ZF i) (qD aO ca)) else False
def Ja (l:List aC) (i:Int):Int:=D.ah (D.ao (D.nth (List.map bH l) (Zg i)) 2)
def Jb (l:List aC) (i:Int):Int:=D.ah (D.ao (D.nth (List.map bH l) (Zg i)) 1)
def Jc (l:List aC) (i:Int):Int:=D.ah (D.ao (D.nth (List.map bH l) (Zg i)) 0)
def O1 (l:List aC) (i:Int):List D:=[D.int IntKind.i64 (Jc l i),D.int IntKind.i64 (Jb l i),D.int IntKind.i64 (Ja l i)]
def Xx (l:List aC) (i:Int):List D:=[D.int IntKind.i64 (D.ah (D.ao (D.nth (List.map bH l) (Zc i)) 0)),D.int IntKind.i64 (D.ah (D.ao (D.nth (List.map bH l) (Zc i)) 1)),D.int IntKind.i64 (D.ah (D.ao (D.nth (List.map bH l) (Zc i)) 2))]
def Z3i (l:List aC) (i:Int) (x:aC) (y:aC):Prop:=[P.d (D.agg (Xx l i)),P.d (D.agg (O1 l i))]=uZ x::kW y
noncomputable def UC (l:List aC) (i:Int):Bool:=cX PR (50:TypeId) (D.nth (List.map bH l) (Zc i))
def Z3f (i:Int) (l:List aC):Bool:=decide ((0:Int)<=i-(1:Int)/\i-(1:Int)<(↑(tB l):Int))
noncomputable def Az (l:List aC) (i:Int):Bool:=cX PR (50:TypeId) (D.nth (List.map bH l) (Zg i))
def Lf (i:Int) (l:List aC):Bool:=decide ((0:Int)<=i/\i<(↑(tB l):Int))
def UD (i:Int) (l:List aC):Bool:=decide (i<(↑(tB l):Int))
theorem EF (g:aj) (k:Int) (l:List aC) (i:Int) (post:PX×S->Prop):(bif UD i l then bif Lf i l then bif Az l i then∃(aO:aj) (ca:Int) (x:aC),[bQ,P.d (D.agg (O1 l i))]=bQ::kW x/\Av g k aO ca/\ ∀(b:Bool),yu b aO ca x->bif !b then post (PX.ret,S.mk 41 (eO::mx l::Zi) (qD aO ca)) else bif Zq i then bif Zb i then bif Z3f i l then bif UC l i then∃(x:aC) (y:aC),Z3i l i x y/\Zw/\ ∀(c:Int),I6 x y c->bif Z2 c then post (PX.ret,S.mk 41 (eO::mx l::Zi) (qD aO ca)) else Z3j i post l aO ca else False else False else False else Z3j i post l aO ca else False else False else post (PX.exit 0,S.mk 41 [eO,mx l] (qD g k)))=(aF [(113,rl),(150,pL)] [] 116 2 (elH g k l i)) post:=by kernel_rfl
end Pi
namespace Pi
open Go Go.Proofs
set_option maxRecDepth 100000
theorem Cg (a b:ax):Lb a b (oW a.1 a.2 b.1 b.2) where
 lt:=by
  simp only[tq,oW,IZ,p7,decide_eq_true_eq]
  (repeat' split)<;>omega
 gt:=by
  simp only[tq,oW,IZ,p7,decide_eq_true_eq]
  (repeat' split)<;>omega
theorem EG (a b:aC):I6 a b (qB a.1 a.2.1 a.2.2 b.1 b.2.1 b.2.2) where
 lt:=jJ a b
 gt:=by
  simp only[Aq,qB,oW,IZ,p7,decide_eq_true_eq]
  (repeat' split)<;>omega
theorem l7 (s:ax):cX PR 30 (aX s)=true:=by kernel_rfl
theorem Lg (o:a7):cX PR 54 (gM o)=true:=by kernel_rfl
theorem df (g:aj):cX PR 34 (aP g)=true:=by kernel_rfl
theorem Ch (a b:ax):(a.1==b.1&&(a.2==b.2&&true))=(a==b):=by
 obtain⟨x,y⟩:=a
 obtain⟨z,u⟩:=b
 rw[Bool.eq_iff_iff]
 simp
theorem C5 (a b:aC):(a.1==b.1&&(a.2.1==b.2.1&&true)&&(a.2.2==b.2.2&&true))=(a==b):=by
 obtain⟨x,y,z⟩:=a
 obtain⟨u,v,w⟩:=b
 rw[Bool.eq_iff_iff]
 simp[and_assoc]
theorem lnE (m n:Nat):((m:Int)==(n:Int))=(m==n):=by
 rw[Bool.eq_iff_iff,beq_iff_eq,beq_iff_eq]
 omega
theorem O2 (o:a7):h9 o=((plainO o).parent==o.parent&&((plainO o).name==o.name&&((plainO o).dir==o.dir&&((plainO o).after==o.after&&((plainO o).elem==o.elem&&((plainO o).text==o.text&&((plainO o).bT.length==o.bT.length&&(plainO o).elems.length==o.elems.length))))))):=by
 have h0: ∀x:aC,(aS==x)=(x==aS):=fun x=>by rw[Bool.eq_iff_iff,beq_iff_eq,beq_iff_eq];exact eq_comm
 have h1: ∀s:List UInt8,(([]:List UInt8)==s)=(s==[]):=fun s=>by rw[Bool.eq_iff_iff,beq_iff_eq,beq_iff_eq];exact eq_comm
 have h2:(false==o.dir)= !o.dir:=by cases o.dir<;>rfl
 have h3: ∀n:Nat,((0:Nat)==n)=(n==0):=fun n=>by rw[Bool.eq_iff_iff,beq_iff_eq,beq_iff_eq];exact eq_comm
 unfold h9 o4 plainO
 by_cases e0:o.kind=0
 ·have g0:(o.kind==0)=true:=by simpa using e0
  have g1:(o.kind==1)=false:=by rw[e0];rfl
  have g2:(o.kind==2)=false:=by rw[e0];rfl
  have g3:(o.kind==3)=false:=by rw[e0];rfl
  have g4:(o.kind==4)=false:=by rw[e0];rfl
  rw[if_pos e0,g0,g1,g2,g3,g4]
  simp only[beq_self_eq_true,List.length_nil,h0,h1,h3,Bool.true_or,Bool.true_and,Bool.and_true,Bool.false_or,Bool.or_false]
  rw[Bool.eq_iff_iff]
  simp only[Bool.and_eq_true]
  constructor
  ·rintro⟨⟨a,⟨b,c⟩,d⟩,e⟩;exact⟨b,c,d,a,e⟩
  ·rintro⟨b,c,d,a,e⟩;exact⟨⟨a,⟨b,c⟩,d⟩,e⟩
 ·have f0:(o.kind==0)=false:=by simpa using e0
  by_cases e1:o.kind=1
  ·have g1:(o.kind==1)=true:=by simpa using e1
   have g2:(o.kind==2)=false:=by rw[e1];rfl
   have g3:(o.kind==3)=false:=by rw[e1];rfl
   have g4:(o.kind==4)=false:=by rw[e1];rfl
   rw[if_neg e0,if_pos e1,f0,g1,g2,g3,g4]
   simp only[beq_self_eq_true,List.length_nil,h0,h1,h2,h3,Bool.true_or,Bool.or_true,Bool.true_and,Bool.false_or]
   rw[Bool.eq_iff_iff]
   simp only[Bool.and_eq_true]
   constructor
   ·rintro⟨⟨⟨a,f⟩,⟨b,c⟩,d⟩,e⟩;exact⟨a,b,c,d,f,e⟩
   ·rintro⟨a,b,c,d,f,e⟩;exact⟨⟨⟨a,f⟩,⟨b,c⟩,d⟩,e⟩
  ·have f1:(o.kind==1)=false:=by simpa using e1
   by_cases e2:o.kind=2
   ·have g2:(o.kind==2)=true:=by simpa using e2
    have g3:(o.kind==3)=false:=by rw[e2];rfl
    have g4:(o.kind==4)=false:=by rw[e2];rfl
    rw[if_neg e0,if_neg e1,if_pos e2,f0,f1,g2,g3,g4]
    simp only[beq_self_eq_true,List.length_nil,h0,h1,h2,h3,Bool.true_or,Bool.true_and,Bool.and_true,Bool.false_or,Bool.or_false]
    rw[Bool.eq_iff_iff]
    simp only[Bool.and_eq_true]
    constructor
    ·rintro⟨⟨⟨⟨a,b⟩,c⟩,⟨d,e⟩,f⟩,g⟩;exact⟨a,b,c,d,e,f,g⟩
    ·rintro⟨a,b,c,d,e,f,g⟩;exact⟨⟨⟨⟨a,b⟩,c⟩,⟨d,e⟩,f⟩,g⟩
   ·have g2:(o.kind==2)=false:=by simpa using e2
    by_cases e3:o.kind=3
    ·have g3:(o.kind==3)=true:=by simpa using e3
     have g4:(o.kind==4)=false:=by rw[e3];rfl
     rw[if_neg e0,if_neg e1,if_neg e2,if_pos e3,f0,f1,g2,g3,g4]
     simp only[beq_self_eq_true,List.length_nil,h0,h1,h2,h3,Bool.true_or,Bool.true_and,Bool.and_true,Bool.false_or,Bool.or_false]
     rw[Bool.eq_iff_iff]
     simp only[Bool.and_eq_true]
     constructor
     ·rintro⟨⟨⟨⟨a,b⟩,c⟩,f⟩,g⟩;exact⟨a,b,c,f,g⟩
     ·rintro⟨a,b,c,f,g⟩;exact⟨⟨⟨⟨a,b⟩,c⟩,f⟩,g⟩
    ·have g3:(o.kind==3)=false:=by simpa using e3
     by_cases e4:o.kind=4
     ·have g4:(o.kind==4)=true:=by simpa using e4
      rw[if_neg e0,if_neg e1,if_neg e2,if_neg e3,if_pos e4,f0,f1,g2,g3,g4]
      simp only[List.length_nil,h0,h1,h2,h3,beq_self_eq_true,Bool.true_or,Bool.and_true,Bool.false_or,Bool.or_false]
      rw[Bool.eq_iff_iff]
      simp only[Bool.and_eq_true]
      constructor
      ·rintro⟨⟨⟨⟨a,b⟩,c⟩,f⟩,⟨d,e⟩,g⟩;exact⟨a,b,c,d,e,g,f⟩
      ·rintro⟨a,b,c,d,e,g,f⟩;exact⟨⟨⟨⟨a,b⟩,c⟩,f⟩,⟨d,e⟩,g⟩
     ·have g4:(o.kind==4)=false:=by simpa using e4
      rw[if_neg e0,if_neg e1,if_neg e2,if_neg e3,if_neg e4,f0,f1,g2,g3,g4]
      simp only[List.length_nil,h0,h1,h2,h3,Bool.false_or,Bool.or_false]
      rw[Bool.eq_iff_iff]
      simp only[Bool.and_eq_true]
      constructor
      ·rintro⟨⟨⟨⟨⟨a,b⟩,c⟩,f⟩,⟨d,e⟩,g⟩,h⟩;exact⟨a,b,c,d,e,g,f,h⟩
      ·rintro⟨a,b,c,d,e,g,f,h⟩;exact⟨⟨⟨⟨⟨a,b⟩,c⟩,f⟩,⟨d,e⟩,g⟩,h⟩
theorem xJ {p:Prop} [Decidable p] {A B:Prop} (h1:p) (h2:A):cond (decide p) A B:=fw (decide_eq_true h1) h2
section
variable {X:XF}
theorem Hq:FD X 66 xI:=Xu.weaken fun ps R post h=>by
 obtain⟨a,b,rfl,rfl,hp⟩:=h
 exact⟨_,_,_,_,rfl,rfl,hp _ (Cg a b)⟩
theorem O3:FD X 150 pL:=Ut.weaken fun ps R post h=>by
 obtain⟨a,b,rfl,rfl,hp⟩:=h
 exact⟨_,_,_,_,_,_,rfl,rfl,hp _ (EG a b)⟩
theorem Lh:FD X 88 pL:=oY.weaken fun ps R post h=>by
 obtain⟨a,b,rfl,rfl,hp⟩:=h
 exact⟨_,_,_,_,_,_,rfl,rfl,hp _ (EG a b)⟩
theorem xK:FD X 14 o6:=Eu.weaken fun ps R post h=>by
 obtain⟨a,b,rfl,rfl,hp⟩:=h
 exact⟨_,_,_,_,rfl,rfl,hp _ rfl⟩
theorem qd6:FD X 147 Lc:=K1.weaken fun ps R post h=>by
 obtain⟨x,rfl,rfl,hp⟩:=h
 exact⟨_,_,_,rfl,rfl,hp _ rfl⟩
theorem qaV:FD X 151 Lc:=ri.weaken fun ps R post h=>by
 obtain⟨x,rfl,rfl,hp⟩:=h
 exact⟨_,_,_,rfl,rfl,hp _ rfl⟩
theorem O4:FD X 82 uY:=FD.mk (H:=[]) (by kernel_rfl) .nil .nil (by
 intro ps R post hh
 obtain⟨s,rfl,rfl,hp⟩:=hh
 (rw[<-qd5];delta Z3 Z4 Z1)
 refine bb (fun h1=>bb (fun h2=>bb (fun h3=>hp _ ?_) fun h3=>hp _ ?_) fun h2=>hp _ ?_) fun h1=>hp _ ?_
 all_goals (simp only[BZ];rw[eq_comm];first | (rw[decide_eq_decide];omega)| (rw[decide_eq_false_iff_not];omega)))
theorem O5:FD X 104 uY:=FD.mk (H:=[]) (by kernel_rfl) .nil .nil (by
 intro ps R post hh
 obtain⟨s,rfl,rfl,hp⟩:=hh
 (rw[<-qaT];delta Z3 Z4 Z1)
 refine bb (fun h1=>bb (fun h2=>bb (fun h3=>hp _ ?_) fun h3=>hp _ ?_) fun h2=>hp _ ?_) fun h1=>hp _ ?_
 all_goals (simp only[BZ];rw[eq_comm];first | (rw[decide_eq_decide];omega)| (rw[decide_eq_false_iff_not];omega)))
theorem Ci:FD X 113 rl:=FD.mk (H:=[(147,Lc),(66,xI)]) (by kernel_rfl) (.cons qd6 (.cons Hq .nil)) .nil (by
 intro ps R post hh
 obtain⟨g,k,x,rfl,rfl,hp⟩:=hh
 (rw[<-UB];delta Zs Zu nk ia ib lC ob ic fO ie gb Ld qD Z3 Hn lD lE Z2n ZM K4 mr nq ED Le I7 Z2f Zw uZ kW)
 refine⟨x,rfl,rfl,fun b hb=>aw (fun h1=>⟨FA x,g.s,rfl,rfl,fun c hc=>bb (fun h2=>hp _ ?_) fun h2=>aw (fun h3=>hp _ ?_) fun h3=>hp _ ?_⟩) fun h1=>hp _ ?_⟩
 ·rw[dA,<-hb,h1,hc.lt.1 h2];rfl
 ·have e:FA x=g.s:=by rw[Ch (FA x) g.s] at h3;simpa using h3
  have e2:qC (FA x) g.s=false:=by rw[<-Bool.not_eq_true,<-hc.lt];exact h2
  rw[dA,<-hb,h1,e2,e];simp
 ·have e:(FA x==g.s)=false:=by rw[<-Ch (FA x) g.s];exact h3
  have e2:qC (FA x) g.s=false:=by rw[<-Bool.not_eq_true,<-hc.lt];exact h2
  rw[dA,<-hb,h1,e2,e];rfl
 ·rw[dA,<-hb,h1];rfl)
theorem O6:FD X 111 Cd:=FD.mk (H:=[(113,rl)]) (by kernel_rfl) (.cons Ci .nil) .nil (by
 intro ps R post hh
 obtain⟨g,k,x,rfl,rfl,hp⟩:=hh
 (rw[<-OZ];delta iz yu Zs Zu nk ia ib lC ob ic fO ie gb Ld qD Av lD lE uZ kW bQ ZM Z2p)
 refine aw (fun h1=>hp _ ?_) fun h1=>⟨g,k,x,rfl,rfl,fun b hb=>hp _ ?_⟩
 ·rw[l6,<-C5 x aS,h1];rfl
 ·rw[l6,<-C5 x aS,h1,hb];rfl)
theorem O7:FD X 145 Ce:=FD.mk (H:=[]) (by kernel_rfl) .nil .nil (by
 intro ps R post hh
 obtain⟨o,rfl,rfl,hp⟩:=hh
 (rw[<-O0];delta Sr vB vC vE zb Aw zd Ax Ay Fz Z7 Z2D kQ Z3 Z2E ze zf zg zh zi uA uB uC vF)
 refine gK (fun h1=> ?_) fun h1=>gK (fun h2=> ?_) fun h2=>gK (fun h3=> ?_) fun h3=>gK (fun h4=> ?_) fun h4=>gK (fun h5=> ?_) fun h5=> ?_
 ·exact hp _ (by rw[plainO,if_pos h1])
 ·exact hp _ (by rw[plainO,if_neg h1,if_pos h2])
 ·exact hp _ (by rw[plainO,if_neg h1,if_neg h2,if_pos h3])
 ·exact hp _ (by rw[plainO,if_neg h1,if_neg h2,if_neg h3,if_pos h4])
 ·exact hp _ (by rw[plainO,if_neg h1,if_neg h2,if_neg h3,if_neg h4,if_pos h5])
 ·exact hp _ (by rw[plainO,if_neg h1,if_neg h2,if_neg h3,if_neg h4,if_neg h5]))
theorem UE:FD X 109 Ho:=FD.mk (H:=[(145,Ce)]) (by kernel_rfl) (.cons O7 .nil) .nil (by
 intro ps R post hh
 obtain⟨o,rfl,rfl,hp⟩:=hh
 (rw[<-qaU];delta Z3 Z4 Z2R mv vB vC vE zb zd ze zg Zw Sr Aw Ax Ay kQ zf zh zi uA uB uC vF Cf)
 refine⟨o,rfl,rfl,fun p hpp=> ?_⟩
 have key:=O2 o
 rw[<-hpp] at key
 rw[C5,C5,C5]
 simp only[List.length_map,lnE]
 refine aw (fun h1=>aw (fun h2=>aw (fun h3=>aw (fun h4=>aw (fun h5=>aw (fun h6=>aw (fun h7=>hp _ ?_) fun h7=>hp _ ?_) fun h6=>hp _ ?_) fun h5=>hp _ ?_) fun h4=>hp _ ?_) fun h3=>hp _ ?_) fun h2=>hp _ ?_) fun h1=>hp _ ?_
 all_goals (clear hpp;rw[key];simp only[*,Bool.true_and,Bool.false_and]))
def O8:S->K (PX×S):=fun st post=> ∃g k l,st=dtH g k l 0/\l.length<=9223372036854775807/\(kF l.length (lB g.s l)=false->post (.ret,⟨45,[(0,.ref 0 0 0),(1,fE l),(4,kP false)],uz g k⟩))/\(kF l.length (lB g.s l)=true->post (.exit 0,⟨45,[(0,.ref 0 0 0),(1,fE l)],uz g k⟩))
theorem dK {α:Type} {l:List α} {i:Nat} (h:i<l.length) (d:α):l.getD i d=l[i]:=by simp[List.getD_eq_getElem?_getD,h]
theorem O9:LD X 114 2 (ae (aK 114 2) O8):=LD.find (H:=[(82,uY),(66,xI)]) (hk:=[]) (by kernel_rfl) (by kernel_rfl) (.cons O4 (.cons Hq .nil)) .nil
 (A:=aj×Int×List ax) (fun a k=>dtH a.1 a.2.1 a.2.2 k) (fun a=>a.2.2) (fun a j _=> !lB a.1.s a.2.2 j) (fun a=>a.2.2.length<=9223372036854775807)
 (fun a _=>(.ret,⟨45,[(0,.ref 0 0 0),(1,fE a.2.2),(4,kP false)],uz a.1 a.2.1⟩)) (fun a=>(.exit 0,⟨45,[(0,.ref 0 0 0),(1,fE a.2.2)],uz a.1 a.2.1⟩)) (fun _ _ h=>by cases h) (fun _ h=>by cases h)
 (by
  rintro⟨g,k,l⟩ i post hi hC h0 bS ht hn
  dsimp only at*
  (rw[<-I9];delta Zs Zu nk ia ib lC ob ic fO ie gb Ld qD kG Hp bQ eO Zm ZF zj Za Z9 Zj Z34 Z2 mr nq ED Zg FB EE FE Zc Z33 Zb Zq Le I7 Z3 Zi Z32 Zw vG I8 Mz)
  have e1:D.nth (l.map aX) i.toNat=aX l[i.toNat]:=ay _ _ _ hi
  have d1:=dK hi ((0,0):ax)
  rw[e1]
  simp only[dtH,List.length_map] at hn⊢
  refine xJ bS (bp ⟨h0,bS⟩ (aq (l7 _) ⟨l[i.toNat],rfl,rfl,fun b hb=>aw (fun h1=> ?_) fun h1=>⟨l[i.toNat],g.s,rfl,rfl,fun c hc=>bb (fun h2=> ?_) fun h2=>bb (fun h3=> ?_) fun h3=> ?_⟩⟩))
  ·refine ht ?_
   rw[lB,d1,<-hb,show b=false by simpa using h1];rfl
  ·refine ht ?_
   rw[lB,d1,hc.gt.1 h2];simp
  ·have e2:D.nth (l.map aX) (i-1).toNat=aX (l[(i-1).toNat]'(by omega)):=ay _ _ _ (by omega)
   have d2:=dK (show(i-1).toNat<l.length by omega) ((0,0):ax)
   rw[e2]
   have e3:qC g.s l[i.toNat]=false:=by rw[<-Bool.not_eq_true,<-hc.gt];exact h2
   refine bp (by omega) (bp ⟨by omega,by omega⟩ (aq (l7 _) ⟨l[(i-1).toNat],l[i.toNat],rfl,rfl,fun c' qt=>bb (fun h4=>ht ?_) fun h4=>bp (by omega) (hn ?_)⟩))
   ·have e4:qC l[(i-1).toNat] l[i.toNat]=false:=by rw[<-Bool.not_eq_true,<-qt.lt];omega
    rw[lB,d1,show i.toNat-1=(i-1).toNat by omega,d2,e4,show(i.toNat==0)=false by simp;omega];simp
   ·have e4:qC l[(i-1).toNat] l[i.toNat]=true:=by rw[<-qt.lt];omega
    rw[lB,d1,show i.toNat-1=(i-1).toNat by omega,d2,e3,e4,<-hb,show b=true by simpa using h1];simp
  ·have e3:qC g.s l[i.toNat]=false:=by rw[<-Bool.not_eq_true,<-hc.gt];exact h2
   refine bp (by omega) (hn ?_)
   rw[lB,d1,e3,<-hb,show b=true by simpa using h1,show(i.toNat==0)=true by simp;omega];simp)
 (by
  rintro⟨g,k,l⟩ i post hC hi hp
  dsimp only at*
  (rw[<-I9];delta Zs Zu nk ia ib lC ob ic fO ie gb Ld qD kG Hp bQ eO Zm ZF zj Za Z9 Zj Z34 Z2 mr nq ED Zg FB EE FE Zc Z33 Zb Zq Le I7 Z3 Zi Z32 Zw vG I8 Mz)
  simp only[List.length_map]
  exact bb (fun h=>by omega) fun h=>hp)
 (by
  rintro s post ⟨g,k,l,rfl,hl,h1,h2⟩
  refine⟨(g,k,l),rfl,hl,fun i hi h0 ht _=>h1 (B8 (i:=i.toNat) hi (by simpa using ht)),fun h=>h2 (B9 fun i hi=>by simpa using h i hi)⟩)
def Hr:S->K (PX×S):=fun st post=> ∃g k l,st=elH g k l 0/\l.length<=9223372036854775807/\(kF l.length (Ca g.s k l)=false->post (.ret,⟨41,[(0,.ref 0 0 0),(1,dx l),(4,kP false)],uz g k⟩))/\(kF l.length (Ca g.s k l)=true->post (.exit 0,⟨41,[(0,.ref 0 0 0),(1,dx l)],uz g k⟩))
theorem Li:LD X 116 2 (ae (aK 116 2) Hr):=LD.find (H:=[(113,rl),(150,pL)]) (hk:=[]) (by kernel_rfl) (by kernel_rfl) (.cons Ci (.cons O3 .nil)) .nil
 (A:=aj×Int×List aC) (fun a k=>elH a.1 a.2.1 a.2.2 k) (fun a=>a.2.2) (fun a j _=> !Ca a.1.s a.2.1 a.2.2 j) (fun a=>a.2.2.length<=9223372036854775807)
 (fun a _=>(.ret,⟨41,[(0,.ref 0 0 0),(1,dx a.2.2),(4,kP false)],uz a.1 a.2.1⟩)) (fun a=>(.exit 0,⟨41,[(0,.ref 0 0 0),(1,dx a.2.2)],uz a.1 a.2.1⟩)) (fun _ _ h=>by cases h) (fun _ h=>by cases h)
 (by
  rintro⟨g,k,l⟩ i post hi hC h0 bS ht hn
  dsimp only at*
  (rw[<-EF];delta Zs Zu nk ia ib lC ob ic fO ie gb Ld qD Zm ZF tB nr mx bQ eO Za Z9 Zj Z3j Z2 Zw lD lE uZ kW Zg Ja Jb Jc O1 Zc Xx Z3i UC Z3f Zb Zq Z3 Zi yu Av Az Lf UD)
  have e1:D.nth (l.map bH) i.toNat=bH l[i.toNat]:=ay _ _ _ hi
  have d1:=dK hi aS
  rw[e1]
  simp only[elH,List.length_map] at hn⊢
  refine xJ bS (bp ⟨h0,bS⟩ (aq (rj _) ⟨g,k,l[i.toNat],rfl,rfl,fun b hb=>aw (fun h1=> ?_) fun h1=>bb (fun h3=> ?_) fun h3=> ?_⟩))
  ·refine ht ?_
   rw[Ca,d1,<-hb,show b=false by simpa using h1];rfl
  ·have e2:D.nth (l.map bH) (i-1).toNat=bH (l[(i-1).toNat]'(by omega)):=ay _ _ _ (by omega)
   have d2:=dK (show(i-1).toNat<l.length by omega) aS
   rw[e2]
   refine bp (by omega) (bp ⟨by omega,by omega⟩ (aq (rj _) ⟨l[(i-1).toNat],l[i.toNat],rfl,rfl,fun c' qt=>bb (fun h4=>ht ?_) fun h4=>bp (by omega) (hn ?_)⟩))
   ·have e4:Aq l[(i-1).toNat] l[i.toNat]=false:=by rw[<-Bool.not_eq_true,<-qt.lt];omega
    rw[Ca,d1,show i.toNat-1=(i-1).toNat by omega,d2,e4,show(i.toNat==0)=false by simp;omega];simp
   ·have e4:Aq l[(i-1).toNat] l[i.toNat]=true:=by rw[<-qt.lt];omega
    rw[Ca,d1,show i.toNat-1=(i-1).toNat by omega,d2,e4,<-hb,show b=true by simpa using h1];simp
  ·refine bp (by omega) (hn ?_)
   rw[Ca,d1,<-hb,show b=true by simpa using h1,show(i.toNat==0)=true by simp;omega];simp)
 (by
  rintro⟨g,k,l⟩ i post hC hi hp
  dsimp only at*
  (rw[<-EF];delta Zs Zu nk ia ib lC ob ic fO ie gb Ld qD Zm ZF tB nr mx bQ eO Za Z9 Zj Z3j Z2 Zw lD lE uZ kW Zg Ja Jb Jc O1 Zc Xx Z3i UC Z3f Zb Zq Z3 Zi yu Av Az Lf UD)
  simp only[List.length_map]
  exact bb (fun h=>by omega) fun h=>hp)
 (by
  rintro s post ⟨g,k,l,rfl,hl,h1,h2⟩
  refine⟨(g,k,l),rfl,hl,fun i hi h0 ht _=>h1 (B8 (i:=i.toNat) hi (by simpa using ht)),fun h=>h2 (B9 fun i hi=>by simpa using h i hi)⟩)
end
end Pi
namespace Pi
open Go Go.Proofs
set_option maxRecDepth 100000
set_option maxHeartbeats 0
def dV (ar:List ax):Nat:=List.length ar
def Z3k (l:List ax) (g:aj) (k:Int):S:=S.mk 45 [eO,Hp l,(7,kG l),(8,P.d (D.int IntKind.i64 (zj l))),(9,P.d Z7)] (qD g k)
theorem qaW (g:aj) (k:Int) (l:List ax) (post:P×List (Nat×En)->Prop):(∃(aO:aj) (ca:Int) (ar:List ax),Z3k l g k=Z3k ar aO ca/\dV ar<=Zx/\(kF (dV ar) (lB (aj.s aO) ar)=false->Hn post aO ca)/\(kF (dV ar) (lB (aj.s aO) ar)=true->post (P.d (D.bool (decide (zj ar<=(200:Int)))),qD aO ca)))=(aH [] [(2,ae (aK 114 2) O8)] 114 [.ref 0 0 0,fE l] (uz g k)) post:=by kernel_rfl
def Z3n (ar:List aC):P:=P.d (D.bool (decide ((↑(tB ar):Int)<=(2000:Int))))
def Z3m (l:List aC) (g:aj) (k:Int):S:=S.mk 41 [eO,mx l,(7,nr l),(8,P.d (D.int IntKind.i64 (↑(tB l):Int))),(9,P.d Z7)] (qD g k)
theorem UF (g:aj) (k:Int) (l:List aC) (post:P×List (Nat×En)->Prop):(∃(aO:aj) (ca:Int) (ar:List aC),Z3m l g k=Z3m ar aO ca/\List.length ar<=Zx/\(kF (List.length ar) (Ca (aj.s aO) ca ar)=false->Hn post aO ca)/\(kF (List.length ar) (Ca (aj.s aO) ca ar)=true->bif decide ((↑(tB ar):Int)>=(1:Int)) then post (Z3n ar,qD aO ca) else Hn post aO ca))=(aH [] [(2,ae (aK 116 2) Hr)] 116 [.ref 0 0 0,dx l] (uz g k)) post:=by kernel_rfl
def Hs:bm:=fun ps R post=> ∃g k l,ps=[.ref 0 0 0,fE l]/\R=uz g k/\l.length<=9223372036854775807/\ ∀b,b=oZ g.s l->post (kP b,uz g k)
def Cj:bm:=fun ps R post=> ∃g k l,ps=[.ref 0 0 0,dx l]/\R=uz g k/\l.length<=9223372036854775807/\ ∀b,b=uX g.s k l->post (kP b,uz g k)
def tC:bm:=fun ps R post=> ∃s,ps=[sD s]/\R=[]/\ ∀b,b=eL s->post (kP b,[])
def Pa (o:a7):List P:=[P.d (D.sl 3 (List.map bH (a7.elems o)))]
def Z3y (g:aj) (k:Int) (n:Int):List (Nat×En):=[(0,En.mk 0 (some 0) (Obj.box (149:TypeId) [P.d (gb g),P.d (fO g),ob g,lC g,P.d (ib g),P.d (ia g),nk g,P.d (D.int IntKind.i64 (k+n))]))]
def Z3x (k:Int) (n:Int):Bool:=decide (Z9<=k+n/\k+n<=Za)
def Z3z (k:Int) (n:Int) (post:P×List (Nat×En)->Prop) (g:aj):Prop:=bif Z3x k n then post (P.d Z3,Z3y g k n) else False
def Z3w (k:Int) (post:P×List (Nat×En)->Prop) (g:aj):Prop:=bif decide (Z9<=k+(0:Int)/\k+(0:Int)<=Za) then post (P.d Z3,[(0,En.mk 0 (some 0) (Obj.box (149:TypeId) [P.d (gb g),P.d (fO g),ob g,lC g,P.d (ib g),P.d (ia g),nk g,P.d (D.int IntKind.i64 (k+(0:Int)))]))]) else False
def Z3v (o:a7) (g:aj) (k:Int):Bool:=vE o==ie g&&(vC o==ic g&&true)&&(vB o==k&&true)
def Z3u (o:a7):P:=P.d (D.agg [Ay o,Ax o,Aw o])
def Z3s (o:a7):P:=P.d (D.agg [uC o,uB o,uA o])
def Z3t (o:a7) (x:aC):Prop:=[bQ,Z3s o]=bQ::kW x
def Z3r (aO:aj) (ca:Int):List (Nat×En):=[(0,En.mk 0 (some 0) (Obj.box (149:TypeId) [P.d (gb aO),P.d (fO aO),ob aO,lC aO,P.d (ib aO),P.d (ia aO),nk aO,P.d (Zm ca)]))]
def Z3q (o:a7) (s:List UInt8):Prop:=[P.d (D.str (a7.name o))]=xw s
def Z3p (o:a7):P:=P.d (D.agg [zi o,zh o,zf o])
def Z3o (o:a7) (g:aj) (k:Int):Bool:=Prod.fst (a7.node o)==ie g&&(Prod.fst (Prod.snd (a7.node o))==ic g&&true)&&(Prod.snd (Prod.snd (a7.node o))==k&&true)
theorem qd7 (g:aj) (k:Int) (o:a7) (post:P×List (Nat×En)->Prop):(∃(aQ:a7),[Cf o]=[Cf aQ]/\Zw/\ ∀(b:Bool),b=h9 aQ->bif !b then Hn post g k else bif a7.kind o==(0:Int) then bif Z3o o g k then∃(aO:aj) (ca:Int) (x:aC),[bQ,Z3p o]=bQ::kW x/\Av g k aO ca/\ ∀(b:Bool),b=l6 (aj.s aO) ca x->bif b then∃(s:List UInt8),Z3q o s/\Zw/\ ∀(b:Bool),b=eL s->bif Zj ca then post (iz b,Z3r aO ca) else False else bif Zj ca then post (P.d Z3,Z3r aO ca) else False else bif Zj k then post (P.d Z3,Z3r g k) else False else bif a7.kind o==(1:Int) then∃(aO:aj) (ca:Int) (x:aC),Z3t o x/\Av g k aO ca/\ ∀(b:Bool),yu b aO ca x->bif b then∃(g:aj) (k:Int) (x:aC),[bQ,Z3p o]=bQ::kW x/\Av aO ca g k/\ ∀(b:Bool),b=l6 (aj.s g) k x->bif b then∃(s:List UInt8),Z3q o s/\Zw/\ ∀(b:Bool),b=eL s->post (iz b,qD g k) else Hn post g k else Hn post aO ca else bif a7.kind o==(2:Int) then∃(aO:aj) (ca:Int) (x:aC),Z3t o x/\Av g k aO ca/\ ∀(b:Bool),yu b aO ca x->bif b then∃(g:aj) (k:Int) (l:List ax),[bQ,P.d (kQ o)]=[bQ,kG l]/\Av aO ca g k/\dV l<=Zx/\ ∀(b:Bool),b=oZ (aj.s g) l->post (iz b,qD g k) else Hn post aO ca else bif a7.kind o==(3:Int) then∃(s:List UInt8),[P.d (D.str (a7.text o))]=xw s/\Zw/\K7 s/\(Xr s-> ∃(aO:aj) (ca:Int) (x:aC),Z3t o x/\Av g k aO ca/\ ∀(b:Bool),yu b aO ca x->bif b then∃(g:aj) (k:Int) (x:aC),[bQ,Z3u o]=bQ::kW x/\Av aO ca g k/\ ∀(b:Bool),b=l6 (aj.s g) k x->bif b then bif Z3v o g k then Z3w k post g else Z3w k post g else Z3w k post g else Z3w ca post aO)/\(Xq s-> ∀(n:Int),n=Cb s-> ∃(aO:aj) (ca:Int) (x:aC),Z3t o x/\Av g k aO ca/\ ∀(b:Bool),yu b aO ca x->bif b then∃(g:aj) (k:Int) (x:aC),[bQ,Z3u o]=bQ::kW x/\Av aO ca g k/\ ∀(b:Bool),b=l6 (aj.s g) k x->bif b then bif Z3v o g k then bif Z0 n then bif Z3x k n then post (P.d (D.bool (decide (n<=(2000:Int)))),Z3y g k n) else False else Z3z k n post g else Z3z k n post g else Z3z k n post g else Z3z ca n post aO) else bif a7.kind o==(4:Int) then∃(aO:aj) (ca:Int) (x:aC),Z3t o x/\Av g k aO ca/\ ∀(b:Bool),yu b aO ca x->bif b then∃(g:aj) (k:Int) (l:List aC),bQ::Pa o=[bQ,nr l]/\Av aO ca g k/\List.length l<=Zx/\ ∀(b:Bool),b=uX (aj.s g) k l->post (iz b,qD g k) else Hn post aO ca else Hn post g k)=(aH [(109,Ho),(113,rl),(111,Cd),(112,tC),(114,Hs),(116,Cj),(115,Au)] [] 83 [.ref 0 0 0,.d (gM o)] (uz g k)) post:=by kernel_rfl
def SmO (o:a7):Prop:=o.text.length<=2000000/\o.bT.length<=9223372036854775807/\o.elems.length<=9223372036854775807
def kOk (k:Int):Prop:=0<=k/\k<=1000000000000
def qaX:bm:=fun ps R post=> ∃g k o,ps=[.ref 0 0 0,.d (gM o)]/\R=uz g k/\(SmO o/\kOk k)/\(pK g.s k o=none-> ∀k',post (kP false,uz g k'))/\(∀n k',pK g.s k o=some n->k'=k+n->post (kP true,uz g k'))
def MA (g:aj):Prop:=(∀o∈g.ops,SmO o)/\g.ops.length<=9223372036854775807/\g.deps.length<=1000000
def AA:bm:=fun ps R post=> ∃v,ps=[vD v]/\R=[]/\v.length<=1000000/\ ∀b,b=ux v->post (kP b,[])
def tD:bm:=fun ps R post=> ∃v r,ps=[vD v,iD r]/\R=[]/\v.length<=1000000/\ ∀n,n=uW v r->post (iD n,[])
def Z3C (g:aj):Bool:=decide (Z9<=aj.n g-(1:Int)/\aj.n g-(1:Int)<=Za)
def zk (v:List Int):Prop:=List.length v<=1000000
theorem UG (g:aj) (post:P×List (Nat×En)->Prop):(∃(s:ax),I7 g=nq s/\Zw/\ ∀(b:Bool),b=OW s->bif b then bif decide (aj.n g>=(1:Int)) then bif decide (aj.n g<=Z1) then∃(v:List Int),[lC g]=ZU v/\Zw/\zk v/\ ∀(b:Bool),b=ux v->bif b then∃(v:List Int) (r:Int),[lC g,P.d (fO g)]=Zk v::Zu r/\Zw/\zk v/\ ∀(n:Int),n=uW v r->bif Z3C g then post (P.d (D.bool (n==aj.n g-(1:Int))),[]) else False else Z4 post else Z4 post else Z4 post else Z4 post)=(aH [(82,uY),(108,AA),(31,tD)] [] 81 [.d (aP g)] []) post:=by kernel_rfl
def Ht:bm:=fun ps R post=> ∃g,ps=[.d (aP g)]/\R=[]/\MA g/\ ∀b,b=Xw g->post (kP b,[])
abbrev qgj (g:aj) (k:Int):List (Nat×En):=[(0,⟨0,none,ckB g k⟩)]
abbrev wcH (g:aj) (k i:Int):S:=⟨59,[(3,.ref 0 0 0),(48,qaS g.ops),(49,iD ((g.ops.map gM).length:Int)),(50,iD i)],qgj g k⟩
def rn (g:aj):Int:=(↑(List.length (List.map gM (aj.ops g))):Int)
def dG:Nat×P:=(3,bQ)
def Z3P:List (Nat×P):=[(2,P.d (D.int IntKind.i64 (80:Int)))]
def gR (g:aj) (i:Int):D:=D.nth (List.map gM (aj.ops g)) (Zg i)
def UH (g:aj) (i:Int):D:=D.int IntKind.i64 (D.ah (D.ao (gR g i) 6))
def UI (g:aj) (i:Int):D:=D.int IntKind.i64 (D.ah (D.ao (gR g i) 5))
def UJ (g:aj) (i:Int):D:=D.int IntKind.i64 (D.ah (D.ao (gR g i) 4))
def Pb (g:aj) (i:Int):D:=D.int IntKind.i64 (D.ah (D.ao (gR g i) 3))
def Pc (g:aj) (i:Int):D:=D.int IntKind.i64 (D.ah (D.ao (gR g i) 2))
def Pd (g:aj) (i:Int):D:=D.int IntKind.i64 (D.ah (D.ao (gR g i) 1))
def Z3O (g:aj) (i:Int):P:=P.d (D.agg [D.int IntKind.i64 (D.ah (D.ao (gR g i) 0)),Pd g i,Pc g i,Pb g i,UJ g i,UI g i,UH g i,D.str (D.eT (D.ao (gR g i) 7)),D.bool (D.fI (D.ao (gR g i) 8)),D.sl 2 (D.ez (D.ao (gR g i) 9)),D.int IntKind.i64 (D.ah (D.ao (gR g i) 10)),D.int IntKind.i64 (D.ah (D.ao (gR g i) 11)),D.int IntKind.i64 (D.ah (D.ao (gR g i) 12)),D.int IntKind.i64 (D.ah (D.ao (gR g i) 13)),D.int IntKind.i64 (D.ah (D.ao (gR g i) 14)),D.int IntKind.i64 (D.ah (D.ao (gR g i) 15)),D.str (D.eT (D.ao (gR g i) 16)),D.sl 3 (D.ez (D.ao (gR g i) 17))])
noncomputable def Hu (g:aj) (i:Int):Bool:=cX PR (54:TypeId) (gR g i)
def Hv (i:Int) (g:aj):Bool:=decide ((0:Int)<=i/\i<rn g)
def Jd (i:Int) (g:aj):Bool:=decide (i<rn g)
theorem Pe (g:aj) (k i:Int) (post:PX×S->Prop):(bif Jd i g then bif Hv i g then bif Hu g i then∃(aO:aj) (ca:Int) (o:a7),[bQ,Z3O g i]=[bQ,Cf o]/\Av g k aO ca/\(SmO o/\kOk ca)/\(pK (aj.s aO) ca o=none-> ∀(_:Int),post (PX.ret,S.mk 59 Z3P []))/\ ∀(n k':Int),pK (aj.s aO) ca o=some n->k'=ca+n->bif Zj i then post (PX.normal,S.mk 59 [dG,(48,nk g),(49,P.d (D.int IntKind.i64 (rn g))),(50,P.d (Zm i))] [(0,En.mk 0 none (Ld aO k'))]) else False else False else False else post (PX.exit 1,S.mk 59 [] []))=(aF [(83,qaX)] [] 51 11 (wcH g k i)) post:=by kernel_rfl
def qaY:S->K (PX×S):=fun st post=> ∃g,st=wcH g 0 0/\(MA g/\g.ops.length<=200)/\(jo g.s 0 g.ops=false->post (.ret,⟨59,[(2,iD 80)],[]⟩))/\(jo g.s 0 g.ops=true->post (.exit 1,⟨59,[],[]⟩))
def Ck (post:P×List (Nat×En)->Prop):Prop:=post (P.d (D.int IntKind.i64 (80:Int)),[])
def Ss (uD:aj):Prop:=List.length (aj.ops uD)<=200
def Z3Z (uD:aj) (post:P×List (Nat×En)->Prop):Prop:=(MA uD/\Ss uD)/\(jo (aj.s uD) (0:Int) (aj.ops uD)=false->Ck post)/\(jo (aj.s uD) (0:Int) (aj.ops uD)=true->Z8 post)
def Z3X (g:aj):S:=S.mk 59 [dG,(48,nk g),(49,P.d (D.int IntKind.i64 (rn g))),(50,P.d Z7)] [(0,En.mk 0 none (Obj.box (149:TypeId) (P.d (gb g)::P.d (fO g)::ob g::lC g::P.d (ib g)::P.d (ia g)::nk g::ZY)))]
def Z3W (g:aj) (a:ax) (b:ax):Prop:=P.d (D.agg [ib g,ia g])::I7 g=ED a b
def Z3V (g:aj) (s:ax):Prop:=[P.d (D.agg [ib g,ia g])]=nq s
def Z3U (g:aj):Bool:= !(Prod.fst (aj.bN g)==(0:Int)&&(Prod.snd (aj.bN g)==(0:Int)&&true))
def l8 (g:aj):P:=P.d (D.agg [gb g,fO g,D.int IntKind.i64 (aj.n g),D.sl 1 (bx (aj.deps g)),ib g,ia g,D.sl 18 (List.map gM (aj.ops g))])
def AB (g:aj):List P:=[l8 g]
theorem qd8 (g:aj) (post:P×List (Nat×En)->Prop):(∃(aO:aj),AB g=AB aO/\Zw/\MA aO/\ ∀(b:Bool),b=Xw aO->bif !b then Ck post else bif Z3U g then∃(s:ax),Z3V g s/\Zw/\ ∀(b:Bool),b=OW s->bif !b then Ck post else∃(a:ax) (b:ax),Z3W g a b/\Zw/\ ∀(c:Int),Lb a b c->bif Z2 c then Ck post else bif decide (rn g>(0:Int)) then Ck post else Z8 post else bif decide (rn g<(1:Int)) then Ck post else bif decide (rn g>(200:Int)) then Ck post else∃(uD:aj),Z3X g=Z3X uD/\Z3Z uD post)=(aH [(81,Ht),(82,uY),(66,xI)] [(11,ae (aK 51 11) qaY)] 51 [.d (aP g)] []) post:=by kernel_rfl
def EH:bm:=fun ps R post=> ∃g,ps=[.d (aP g)]/\R=[]/\MA g/\ ∀e,e=(if cQ g=true then 0 else 80)->post (iD e,[])
end Pi
namespace Pi
open Go Go.Proofs
set_option maxRecDepth 100000
section
variable {X:XF}
theorem UK:FD X 114 Hs:=FD.mk (H:=[]) (hk:=[(2,ae (aK 114 2) O8)]) (by kernel_rfl) .nil (.cons O9 .nil) (by
 intro ps R post hh
 obtain⟨g,k,l,rfl,rfl,hl,hp⟩:=hh
 (rw[<-qaW];delta Zs Zu nk ia ib lC ob ic fO ie gb Ld qD zj Z3 Hn Zx dV Z7 kG Hp bQ eO Z3k)
 refine⟨g,k,l,rfl,hl,fun h=>hp _ ?_,fun h=>hp _ ?_⟩
 ·rw[oZ,h];rfl
 ·rw[oZ,h,List.length_map,Bool.true_and,decide_eq_decide];omega)
theorem Pf:FD X 116 Cj:=FD.mk (H:=[]) (hk:=[(2,ae (aK 116 2) Hr)]) (by kernel_rfl) .nil (.cons Li .nil) (by
 intro ps R post hh
 obtain⟨g,k,l,rfl,rfl,hl,hp⟩:=hh
 (rw[<-UF];delta Zs Zu nk ia ib lC ob ic fO ie gb Ld qD tB Z3n Z3 Hn Zx Z7 nr mx bQ eO Z3m)
 simp only[List.length_map]
 refine⟨g,k,l,by simp only[],hl,fun h=>hp _ ?_,fun h=>bb (fun h2=>hp _ ?_) fun h2=>hp _ ?_⟩
 ·rw[uX,h];rfl
 ·rw[uX,h,Bool.true_and,decide_eq_decide];omega
 ·rw[uX,h,Bool.true_and];exact(decide_eq_false (by omega)).symm)
theorem UL:FD X 112 tC:=qaJ.weaken fun ps R post h=>by
 obtain⟨s,rfl,rfl,hp⟩:=h
 exact⟨s,rfl,rfl,hp _ rfl⟩
theorem Pg:FD X 138 tC:=B5.weaken fun ps R post h=>by
 obtain⟨s,rfl,rfl,hp⟩:=h
 exact⟨s,rfl,rfl,hp _ rfl⟩
theorem qaZ:FD X 108 AA:=qdO.weaken fun ps R post h=>by
 obtain⟨s,rfl,rfl,hs,hp⟩:=h
 exact⟨s,rfl,rfl,hs,hp _ rfl⟩
theorem qa0:FD X 105 AA:=qdP.weaken fun ps R post h=>by
 obtain⟨s,rfl,rfl,hs,hp⟩:=h
 exact⟨s,rfl,rfl,hs,hp _ rfl⟩
theorem Xy:FD X 31 tD:=qgd.weaken fun ps R post h=>by
 obtain⟨s,r,rfl,rfl,hs,hp⟩:=h
 exact⟨s,r,rfl,rfl,by omega,hp _ rfl⟩
theorem Hw:FD X 13 tD:=Xh.weaken fun ps R post h=>by
 obtain⟨s,r,rfl,rfl,hs,hp⟩:=h
 exact⟨s,r,rfl,rfl,by omega,hp _ rfl⟩
theorem UM:FD X 81 Ht:=FD.mk (H:=[(82,uY),(108,AA),(31,tD)]) (by kernel_rfl) (.cons O4 (.cons qaZ (.cons Xy .nil))) .nil (by
 intro ps R post hh
 obtain⟨g,rfl,rfl,hs,hp⟩:=hh
 (rw[<-UG];delta Z3 Z4 Za Z9 Z3C Zs Zu Zk ic fO zk ZU lC Z1 Zw mr nq ie gb Le I7)
 have key: ∀b,b=(OW g.s&&(decide (g.n>=1)&&(decide (g.n<=1099511627776)&&(ux g.deps&&(uW g.deps g.s.2==g.n-1)))))->b=Xw g:=fun b hb=>by
  rw[hb,Xw]
  rw[Bool.eq_iff_iff]
  simp only[Bool.and_eq_true,decide_eq_true_eq]
  constructor
  ·rintro⟨a,b,c,d,e⟩;exact⟨⟨⟨a,b,c⟩,d⟩,e⟩
  ·rintro⟨⟨⟨a,b,c⟩,d⟩,e⟩;exact⟨a,b,c,d,e⟩
 refine⟨g.s,rfl,rfl,fun b hb=>aw (fun h1=>bb (fun h2=>bb (fun h3=>⟨g.deps,rfl,rfl,hs.2.2,fun c hc=>aw (fun h4=>⟨g.deps,g.s.2,rfl,rfl,hs.2.2,fun n hn=>bp (by omega) (hp _ (key _ ?_))⟩) fun h4=>hp _ (key _ ?_)⟩) fun h3=>hp _ (key _ ?_)) fun h2=>hp _ (key _ ?_)) fun h1=>hp _ (key _ ?_)⟩
 ·rw[<-hb,h1,decide_eq_true h2,decide_eq_true h3,<-hc,h4,<-hn];rfl
 ·rw[<-hb,h1,decide_eq_true h2,decide_eq_true h3,<-hc,h4];rfl
 ·rw[<-hb,h1,decide_eq_true h2,decide_eq_false h3];rfl
 ·rw[<-hb,h1,decide_eq_false h2];rfl
 ·rw[<-hb,h1];rfl)
theorem Ph {s:ax} {k n:Int} {o:a7} (h:pK s k o=some n) (ho:o.text.length<=2000000):0<=n/\n<=2000000:=by
 have h1:=xG o.text
 have h2:=I4 o.text
 unfold pK at h
 (repeat' split at h)<;>simp at h<;>omega
theorem qd9:FD X 83 qaX:=FD.mk (H:=[(109,Ho),(113,rl),(111,Cd),(112,tC),(114,Hs),(116,Cj),(115,Au)]) (by kernel_rfl)
  (.cons UE (.cons Ci (.cons O6 (.cons UL (.cons UK (.cons Pf (.cons qaR .nil))))))) .nil (by
 intro ps R post hh
 obtain⟨g,k,o,rfl,rfl,⟨hs,hk⟩,h1,h2⟩:=hh
 have gh:0<=k/\k<=1000000000000:=hk
 (rw[<-qd7];delta nr Pa nk ia ib lC ob ic fO ie gb Z3y Z3 Za Z9 Z3x Z3z Z0 Xq Z3w vB vC vE Z3v zb Aw zd Ax Ay Z3u Xr sr K7 xw Zx dV kG kQ Zs Zu Ld qD yu lD lE uZ kW uA uB uC Z3s bQ Z3t Zm Z3r iz Zj Z3q Av ze zf zg zh zi Z3p Z3o Hn Zw Sr vF Cf)
 refine⟨o,rfl,rfl,fun b hb=>aw (fun h0=>h1 ?_ k) fun h0=> ?_⟩
 ·have:h9 o=false:=by rw[<-hb];simpa using h0
  rw[pK,if_pos this]
 have Cl:h9 o=true:=by rw[<-hb];simpa using h0
 have u:pK g.s k o=_:=pK.eq_1 g.s k o
 rw[if_neg (by rw[Cl];simp)] at u
 refine gK (fun e=> ?_) fun e0=>gK (fun e=> ?_) fun e1=>gK (fun e=> ?_) fun e2=>gK (fun e=> ?_) fun e3=>gK (fun e=> ?_) fun e4=>h1 ?_ k
 ·rw[if_pos e] at u
  rw[C5 o.node (g.s.1,g.s.2,k)]
  refine aw (fun c1=>⟨g,k,o.parent,rfl,rfl,fun b2 cu=>aw (fun c2=>⟨o.name,rfl,rfl,fun b3 iL=>bp (by omega) ?_⟩) fun c2=>bp (by omega) (h1 ?_ _)⟩) fun c1=>bp (by omega) (h1 ?_ _)
  ·cases b3 with
   |true=>exact h2 1 _ (by rw[u,if_pos ⟨by simpa using c1,by rw[<-cu,c2],iL.symm⟩]) rfl
   |false=>exact h1 (by rw[u,if_neg (fun h=>by rw[h.2.2] at iL;cases iL)]) _
  ·rw[u,if_neg (fun h=>by rw[h.2.1] at cu;rw[cu] at c2;cases c2)]
  ·rw[u,if_neg (fun h=>by rw[h.1] at c1;simp at c1)]
 ·rw[if_neg e0,if_pos e] at u
  refine⟨g,k,o.node,rfl,rfl,fun b2 cu=>aw (fun c2=>⟨g,k,o.parent,rfl,rfl,fun b3 iL=>aw (fun c3=>⟨o.name,rfl,rfl,fun b4 hb4=> ?_⟩) fun c3=>h1 ?_ _⟩) fun c2=>h1 ?_ _⟩
  ·cases b4 with
   |true=>exact h2 0 k (by rw[u,if_pos ⟨by rw[<-cu,c2],by rw[<-iL,c3],hb4.symm⟩]) (by omega)
   |false=>exact h1 (by rw[u,if_neg (fun h=>by rw[h.2.2] at hb4;cases hb4)]) _
  ·rw[u,if_neg (fun h=>by rw[h.2.1] at iL;rw[iL] at c3;cases c3)]
  ·rw[u,if_neg (fun h=>by rw[h.1] at cu;rw[cu] at c2;cases c2)]
 ·rw[if_neg e0,if_neg e1,if_pos e] at u
  refine⟨g,k,o.node,rfl,rfl,fun b2 cu=>aw (fun c2=>⟨g,k,o.bT,rfl,rfl,hs.2.1,fun b3 iL=> ?_⟩) fun c2=>h1 ?_ _⟩
  ·cases b3 with
   |true=>exact h2 0 k (by rw[u,if_pos ⟨by rw[<-cu,c2],iL.symm⟩]) (by omega)
   |false=>exact h1 (by rw[u,if_neg (fun h=>by rw[h.2] at iL;cases iL)]) _
  ·rw[u,if_neg (fun h=>by rw[h.1] at cu;rw[cu] at c2;cases c2)]
 ·rw[if_neg e0,if_neg e1,if_neg e2,if_pos e] at u
  have bE: ∀n,n=Cb o.text->0<=n/\n<=2000000:=fun n hn=>by
   have g1:=xG o.text
   have g2:=I4 o.text
   have:=hs.1
   omega
  refine⟨o.text,rfl,rfl,hs.1,fun hv=> ?_,fun hv n hn=> ?_⟩
  ·have hr:o5 o.text=false:=by rw[o5,hv];rfl
   have b9:pK g.s k o=none:=by rw[u,if_neg (fun h=>by rw[h.2.2.2] at hr;cases hr)]
   refine⟨g,k,o.node,rfl,rfl,fun b2 cu=>aw (fun c2=>⟨g,k,o.after,rfl,rfl,fun b3 iL=>aw (fun c3=>aw (fun c4=>bp (by omega) (h1 b9 _)) fun c4=>bp (by omega) (h1 b9 _)) fun c3=>bp (by omega) (h1 b9 _)⟩) fun c2=>bp (by omega) (h1 b9 _)⟩
  ·have:=bE n hn
   have hr:o5 o.text=decide (1<=n/\n<=2000):=by rw[o5,hv,Bool.true_and,hn]
   refine⟨g,k,o.node,rfl,rfl,fun b2 cu=>aw (fun c2=>⟨g,k,o.after,rfl,rfl,fun b3 iL=>aw (fun c3=> ?_) fun c3=>bp (by omega) (h1 ?_ _)⟩) fun c2=>bp (by omega) (h1 ?_ _)⟩
   ·rw[C5 o.elem (g.s.1,g.s.2,k)]
    refine aw (fun c4=>bb (fun c5=>bp (by omega) ?_) fun c5=>bp (by omega) (h1 ?_ _)) fun c4=>bp (by omega) (h1 ?_ _)
    ·by_cases c6:n<=2000
     ·rw[show decide (n<=2000)=true from decide_eq_true c6]
      exact h2 n _ (by rw[u,if_pos ⟨by rw[<-cu,c2],by rw[<-iL,c3],by simpa using c4,by rw[hr];exact decide_eq_true ⟨c5,c6⟩⟩,hn]) rfl
     ·rw[show decide (n<=2000)=false from decide_eq_false c6]
      exact h1 (by rw[u,if_neg (fun h=>by rw[hr] at h;exact c6 (of_decide_eq_true h.2.2.2).2)]) _
    ·rw[u,if_neg (fun h=>by rw[hr] at h;exact c5 (of_decide_eq_true h.2.2.2).1)]
    ·rw[u,if_neg (fun h=>by rw[h.2.2.1] at c4;simp at c4)]
   ·rw[u,if_neg (fun h=>by rw[h.2.1] at iL;rw[iL] at c3;cases c3)]
   ·rw[u,if_neg (fun h=>by rw[h.1] at cu;rw[cu] at c2;cases c2)]
 ·rw[if_neg e0,if_neg e1,if_neg e2,if_neg e3,if_pos e] at u
  refine⟨g,k,o.node,rfl,rfl,fun b2 cu=>aw (fun c2=>⟨g,k,o.elems,rfl,rfl,hs.2.2,fun b3 iL=> ?_⟩) fun c2=>h1 ?_ _⟩
  ·cases b3 with
   |true=>exact h2 0 k (by rw[u,if_pos ⟨by rw[<-cu,c2],iL.symm⟩]) (by omega)
   |false=>exact h1 (by rw[u,if_neg (fun h=>by rw[h.2] at iL;cases iL)]) _
  ·rw[u,if_neg (fun h=>by rw[h.1] at cu;rw[cu] at c2;cases c2)]
 ·rw[u,if_neg e0,if_neg e1,if_neg e2,if_neg e3,if_neg e4])
theorem UN:LD X 51 11 (ae (aK 51 11) qaY):=LD.idx (H:=[(83,qaX)]) (hk:=[]) (by kernel_rfl) (by kernel_rfl) (.cons qd9 .nil) .nil
 (A:=aj) (B:=Int) (fun g k i=>wcH g k i) (fun g=>g.ops.length) (fun g i k=>(MA g/\g.ops.length<=200)/\(0<=k/\k<=2000000*i)/\jo g.s 0 g.ops=jo g.s k (g.ops.drop i))
 (fun g x=>(jo g.s 0 g.ops=false/\x=(.ret,⟨59,[(2,iD 80)],[]⟩))\/(jo g.s 0 g.ops=true/\x=(.exit 1,⟨59,[],[]⟩)))
 (by
  rintro g k i post h0 bS bc ⟨hs,hk,he⟩ hn ho
  (rw[<-Pe];delta Zs Zu nk ia ib lC ob ic fO ie gb Ld Zm rn bQ dG Za Z9 Zj Z3P qD Av Sr vB vC vE zb Aw zd Ax Ay kQ ze zf zg zh zi uA uB uC vF Cf Zg gR UH UI UJ Pb Pc Pd Z3O Hu Hv Jd)
  have e1:D.nth (g.ops.map gM) i.toNat=gM g.ops[i.toNat]:=ay _ _ _ bc
  rw[e1]
  simp only[wcH,List.length_map] at hn⊢
  have hd:g.ops.drop i.toNat=g.ops[i.toNat]::g.ops.drop (i.toNat+1):=List.drop_eq_getElem_cons bc
  have MB:=hs.1.1 _ (List.getElem_mem bc)
  have GL:=hs.2
  rw[hd] at he
  generalize g.ops[i.toNat]=o at he MB
  refine xJ bS (bp ⟨h0,bS⟩ (aq (Lg _) ⟨g,k,o,rfl,rfl,⟨MB,by unfold kOk;omega⟩,fun h k'=>ho _ (fun h=>by cases h) (.inl ⟨?_,rfl⟩),fun n k' h lK=>bp (by omega) (hn k' ⟨hs,?_,?_⟩)⟩))
  ·rw[he,jo,h]
  ·have:=Ph h MB.1
   omega
  ·rw[he,jo,h,lK])
 (by
  rintro g k i post hi ⟨hs,hk,he⟩ ho
  (rw[<-Pe];delta Zs Zu nk ia ib lC ob ic fO ie gb Ld Zm rn bQ dG Za Z9 Zj Z3P qD Av Sr vB vC vE zb Aw zd Ax Ay kQ ze zf zg zh zi uA uB uC vF Cf Zg gR UH UI UJ Pb Pc Pd Z3O Hu Hv Jd)
  simp only[List.length_map]
  refine bb (fun h=>by omega) fun h=>ho _ (fun h=>by cases h) (.inr ⟨?_,rfl⟩)
  rw[he,List.drop_length]
  rfl)
 (by
  rintro s post ⟨g,rfl,hs,h1,h2⟩
  refine⟨g,0,rfl,⟨hs,by omega,rfl⟩,?_⟩
  rintro x (⟨h,rfl⟩| ⟨h,rfl⟩)
  ·exact h1 h
  ·exact h2 h)
theorem Xz:FD X 51 EH:=FD.mk (H:=[(81,Ht),(82,uY),(66,xI)]) (hk:=[(11,ae (aK 51 11) qaY)]) (by kernel_rfl) (.cons UM (.cons O4 (.cons Hq .nil))) (.cons UN .nil) (by
 intro ps R post hh
 obtain⟨g,rfl,rfl,hs,hp⟩:=hh
 (rw[<-qd8];delta Z7 Z8 Ck Ss Z3Z ZY ia ib lC ob ic fO ie gb rn nk bQ dG Z3X Z2 mr nq ED Le I7 Z3W Z3V Z3U Zw l8 AB)
 have b9:cQ g=false->post (.d (.int .i64 80),[]):=fun h=>hp _ (by rw[h];rfl)
 have ml:cQ g=true->post (.d (.int .i64 0),[]):=fun h=>hp _ (by rw[h];rfl)
 have u:=cQ.eq_1 g
 refine⟨g,rfl,rfl,hs,fun b hb=>aw (fun c1=>b9 ?_) fun c1=> ?_⟩
 ·rw[u,<-hb,show b=false by simpa using c1];rfl
 rw[<-hb,show b=true by simpa using c1,Bool.true_and] at u
 rw[Ch g.bN (0,0)]
 simp only[List.length_map]
 refine aw (fun c2=>⟨g.bN,rfl,rfl,fun b2 cu=>aw (fun c3=>b9 ?_) fun c3=>⟨g.bN,g.s,rfl,rfl,fun c hc=>bb (fun c4=>b9 ?_) fun c4=>bb (fun c5=>b9 ?_) fun c5=>ml ?_⟩⟩) fun c2=>bb (fun c3=>b9 ?_) fun c3=>bb (fun c4=>b9 ?_) fun c4=>⟨g,by simp only[],⟨hs,by omega⟩,fun h=>b9 ?_,fun h=>ml ?_⟩
 ·rw[if_pos (by simpa using c2),<-cu,show b2=false by simpa using c3] at u
  rw[u];rfl
 ·have e4:qC g.bN g.s=false:=by rw[<-Bool.not_eq_true,<-hc.lt];omega
  rw[if_pos (by simpa using c2),e4] at u
  rw[u];simp
 ·rw[if_pos (by simpa using c2)] at u
  rw[u,show(g.ops.length==0)=false by rw[beq_eq_false_iff_ne];omega];simp
 ·have e4:qC g.bN g.s=true:=by rw[<-hc.lt];omega
  rw[if_pos (by simpa using c2),<-cu,show b2=true by simpa using c3,e4,show(g.ops.length==0)=true by rw[beq_iff_eq];omega] at u
  rw[u];rfl
 ·rw[if_neg (by simpa using c2),decide_eq_false (by omega)] at u
  rw[u];rfl
 ·rw[if_neg (by simpa using c2),decide_eq_false (by omega)] at u
  rw[u];rfl
 ·rw[if_neg (by simpa using c2),h] at u
  rw[u];simp
 ·rw[if_neg (by simpa using c2),h,decide_eq_true (by omega)] at u
  rw[u];rfl)
end
end Pi
namespace Pi
open Go Go.Proofs
set_option maxRecDepth 100000
set_option maxHeartbeats 0
abbrev gbB (g:aj):Obj:= .box 34 [iD g.s.1,iD g.s.2,iD g.n,.d (.sl 1 (bx g.deps)),iD g.bN.1,iD g.bN.2,qaS g.ops]
abbrev gbR (g:aj):List (Nat×En):=[(0,⟨0,none,gbB g⟩)]
def nt:bm:=fun ps R post=> ∃g k x,ps=[.d (aP g),.d (bH x),iD k]/\R=[]/\ ∀b,b=dA g.s k x->post (kP b,[])
def Pj:bm:=fun ps R post=> ∃g k x,ps=[.d (aP g),.d (bH x),iD k]/\R=[]/\ ∀b,b=l6 g.s k x->post (kP b,[])
def Hx:bm:=fun ps R post=> ∃o a b c d e,ps=[.d (gM o),kP a,kP b,kP c,kP d,kP e]/\R=[]/\ ∀r,r=o4 o a b c d e->post (kP r,[])
theorem Pk (g:aj) (k:Int) (x:aC) (post:P×List (Nat×En)->Prop):(∃(aM:aC),kW x=kW aM/\Zw/\ ∀(b:Bool),b=rgX aM->bif !b then Z4 post else∃(a:ax) (b:ax),Z2f x g a b/\Zw/\ ∀(r:Bool),r=qC a b->bif r then ZN post else bif Z2n x g then post (P.d (D.bool (decide (lD x<k))),[]) else Z4 post)=(aH [(151,Lc),(14,o6)] [] 140 [.d (aP g),.d (bH x),iD k] []) post:=by kernel_rfl
def MC (g:aj) (x:aC) (k:Int):List P:=l8 g::uZ x::Zu k
theorem qa1 (g:aj) (k:Int) (x:aC) (post:P×List (Nat×En)->Prop):(bif Z2p x then ZN post else∃(aO:aj) (ca:Int) (aM:aC),MC g x k=MC aO aM ca/\Zw/\ ∀(b:Bool),yu b aO ca aM->post (iz b,[]))=(aH [(140,nt)] [] 137 [.d (aP g),.d (bH x),iD k] []) post:=by kernel_rfl
def Z41 (d:Bool) (e:Bool) (post:P×List (Nat×En)->Prop) (o:a7):Prop:=bif d then bif e then ZN post else post (P.d (D.bool (Z2R o==(0:Int))),[]) else bif Prod.fst (a7.after o)==(0:Int)&&(zd o==(0:Int)&&true)&&(zb o==(0:Int)&&true) then bif vE o==(0:Int)&&(vC o==(0:Int)&&true)&&(vB o==(0:Int)&&true) then bif a7.text o==[] then bif e then ZN post else post (P.d (D.bool (Z2R o==(0:Int))),[]) else Z4 post else Z4 post else Z4 post
def Z42 (c:Bool) (o:a7) (post:P×List (Nat×En)->Prop) (d:Bool) (e:Bool):Prop:=bif !c then bif decide (mv o>(0:Int)) then Z4 post else Z41 d e post o else Z41 d e post o
theorem UO (o:a7) (a b c d e:Bool) (post:P×List (Nat×En)->Prop):(bif !a then bif !(Prod.fst (a7.parent o)==(0:Int)&&(zg o==(0:Int)&&true)&&(ze o==(0:Int)&&true)) then Z4 post else bif !a7.name o==[] then Z4 post else bif !b then bif a7.dir o then Z4 post else Z42 c o post d e else Z42 c o post d e else bif !b then bif a7.dir o then Z4 post else Z42 c o post d e else Z42 c o post d e)=(aH [] [] 139 [.d (gM o),kP a,kP b,kP c,kP d,kP e] []) post:=by kernel_rfl
abbrev qa2 (g:aj) (l:List ax) (i:Int):S:=⟨47,[(1,fE l),(2,.ref 0 0 0),(5,iD i)],gbR g⟩
def jz (g:aj):En:=En.mk 0 none (Obj.box (34:TypeId) [P.d (gb g),P.d (fO g),ob g,lC g,P.d (ib g),P.d (ia g),nk g])
def xM (g:aj):List (Nat×En):=[(0,jz g)]
def Z46 (i:Int) (post:PX×S->Prop) (l:List ax) (g:aj):Prop:=bif Zj i then post (PX.normal,S.mk 47 (Hp l::(2,bQ)::Zn i) (xM g)) else False
def Z43 (post:PX×S->Prop) (l:List ax):Prop:=post (PX.ret,S.mk 47 (Hp l::Zi) [])
theorem EI (g:aj) (l:List ax) (i:Int) (post:PX×S->Prop):(bif Mz i l then bif I8 i l then bif vG l i then∃(s:ax),[P.d (D.agg (FE l i))]=nq s/\Zw/\ ∀(b:Bool),b=OW s->bif !b then Z43 post l else bif I8 i l then bif vG l i then∃(a:ax) (b:ax),[Le g,P.d (D.agg (FE l i))]=ED a b/\Zw/\ ∀(r:Bool),r=qC a b->bif r then Z43 post l else bif Zq i then bif Zb i then bif decide ((0:Int)<=i-(1:Int)/\i-(1:Int)<zj l) then bif cX PR (30:TypeId) (D.nth (List.map aX l) (Zc i)) then bif I8 i l then bif vG l i then∃(a:ax) (b:ax),Z33 l i a b/\Zw/\ ∀(r:Bool),r=qC a b->bif !r then Z43 post l else Z46 i post l g else False else False else False else False else False else Z46 i post l g else False else False else False else False else post (PX.exit 0,S.mk 47 [Hp l] []))=(aF [(104,uY),(14,o6)] [] 141 2 (qa2 g l i)) post:=by kernel_rfl
abbrev qa3 (g:aj) (k:Int) (l:List aC) (i:Int):S:=⟨47,[(1,dx l),(2,iD k),(3,.ref 0 0 0),(7,iD i)],gbR g⟩
def Z48 (i:Int) (post:PX×S->Prop) (l:List aC) (k:Int) (g:aj):Prop:=bif Zj i then post (PX.normal,S.mk 47 (mx l::ZE k::dG::ZJ i) (xM g)) else False
def Z47:List (Nat×P):=[(6,P.d Z3)]
theorem AE (g:aj) (k:Int) (l:List aC) (i:Int) (post:PX×S->Prop):(bif UD i l then bif Lf i l then bif Az l i then∃(aO:aj) (ca:Int) (x:aC),l8 g::P.d (D.agg (O1 l i))::Zu k=MC aO x ca/\Zw/\ ∀(b:Bool),yu b aO ca x->bif !b then post (PX.ret,S.mk 47 (mx l::Z47) []) else bif Zq i then bif Zb i then bif Z3f i l then bif UC l i then bif Lf i l then bif Az l i then∃(x:aC) (y:aC),Z3i l i x y/\Zw/\ ∀(c:Int),I6 x y c->bif Z2 c then post (PX.ret,S.mk 47 (mx l::Z47) []) else Z48 i post l k g else False else False else False else False else False else Z48 i post l k g else False else False else post (PX.exit 0,S.mk 47 [mx l] []))=(aF [(140,nt),(88,pL)] [] 143 2 (qa3 g k l i)) post:=by kernel_rfl
end Pi
namespace Pi
open Go Go.Proofs
set_option maxRecDepth 100000
section
variable {X:XF}
theorem xN:FD X 140 nt:=FD.mk (H:=[(151,Lc),(14,o6)]) (by kernel_rfl) (.cons qaV (.cons xK .nil)) .nil (by
 intro ps R post hh
 obtain⟨g,k,x,rfl,rfl,hp⟩:=hh
 (rw[<-Pk];delta lD ic lE ie Z2n ZM ZN mr nq ED fO gb Le I7 Z2f Z3 Z4 Zw uZ kW)
 refine⟨x,rfl,rfl,fun b hb=>aw (fun h1=>hp _ ?_) fun h1=>⟨FA x,g.s,rfl,rfl,fun c hc=>aw (fun h2=>hp _ ?_) fun h2=>aw (fun h3=>hp _ ?_) fun h3=>hp _ ?_⟩⟩
 ·rw[dA,<-hb,show b=false by simpa using h1];rfl
 ·rw[dA,<-hb,show b=true by simpa using h1,<-hc,h2];rfl
 ·have e:(FA x==g.s)=true:=by rw[<-Ch (FA x) g.s];exact h3
  rw[dA,<-hb,show b=true by simpa using h1,<-hc,h2,e];simp
 ·have e:(FA x==g.s)=false:=by rw[<-Ch (FA x) g.s];exact h3
  rw[dA,<-hb,show b=true by simpa using h1,<-hc,h2,e];rfl)
theorem qa4:FD X 137 Pj:=FD.mk (H:=[(140,nt)]) (by kernel_rfl) (.cons xN .nil) .nil (by
 intro ps R post hh
 obtain⟨g,k,x,rfl,rfl,hp⟩:=hh
 (rw[<-qa1];delta iz yu Zw Zs Zu lD lE uZ ia ib ic fO ie gb l8 MC ZM ZN Z2p)
 refine aw (fun h1=>hp _ ?_) fun h1=>⟨g,k,x,rfl,rfl,fun b hb=>hp _ ?_⟩
 ·rw[l6,<-C5 x aS,h1];rfl
 ·rw[l6,<-C5 x aS,h1,hb];rfl)
theorem UP:FD X 139 Hx:=FD.mk (H:=[]) (by kernel_rfl) .nil .nil (by
 intro ps R post hh
 obtain⟨o,a,b,c,d,e,rfl,rfl,hp⟩:=hh
 (rw[<-UO];delta Z3 Z4 vB vC vE zb zd Z2R ZM ZN Z41 mv Z42 ze zg)
 rw[show(o.parent.1==0&&(o.parent.2.1==0&&true)&&(o.parent.2.2==0&&true))=(o.parent==aS) from C5 o.parent aS,show(o.after.1==0&&(o.after.2.1==0&&true)&&(o.after.2.2==0&&true))=(o.after==aS) from C5 o.after aS,
  show(o.elem.1==0&&(o.elem.2.1==0&&true)&&(o.elem.2.2==0&&true))=(o.elem==aS) from C5 o.elem aS]
 have e1:decide (((o.bT.map aX).length:Int)>0)= !(o.bT.length==0):=by
  rw[List.length_map]
  cases o.bT with
  |nil=>rfl
  |cons x t=>rw[decide_eq_true (by simp)];rfl
 have e2:(((o.elems.map bH).length:Int)==0)=(o.elems.length==0):=by rw[List.length_map];exact lnE _ 0
 rw[e1,e2]
 unfold o4 at hp
 generalize (o.parent==aS)=P1 at*
 generalize (o.after==aS)=P2 at*
 generalize (o.elem==aS)=P3 at*
 generalize (o.bT.length==0)=P4 at*
 generalize (o.elems.length==0)=P5 at*
 generalize (o.name==[])=P6 at*
 generalize (o.text==[])=P7 at*
 generalize o.dir=P8 at*
 cases a<;>cases b<;>cases c<;>cases d<;>cases e
 all_goals (simp only[Bool.not_true,Bool.not_false,cond_true,cond_false,Bool.true_or,Bool.false_or,Bool.true_and,Bool.and_true] at hp⊢)
 all_goals (repeat' (first | (refine aw (fun h=> ?_) (fun h=> ?_))))
 all_goals (refine hp _ ?_;simp_all))
def Hy:S->K (PX×S):=fun st post=> ∃g l,st=qa2 g l 0/\l.length<=9223372036854775807/\(kF l.length (lB g.s l)=false->post (.ret,⟨47,[(1,fE l),(4,kP false)],[]⟩))/\(kF l.length (lB g.s l)=true->post (.exit 0,⟨47,[(1,fE l)],[]⟩))
theorem Lj:LD X 141 2 (ae (aK 141 2) Hy):=LD.find (H:=[(104,uY),(14,o6)]) (hk:=[]) (by kernel_rfl) (by kernel_rfl) (.cons O5 (.cons xK .nil)) .nil
 (A:=aj×List ax) (fun a k=>qa2 a.1 a.2 k) (fun a=>a.2) (fun a j _=> !lB a.1.s a.2 j) (fun a=>a.2.length<=9223372036854775807)
 (fun a _=>(.ret,⟨47,[(1,fE a.2),(4,kP false)],[]⟩)) (fun a=>(.exit 0,⟨47,[(1,fE a.2)],[]⟩)) (fun _ _ h=>by cases h) (fun _ h=>by cases h)
 (by
  rintro⟨g,l⟩ i post hi hC h0 bS ht hn
  dsimp only at*
  (rw[<-EI];delta kG Hp nk ia ib lC ob ic fO ie gb jz xM Zm Zn bQ Za Z9 Zj Z46 mr nq ED Zg FB EE FE Zc Z33 zj Zb Zq Le Z3 Zi Z43 Zw vG I8 Mz)
  have e1:D.nth (l.map aX) i.toNat=aX l[i.toNat]:=ay _ _ _ hi
  have d1:=dK hi ((0,0):ax)
  rw[e1]
  simp only[List.length_map]
  refine xJ bS (bp ⟨h0,bS⟩ (aq (l7 _) ⟨l[i.toNat],rfl,rfl,fun b hb=>aw (fun h1=> ?_) fun h1=>bp ⟨h0,bS⟩ (aq (l7 _) ⟨g.s,l[i.toNat],rfl,rfl,fun c hc=>aw (fun h2=> ?_) fun h2=>bb (fun h3=> ?_) fun h3=> ?_⟩)⟩))
  ·refine ht ?_
   rw[lB,d1,<-hb,show b=false by simpa using h1];rfl
  ·refine ht ?_
   rw[lB,d1,<-hc,h2];simp
  ·have e2:D.nth (l.map aX) (i-1).toNat=aX (l[(i-1).toNat]'(by omega)):=ay _ _ _ (by omega)
   have d2:=dK (show(i-1).toNat<l.length by omega) ((0,0):ax)
   rw[e2]
   refine bp (by omega) (bp ⟨by omega,by omega⟩ (aq (l7 _) (bp ⟨h0,bS⟩ (aq (l7 _) ⟨l[(i-1).toNat],l[i.toNat],rfl,rfl,fun c' qt=>aw (fun h4=>ht ?_) fun h4=>bp (by omega) (hn ?_)⟩))))
   ·rw[lB,d1,show i.toNat-1=(i-1).toNat by omega,d2,<-qt,show c'=false by simpa using h4,show(i.toNat==0)=false by simp;omega];simp
   ·rw[lB,d1,show i.toNat-1=(i-1).toNat by omega,d2,<-hc,h2,<-qt,show c'=true by simpa using h4,<-hb,show b=true by simpa using h1];simp
  ·refine bp (by omega) (hn ?_)
   rw[lB,d1,<-hc,h2,<-hb,show b=true by simpa using h1,show(i.toNat==0)=true by simp;omega];simp)
 (by
  rintro⟨g,l⟩ i post hC hi hp
  dsimp only at*
  (rw[<-EI];delta kG Hp nk ia ib lC ob ic fO ie gb jz xM Zm Zn bQ Za Z9 Zj Z46 mr nq ED Zg FB EE FE Zc Z33 zj Zb Zq Le Z3 Zi Z43 Zw vG I8 Mz)
  simp only[List.length_map]
  exact bb (fun h=>by omega) fun h=>hp)
 (by
  rintro s post ⟨g,l,rfl,hl,h1,h2⟩
  refine⟨(g,l),rfl,hl,fun i hi h0 ht _=>h1 (B8 (i:=i.toNat) hi (by simpa using ht)),fun h=>h2 (B9 fun i hi=>by simpa using h i hi)⟩)
def Cm:S->K (PX×S):=fun st post=> ∃g k l,st=qa3 g k l 0/\l.length<=9223372036854775807/\(kF l.length (Ca g.s k l)=false->post (.ret,⟨47,[(1,dx l),(6,kP false)],[]⟩))/\(kF l.length (Ca g.s k l)=true->post (.exit 0,⟨47,[(1,dx l)],[]⟩))
theorem Hz:LD X 143 2 (ae (aK 143 2) Cm):=LD.find (H:=[(140,nt),(88,pL)]) (hk:=[]) (by kernel_rfl) (by kernel_rfl) (.cons xN (.cons Lh .nil)) .nil
 (A:=aj×Int×List aC) (fun a k=>qa3 a.1 a.2.1 a.2.2 k) (fun a=>a.2.2) (fun a j _=> !Ca a.1.s a.2.1 a.2.2 j) (fun a=>a.2.2.length<=9223372036854775807)
 (fun a _=>(.ret,⟨47,[(1,dx a.2.2),(6,kP false)],[]⟩)) (fun a=>(.exit 0,⟨47,[(1,dx a.2.2)],[]⟩)) (fun _ _ h=>by cases h) (fun _ h=>by cases h)
 (by
  rintro⟨g,k,l⟩ i post hi hC h0 bS ht hn
  dsimp only at*
  (rw[<-AE];delta nk ia ib lC ob ic fO ie gb jz xM Zm ZJ bQ dG Zs ZE nr mx Za Z9 Zj Z48 Z2 lD lE uZ kW Zg Ja Jb Jc O1 Zc Xx Z3i UC tB Z3f Zb Zq Z3 Z47 yu Zw Zu l8 MC Az Lf UD)
  have e1:D.nth (l.map bH) i.toNat=bH l[i.toNat]:=ay _ _ _ hi
  have d1:=dK hi aS
  rw[e1]
  simp only[List.length_map]
  refine xJ bS (bp ⟨h0,bS⟩ (aq (rj _) ⟨g,k,l[i.toNat],rfl,rfl,fun b hb=>aw (fun h1=> ?_) fun h1=>bb (fun h3=> ?_) fun h3=> ?_⟩))
  ·refine ht ?_
   rw[Ca,d1,<-hb,show b=false by simpa using h1];rfl
  ·have e2:D.nth (l.map bH) (i-1).toNat=bH (l[(i-1).toNat]'(by omega)):=ay _ _ _ (by omega)
   have d2:=dK (show(i-1).toNat<l.length by omega) aS
   rw[e2]
   refine bp (by omega) (bp ⟨by omega,by omega⟩ (aq (rj _) (bp ⟨h0,bS⟩ (aq (rj _) ⟨l[(i-1).toNat],l[i.toNat],rfl,rfl,fun c' qt=>bb (fun h4=>ht ?_) fun h4=>bp (by omega) (hn ?_)⟩))))
   ·have e4:Aq l[(i-1).toNat] l[i.toNat]=false:=by rw[<-Bool.not_eq_true,<-qt.lt];omega
    rw[Ca,d1,show i.toNat-1=(i-1).toNat by omega,d2,e4,show(i.toNat==0)=false by simp;omega];simp
   ·have e4:Aq l[(i-1).toNat] l[i.toNat]=true:=by rw[<-qt.lt];omega
    rw[Ca,d1,show i.toNat-1=(i-1).toNat by omega,d2,e4,<-hb,show b=true by simpa using h1];simp
  ·refine bp (by omega) (hn ?_)
   rw[Ca,d1,<-hb,show b=true by simpa using h1,show(i.toNat==0)=true by simp;omega];simp)
 (by
  rintro⟨g,k,l⟩ i post hC hi hp
  dsimp only at*
  (rw[<-AE];delta nk ia ib lC ob ic fO ie gb jz xM Zm ZJ bQ dG Zs ZE nr mx Za Z9 Zj Z48 Z2 lD lE uZ kW Zg Ja Jb Jc O1 Zc Xx Z3i UC tB Z3f Zb Zq Z3 Z47 yu Zw Zu l8 MC Az Lf UD)
  simp only[List.length_map]
  exact bb (fun h=>by omega) fun h=>hp)
 (by
  rintro s post ⟨g,k,l,rfl,hl,h1,h2⟩
  refine⟨(g,k,l),rfl,hl,fun i hi h0 ht _=>h1 (B8 (i:=i.toNat) hi (by simpa using ht)),fun h=>h2 (B9 fun i hi=>by simpa using h i hi)⟩)
end
end Pi
namespace Pi
open Go Go.Proofs
set_option maxRecDepth 100000
set_option maxHeartbeats 0
theorem UQ (g:aj) (l:List ax) (post:P×List (Nat×En)->Prop):(∃(aO:aj) (ar:List ax),S.mk 47 (Hp l::(2,bQ)::ZL) (xM g)=S.mk 47 (Hp ar::(2,bQ)::ZL) (xM aO)/\dV ar<=Zx/\(kF (dV ar) (lB (aj.s aO) ar)=false->Z4 post)/\(kF (dV ar) (lB (aj.s aO) ar)=true->post (P.d (D.bool (decide (zj ar<=(200:Int)))),[])))=(aH [] [(2,ae (aK 141 2) Hy)] 141 [.d (aP g),fE l] []) post:=by kernel_rfl
theorem Pm (g:aj) (k:Int) (l:List aC) (post:P×List (Nat×En)->Prop):(∃(aO:aj) (ca:Int) (ar:List aC),S.mk 47 (mx l::ZE k::dG::ZZ) (xM g)=S.mk 47 (mx ar::ZE ca::dG::ZZ) (xM aO)/\List.length ar<=Zx/\(kF (List.length ar) (Ca (aj.s aO) ca ar)=false->Z4 post)/\(kF (List.length ar) (Ca (aj.s aO) ca ar)=true->bif decide ((↑(tB ar):Int)>=(1:Int)) then post (Z3n ar,[]) else Z4 post))=(aH [] [(2,ae (aK 143 2) Cm)] 143 [.d (aP g),dx l,iD k] []) post:=by kernel_rfl
def HA:bm:=fun ps R post=> ∃g l,ps=[.d (aP g),fE l]/\R=[]/\l.length<=9223372036854775807/\ ∀b,b=oZ g.s l->post (kP b,[])
def Cn:bm:=fun ps R post=> ∃g k l,ps=[.d (aP g),dx l,iD k]/\R=[]/\l.length<=9223372036854775807/\ ∀b,b=uX g.s k l->post (kP b,[])
def Z4b (g:aj) (o:a7) (k:Int) (aO:aj) (x:aC) (ca:Int):Prop:=l8 g::Z3s o::Zu k=MC aO x ca
def Z4a (aQ:a7) (a:Bool) (b:Bool) (c:Bool) (d:Bool) (e:Bool):List P:=[Cf aQ,iz a,iz b,iz c,iz d,iz e]
def Z49:List P:=[P.d Z3,P.d Z3,P.d Z3]
theorem qea (g:aj) (k:Int) (o:a7) (post:P×List (Nat×En)->Prop):(bif a7.kind o==(0:Int) then bif Z3o o g k then∃(aO:aj) (ca:Int) (x:aC),l8 g::Z3p o::Zu k=MC aO x ca/\Zw/\ ∀(b:Bool),b=l6 (aj.s aO) ca x->bif b then∃(s:List UInt8),Z3q o s/\Zw/\ ∀(b:Bool),b=eL s->bif b then∃(aQ:a7) (a:Bool) (b:Bool) (c:Bool) (d:Bool) (e:Bool),Cf o::ZM::ZM::Z49=Z4a aQ a b c d e/\Zw/\ ∀(r:Bool),r=o4 aQ a b c d e->bif r then Xs post else n9 post else n9 post else n9 post else n9 post else bif a7.kind o==(1:Int) then∃(aO:aj) (ca:Int) (x:aC),Z4b g o k aO x ca/\Zw/\ ∀(b:Bool),yu b aO ca x->bif b then∃(uD:aj) (Pn:Int) (x:aC),l8 g::Z3p o::Zu k=MC uD x Pn/\Zw/\ ∀(b:Bool),b=l6 (aj.s uD) Pn x->bif b then∃(s:List UInt8),Z3q o s/\Zw/\ ∀(b:Bool),b=eL s->bif b then∃(aQ:a7) (a:Bool) (b:Bool) (c:Bool) (d:Bool) (e:Bool),Cf o::ZM::P.d Z3::Z49=Z4a aQ a b c d e/\Zw/\ ∀(r:Bool),r=o4 aQ a b c d e->bif r then Z8 post else n9 post else n9 post else n9 post else n9 post else bif a7.kind o==(2:Int) then∃(aO:aj) (ca:Int) (x:aC),Z4b g o k aO x ca/\Zw/\ ∀(b:Bool),yu b aO ca x->bif b then∃(uD:aj) (l:List ax),[l8 g,P.d (kQ o)]=[l8 uD,kG l]/\Zw/\dV l<=Zx/\ ∀(b:Bool),b=oZ (aj.s uD) l->bif b then∃(aQ:a7) (a:Bool) (b:Bool) (c:Bool) (d:Bool) (e:Bool),[Cf o,P.d Z3,P.d Z3,ZM,P.d Z3,P.d Z3]=Z4a aQ a b c d e/\Zw/\ ∀(r:Bool),r=o4 aQ a b c d e->bif r then Z8 post else n9 post else n9 post else n9 post else bif a7.kind o==(3:Int) then∃(s:List UInt8),[P.d (D.str (a7.text o))]=xw s/\Zw/\K7 s/\(Xr s-> ∃(aO:aj) (ca:Int) (x:aC),Z4b g o k aO x ca/\Zw/\ ∀(b:Bool),yu b aO ca x->bif b then∃(uD:aj) (Pn:Int) (x:aC),l8 g::Z3u o::Zu k=MC uD x Pn/\Zw/\ ∀(b:Bool),b=l6 (aj.s uD) Pn x->bif b then bif Z3v o g k then n9 post else n9 post else n9 post else n9 post)/\(Xq s-> ∀(n:Int),n=Cb s-> ∃(aO:aj) (ca:Int) (x:aC),Z4b g o k aO x ca/\Zw/\ ∀(b:Bool),yu b aO ca x->bif b then∃(uD:aj) (Pn:Int) (x:aC),l8 g::Z3u o::Zu k=MC uD x Pn/\Zw/\ ∀(b:Bool),b=l6 (aj.s uD) Pn x->bif b then bif Z3v o g k then bif Z0 n then bif decide (n<=(2000:Int)) then∃(aQ:a7) (a:Bool) (b:Bool) (c:Bool) (d:Bool) (e:Bool),[Cf o,P.d Z3,P.d Z3,P.d Z3,ZM,P.d Z3]=Z4a aQ a b c d e/\Zw/\ ∀(r:Bool),r=o4 aQ a b c d e->bif r then post (P.d (Zs n),[]) else n9 post else n9 post else n9 post else n9 post else n9 post else n9 post) else bif a7.kind o==(4:Int) then∃(aO:aj) (ca:Int) (x:aC),Z4b g o k aO x ca/\Zw/\ ∀(b:Bool),yu b aO ca x->bif b then∃(uD:aj) (Pn:Int) (l:List aC),l8 g::P.d (D.sl 3 (List.map bH (a7.elems o)))::Zu k=l8 uD::nr l::Zu Pn/\Zw/\List.length l<=Zx/\ ∀(b:Bool),b=uX (aj.s uD) Pn l->bif b then∃(aQ:a7) (a:Bool) (b:Bool) (c:Bool) (d:Bool) (e:Bool),Cf o::P.d Z3::P.d Z3::P.d Z3::P.d Z3::Z1o=Z4a aQ a b c d e/\Zw/\ ∀(r:Bool),r=o4 aQ a b c d e->bif r then Z8 post else n9 post else n9 post else n9 post else n9 post)=(aH [(139,Hx),(140,nt),(137,Pj),(138,tC),(141,HA),(143,Cn),(142,Au)] [] 106 [.d (aP g),.d (gM o),iD k] []) post:=by kernel_rfl
def qa5:bm:=fun ps R post=> ∃g k o,ps=[.d (aP g),.d (gM o),iD k]/\R=[]/\SmO o/\(pK g.s k o=none->post (iD (-1),[]))/\(∀n,pK g.s k o=some n->post (iD n,[]))
abbrev qa6 (g:aj) (k i:Int):S:=⟨90,[(1,.ref 0 0 0),(3,iD k),(4,iD i)],gbR g⟩
def AF (i:Int):List (Nat×P):=[(4,P.d (Zm i))]
theorem Po (g:aj) (k i:Int) (post:PX×S->Prop):(bif Jd i g then bif Hv i g then bif Hu g i then∃(aO:aj) (ca:Int) (o:a7),l8 g::Z3O g i::Zu k=l8 aO::Cf o::Zu ca/\Zw/\SmO o/\(pK (aj.s aO) ca o=none->post (PX.ret,S.mk 90 Z3P []))/\ ∀(n:Int),pK (aj.s aO) ca o=some n->bif K4 n then post (PX.ret,S.mk 90 Z3P []) else bif Z3x k n then bif Zj i then post (PX.normal,S.mk 90 ((1,bQ)::(3,P.d (D.int IntKind.i64 (k+n)))::AF i) (xM g)) else False else False else False else False else post (PX.exit 0,S.mk 90 [] []))=(aF [(106,qa5)] [] 72 11 (qa6 g k i)) post:=by kernel_rfl
def qa7:S->K (PX×S):=fun st post=> ∃g,st=qa6 g 0 0/\(MA g/\g.ops.length<=200)/\(jo g.s 0 g.ops=false->post (.ret,⟨90,[(2,iD 80)],[]⟩))/\(jo g.s 0 g.ops=true->post (.exit 0,⟨90,[],[]⟩))
def UR:List (Nat×P):=[(4,P.d Z7)]
def Z4e (g:aj):S:=S.mk 90 ((1,bQ)::(3,P.d Z7)::UR) (xM g)
theorem qeb (g:aj) (post:P×List (Nat×En)->Prop):(∃(s:ax),I7 g=nq s/\Zw/\ ∀(b:Bool),b=OW s->bif !b then Ck post else bif decide (aj.n g<(1:Int)) then Ck post else bif decide (aj.n g>Z1) then Ck post else∃(v:List Int),[lC g]=ZU v/\Zw/\zk v/\ ∀(b:Bool),b=ux v->bif !b then Ck post else∃(v:List Int) (r:Int),[lC g,P.d (fO g)]=Zk v::Zu r/\Zw/\zk v/\ ∀(n:Int),n=uW v r->bif Z3C g then bif n !=aj.n g-(1:Int) then Ck post else bif Z3U g then∃(s:ax),Z3V g s/\Zw/\ ∀(b:Bool),b=OW s->bif !b then Ck post else∃(a:ax) (b:ax),Z3W g a b/\Zw/\ ∀(r:Bool),r=qC a b->bif !r then Ck post else bif decide (rn g>(0:Int)) then Ck post else Z8 post else bif decide (rn g<(1:Int)) then Ck post else bif decide (rn g>(200:Int)) then Ck post else∃(aO:aj),Z4e g=Z4e aO/\Z3Z aO post else False)=(aH [(104,uY),(105,AA),(13,tD),(14,o6)] [(11,ae (aK 72 11) qa7)] 72 [.d (aP g)] []) post:=by kernel_rfl
end Pi
namespace Pi
open Go Go.Proofs
set_option maxRecDepth 100000
section
variable {X:XF}
theorem US:FD X 141 HA:=FD.mk (H:=[]) (hk:=[(2,ae (aK 141 2) Hy)]) (by kernel_rfl) .nil (.cons Lj .nil) (by
 intro ps R post hh
 obtain⟨g,l,rfl,rfl,hl,hp⟩:=hh
 (rw[<-UQ];delta zj Z3 Z4 Zx dV nk ia ib lC ob ic fO ie gb jz xM Z7 ZL bQ kG Hp)
 refine⟨g,l,rfl,hl,fun h=>hp _ ?_,fun h=>hp _ ?_⟩
 ·rw[oZ,h];rfl
 ·rw[oZ,h,List.length_map,Bool.true_and,decide_eq_decide];omega)
theorem Pp:FD X 143 Cn:=FD.mk (H:=[]) (hk:=[(2,ae (aK 143 2) Cm)]) (by kernel_rfl) .nil (.cons Hz .nil) (by
 intro ps R post hh
 obtain⟨g,k,l,rfl,rfl,hl,hp⟩:=hh
 (rw[<-Pm];delta tB Z3n Z3 Z4 Zx nk ia ib lC ob ic fO ie gb jz xM Z7 ZZ bQ dG Zs ZE nr mx)
 simp only[List.length_map]
 refine⟨g,k,l,rfl,hl,fun h=>hp _ ?_,fun h=>bb (fun h2=>hp _ ?_) fun h2=>hp _ ?_⟩
 ·rw[uX,h];rfl
 ·rw[uX,h,Bool.true_and,decide_eq_decide];omega
 ·rw[uX,h,Bool.true_and];exact(decide_eq_false (by omega)).symm)
theorem Pq {s:ax} {k n:Int} {o:a7} (h:pK s k o=some n):h9 o=true:=by
 unfold pK at h
 split at h
 ·cases h
 ·rename_i hb;simpa using hb
theorem qec:FD X 106 qa5:=FD.mk (H:=[(139,Hx),(140,nt),(137,Pj),(138,tC),(141,HA),(143,Cn),(142,Au)]) (by kernel_rfl)
  (.cons UP (.cons xN (.cons qa4 (.cons Pg (.cons US (.cons Pp (.cons UA .nil))))))) .nil (by
 intro ps R post hh
 obtain⟨g,k,o,rfl,rfl,hs,h1,h2⟩:=hh
 (rw[<-qea];delta ZM Z1o nr Zs Z0 Xq vB ic vC ie vE Z3v zb Aw zd Ax Ay Z3u Xr sr K7 xw Zx dV kG kQ Z7 Z8 Z3 yu Zu lD lE uZ ia ib fO gb l8 MC uA uB uC Z3s Z4b I0 n9 ZP Xs iz Sr ze zf zg zh zi vF Cf Z4a Z49 Z3q Zw Z3p Z3o)
 have ub:h9 o=false->pK g.s k o=none:=fun h=>by
  cases hh:pK g.s k o with
  |none=>rfl
  |some n=>rw[Pq hh] at h;cases h
 have u:h9 o=true->pK g.s k o=_:=fun h=>(pK.eq_1 g.s k o).trans (if_neg (by rw[h];simp))
 have kb:h9 o=o4 o (o.kind==0 ||o.kind==1) (o.kind==0) (o.kind==2) (o.kind==3) (o.kind==4):=rfl
 refine gK (fun e=> ?_) fun e0=>gK (fun e=> ?_) fun e1=>gK (fun e=> ?_) fun e2=>gK (fun e=> ?_) fun e3=>gK (fun e=> ?_) fun e4=>h1 ?_
 ·rw[e] at kb
  simp only[if_pos e] at u
  have no: ¬(o.node=(g.s.1,g.s.2,k)/\l6 g.s k o.parent=true/\eL o.name=true)->pK g.s k o=none:=fun h=>by
   cases hb:h9 o with
   |false=>exact ub hb
   |true=>rw[u hb,if_neg h]
  rw[C5 o.node (g.s.1,g.s.2,k)]
  refine aw (fun c1=>⟨g,k,o.parent,rfl,rfl,fun b2 cu=>aw (fun c2=>⟨o.name,rfl,rfl,fun b3 iL=>aw (fun c3=>⟨o,_,_,_,_,_,rfl,rfl,fun r hr=>aw (fun c4=>h2 _ ?_) fun c4=>h1 (ub ?_)⟩) fun c3=>h1 (no ?_)⟩) fun c2=>h1 (no ?_)⟩) fun c1=>h1 (no ?_)
  ·rw[u (by rw[kb,<-c4,hr];rfl),if_pos ⟨by simpa using c1,by rw[<-cu,c2],by rw[<-iL,c3]⟩]
  ·rw[kb,<-c4,hr];rfl
  ·exact fun h=>by rw[h.2.2] at iL;rw[iL] at c3;cases c3
  ·exact fun h=>by rw[h.2.1] at cu;rw[cu] at c2;cases c2
  ·exact fun h=>by rw[h.1] at c1;simp at c1
 ·rw[e] at kb
  simp only[if_neg e0,if_pos e] at u
  have no: ¬(dA g.s k o.node=true/\l6 g.s k o.parent=true/\eL o.name=true)->pK g.s k o=none:=fun h=>by
   cases hb:h9 o with
   |false=>exact ub hb
   |true=>rw[u hb,if_neg h]
  refine⟨g,k,o.node,rfl,rfl,fun b1 jk=>aw (fun c1=>⟨g,k,o.parent,rfl,rfl,fun b2 cu=>aw (fun c2=>⟨o.name,rfl,rfl,fun b3 iL=>aw (fun c3=>⟨o,_,_,_,_,_,rfl,rfl,fun r hr=>aw (fun c4=>h2 _ ?_) fun c4=>h1 (ub ?_)⟩) fun c3=>h1 (no ?_)⟩) fun c2=>h1 (no ?_)⟩) fun c1=>h1 (no ?_)⟩
  ·rw[u (by rw[kb,<-c4,hr];rfl),if_pos ⟨by rw[<-jk,c1],by rw[<-cu,c2],by rw[<-iL,c3]⟩]
  ·rw[kb,<-c4,hr];rfl
  ·exact fun h=>by rw[h.2.2] at iL;rw[iL] at c3;cases c3
  ·exact fun h=>by rw[h.2.1] at cu;rw[cu] at c2;cases c2
  ·exact fun h=>by rw[h.1] at jk;rw[jk] at c1;cases c1
 ·rw[e] at kb
  simp only[if_neg e0,if_neg e1,if_pos e] at u
  have no: ¬(dA g.s k o.node=true/\oZ g.s o.bT=true)->pK g.s k o=none:=fun h=>by
   cases hb:h9 o with
   |false=>exact ub hb
   |true=>rw[u hb,if_neg h]
  refine⟨g,k,o.node,rfl,rfl,fun b1 jk=>aw (fun c1=>⟨g,o.bT,rfl,rfl,hs.2.1,fun b2 cu=>aw (fun c2=>⟨o,_,_,_,_,_,rfl,rfl,fun r hr=>aw (fun c4=>h2 _ ?_) fun c4=>h1 (ub ?_)⟩) fun c2=>h1 (no ?_)⟩) fun c1=>h1 (no ?_)⟩
  ·rw[u (by rw[kb,<-c4,hr];rfl),if_pos ⟨by rw[<-jk,c1],by rw[<-cu,c2]⟩]
  ·rw[kb,<-c4,hr];rfl
  ·exact fun h=>by rw[h.2] at cu;rw[cu] at c2;cases c2
  ·exact fun h=>by rw[h.1] at jk;rw[jk] at c1;cases c1
 ·rw[e] at kb
  simp only[if_neg e0,if_neg e1,if_neg e2,if_pos e] at u
  have no: ¬(dA g.s k o.node=true/\l6 g.s k o.after=true/\o.elem=(g.s.1,g.s.2,k)/\o5 o.text=true)->pK g.s k o=none:=fun h=>by
   cases hb:h9 o with
   |false=>exact ub hb
   |true=>rw[u hb,if_neg h]
  refine⟨o.text,rfl,rfl,hs.1,fun hv=> ?_,fun hv n hn=> ?_⟩
  ·have hr:o5 o.text=false:=by rw[o5,hv];rfl
   have b9:pK g.s k o=none:=no (fun h=>by rw[h.2.2.2] at hr;cases hr)
   exact⟨g,k,o.node,rfl,rfl,fun b2 cu=>aw (fun c2=>⟨g,k,o.after,rfl,rfl,fun b3 iL=>aw (fun c3=>aw (fun c4=>h1 b9) fun c4=>h1 b9) fun c3=>h1 b9⟩) fun c2=>h1 b9⟩
  ·have hr:o5 o.text=decide (1<=n/\n<=2000):=by rw[o5,hv,Bool.true_and,hn]
   rw[C5 o.elem (g.s.1,g.s.2,k)]
   refine⟨g,k,o.node,rfl,rfl,fun b1 jk=>aw (fun c1=>⟨g,k,o.after,rfl,rfl,fun b2 cu=>aw (fun c2=>aw (fun c3=>bb (fun c5=>bb (fun c6=>⟨o,_,_,_,_,_,rfl,rfl,fun r hr=>aw (fun c4=>h2 _ ?_) fun c4=>h1 (ub ?_)⟩) fun c6=>h1 (no ?_)) fun c5=>h1 (no ?_)) fun c3=>h1 (no ?_)) fun c2=>h1 (no ?_)⟩) fun c1=>h1 (no ?_)⟩
   ·rename_i sN
    rw[u (by rw[kb,<-c4,hr];rfl),if_pos ⟨by rw[<-jk,c1],by rw[<-cu,c2],by simpa using c3,by rw[sN];exact decide_eq_true ⟨c5,c6⟩⟩,hn]
   ·rw[kb,<-c4,hr];rfl
   ·exact fun h=>by rw[hr] at h;exact c6 (of_decide_eq_true h.2.2.2).2
   ·exact fun h=>by rw[hr] at h;exact c5 (of_decide_eq_true h.2.2.2).1
   ·exact fun h=>by rw[h.2.2.1] at c3;simp at c3
   ·exact fun h=>by rw[h.2.1] at cu;rw[cu] at c2;cases c2
   ·exact fun h=>by rw[h.1] at jk;rw[jk] at c1;cases c1
 ·rw[e] at kb
  simp only[if_neg e0,if_neg e1,if_neg e2,if_neg e3,if_pos e] at u
  have no: ¬(dA g.s k o.node=true/\uX g.s k o.elems=true)->pK g.s k o=none:=fun h=>by
   cases hb:h9 o with
   |false=>exact ub hb
   |true=>rw[u hb,if_neg h]
  refine⟨g,k,o.node,rfl,rfl,fun b1 jk=>aw (fun c1=>⟨g,k,o.elems,rfl,rfl,hs.2.2,fun b2 cu=>aw (fun c2=>⟨o,_,_,_,_,_,rfl,rfl,fun r hr=>aw (fun c4=>h2 _ ?_) fun c4=>h1 (ub ?_)⟩) fun c2=>h1 (no ?_)⟩) fun c1=>h1 (no ?_)⟩
  ·rw[u (by rw[kb,<-c4,hr];rfl),if_pos ⟨by rw[<-jk,c1],by rw[<-cu,c2]⟩]
  ·rw[kb,<-c4,hr];rfl
  ·exact fun h=>by rw[h.2] at cu;rw[cu] at c2;cases c2
  ·exact fun h=>by rw[h.1] at jk;rw[jk] at c1;cases c1
 ·cases hb:h9 o with
  |false=>exact ub hb
  |true=>rw[u hb,if_neg e0,if_neg e1,if_neg e2,if_neg e3,if_neg e4])
theorem UT:LD X 72 11 (ae (aK 72 11) qa7):=LD.idx (H:=[(106,qa5)]) (hk:=[]) (by kernel_rfl) (by kernel_rfl) (.cons qec .nil) .nil
 (A:=aj) (B:=Int) (fun g k i=>qa6 g k i) (fun g=>g.ops.length) (fun g i k=>(MA g/\g.ops.length<=200)/\(0<=k/\k<=2000000*i)/\jo g.s 0 g.ops=jo g.s k (g.ops.drop i))
 (fun g x=>(jo g.s 0 g.ops=false/\x=(.ret,⟨90,[(2,iD 80)],[]⟩))\/(jo g.s 0 g.ops=true/\x=(.exit 0,⟨90,[],[]⟩)))
 (by
  rintro g k i post h0 bS bc ⟨hs,hk,he⟩ hn ho
  (rw[<-Po];delta nk ia ib lC ob ic fO ie gb jz xM Zm AF bQ Za Z9 Zj Z3x K4 Z3P Zw Sr vB vC vE zb Aw zd Ax Ay kQ ze zf zg zh zi uA uB uC vF Cf Zs Zu Zg gR UH UI UJ Pb Pc Pd Z3O l8 Hu rn Hv Jd)
  have e1:D.nth (g.ops.map gM) i.toNat=gM g.ops[i.toNat]:=ay _ _ _ bc
  rw[e1]
  simp only[List.length_map]
  have hd:g.ops.drop i.toNat=g.ops[i.toNat]::g.ops.drop (i.toNat+1):=List.drop_eq_getElem_cons bc
  have MB:=hs.1.1 _ (List.getElem_mem bc)
  have GL:=hs.2
  rw[hd] at he
  generalize g.ops[i.toNat]=o at he MB
  refine xJ bS (bp ⟨h0,bS⟩ (aq (Lg _) ⟨g,k,o,rfl,rfl,MB,fun h=> ?_,fun n h=> ?_⟩))
  ·refine ho _ (fun h=>by cases h) (.inl ⟨?_,rfl⟩)
   rw[he,jo,h]
  ·have:=Ph h MB.1
   refine bb (fun h=>by omega) fun _=>bp (by omega) (bp (by omega) (hn (k+n) ⟨hs,by omega,?_⟩))
   rw[he,jo,h])
 (by
  rintro g k i post hi ⟨hs,hk,he⟩ ho
  (rw[<-Po];delta nk ia ib lC ob ic fO ie gb jz xM Zm AF bQ Za Z9 Zj Z3x K4 Z3P Zw Sr vB vC vE zb Aw zd Ax Ay kQ ze zf zg zh zi uA uB uC vF Cf Zs Zu Zg gR UH UI UJ Pb Pc Pd Z3O l8 Hu rn Hv Jd)
  simp only[List.length_map]
  refine bb (fun h=>by omega) fun h=>ho _ (fun h=>by cases h) (.inr ⟨?_,rfl⟩)
  rw[he,List.drop_length]
  rfl)
 (by
  rintro s post ⟨g,rfl,hs,h1,h2⟩
  refine⟨g,0,rfl,⟨hs,by omega,rfl⟩,?_⟩
  rintro x (⟨h,rfl⟩| ⟨h,rfl⟩)
  ·exact h1 h
  ·exact h2 h)
theorem qa8:FD X 72 EH:=FD.mk (H:=[(104,uY),(105,AA),(13,tD),(14,o6)]) (hk:=[(11,ae (aK 72 11) qa7)]) (by kernel_rfl) (.cons O5 (.cons qa0 (.cons Hw (.cons xK .nil)))) (.cons UT .nil) (by
 intro ps R post hh
 obtain⟨g,rfl,rfl,hs,hp⟩:=hh
 (rw[<-qeb];delta Z7 Z8 Ck Ss Z3Z nk ia ib lC ob ic fO ie gb jz xM UR bQ Z4e rn mr nq ED Le I7 Z3W Z3V Z3U Za Z9 Z3C Zs Zu Zk zk ZU Z1 Zw)
 have b9:cQ g=false->post (.d (.int .i64 80),[]):=fun h=>hp _ (by rw[h];rfl)
 have ml:cQ g=true->post (.d (.int .i64 0),[]):=fun h=>hp _ (by rw[h];rfl)
 have u:=cQ.eq_1 g
 have no1:Xw g=false->cQ g=false:=fun h=>by rw[u,h];rfl
 have v:=Xw.eq_1 g
 rw[Ch g.bN (0,0)]
 simp only[List.length_map]
 refine⟨g.s,rfl,rfl,fun b hb=>aw (fun c1=>b9 (no1 ?_)) fun c1=>bb (fun c2=>b9 (no1 ?_)) fun c2=>bb (fun c3=>b9 (no1 ?_)) fun c3=>⟨g.deps,rfl,rfl,hs.2.2,fun b2 cu=>aw (fun c4=>b9 (no1 ?_)) fun c4=>⟨g.deps,g.s.2,rfl,rfl,hs.2.2,fun n hn=>bp (by omega) (xr (fun c5=>b9 (no1 ?_)) fun c5=> ?_)⟩⟩⟩
 ·rw[v,<-hb,show b=false by simpa using c1];rfl
 ·rw[v,decide_eq_false (by omega)];simp
 ·rw[v,decide_eq_false (by omega)];simp
 ·rw[v,<-cu,show b2=false by simpa using c4];simp
 ·rw[v,<-hn,show(n==g.n-1)=false by simpa using c5];simp
 rw[v,<-hb,show b=true by simpa using c1,<-cu,show b2=true by simpa using c4,<-hn,show(n==g.n-1)=true by simpa using c5,decide_eq_true (by omega),Bool.true_and,Bool.true_and,Bool.true_and,Bool.true_and] at u
 refine aw (fun c2=>⟨g.bN,rfl,rfl,fun b2 cu=>aw (fun c3=>b9 ?_) fun c3=>⟨g.bN,g.s,rfl,rfl,fun c hc=>aw (fun c4=>b9 ?_) fun c4=>bb (fun c5=>b9 ?_) fun c5=>ml ?_⟩⟩) fun c2=>bb (fun c3=>b9 ?_) fun c3=>bb (fun c4=>b9 ?_) fun c4=>⟨g,rfl,⟨hs,by omega⟩,fun h=>b9 ?_,fun h=>ml ?_⟩
 ·rw[if_pos (by simpa using c2),<-cu,show b2=false by simpa using c3] at u
  rw[u];rfl
 ·rw[if_pos (by simpa using c2),<-hc,show c=false by simpa using c4] at u
  rw[u];simp
 ·rw[if_pos (by simpa using c2)] at u
  rw[u,show(g.ops.length==0)=false by rw[beq_eq_false_iff_ne];omega];simp
 ·rw[if_pos (by simpa using c2),<-cu,show b2=true by simpa using c3,<-hc,show c=true by simpa using c4,show(g.ops.length==0)=true by rw[beq_iff_eq];omega] at u
  rw[u];rfl
 ·rw[if_neg (by simpa using c2),decide_eq_false (by omega)] at u
  rw[u];rfl
 ·rw[if_neg (by simpa using c2),decide_eq_false (by omega)] at u
  rw[u];rfl
 ·rw[if_neg (by simpa using c2),h] at u
  rw[u];simp
 ·rw[if_neg (by simpa using c2),h,decide_eq_true (by omega)] at u
  rw[u];rfl)
end
end Pi
namespace Pi
open Go Go.Proofs
abbrev Hd:=ax×ax
theorem qE:Hj (fun a b:ax=>qC a b) where
 Mx x:=by simp[tq]
 tr x y z:=by simp only[tq,decide_eq_true_eq];omega
 sM x y:=by
  simp only[tq,decide_eq_false_iff_not]
  intro h1 h2
  obtain⟨a,b⟩:=x
  obtain⟨c,d⟩:=y
  simp only at h1 h2
  have:a=c:=by omega
  have:b=d:=by omega
  subst_vars
  rfl
def FF (o:List Hd) (h:Hd):List Hd:=if(o.any fun x=>x.1==h.1)=true then o else o++[h]
def rp (l:List Hd):List Hd:=l.foldl FF []
theorem Lk {o:List Hd} (h:Hd) (ho:(o.map (·.1)).Nodup):((FF o h).map (·.1)).Nodup:=by
 unfold FF
 split
 ·exact ho
 ·rename_i hn
  rw[List.map_append,List.nodup_append]
  refine⟨ho,by simp,fun a ha b hb e=> ?_⟩
  simp at hb
  subst hb
  subst e
  obtain⟨x,hx,he⟩:=List.mem_map.1 ha
  exact hn (List.any_eq_true.2 ⟨x,hx,by simpa using he⟩)
theorem AG: ∀(l o:List Hd),(o.map (·.1)).Nodup->((l.foldl FF o).map (·.1)).Nodup
 | [],_,h=>h
 |x::r,_,h=>AG r _ (Lk x h)
theorem Ll (l:List Hd):((rp l).map (·.1)).Nodup:=AG l [] (by simp)
theorem UU (o:List Hd) (h:Hd):(FF o h).length<=o.length+1:=by
 unfold FF
 split
 ·omega
 ·simp
theorem Je: ∀(l o:List Hd),(l.foldl FF o).length<=o.length+l.length
 | [],_=>by simp
 |x::r,o=>by
  have:=Je r (FF o x)
  have:=UU o x
  simp only[List.foldl_cons,List.length_cons]
  omega
theorem pM (l:List Hd):(rp l).length<=l.length:=by simpa [rp] using Je l []
theorem Jf: ∀(l o:List Hd),((o++l).map (·.1)).Nodup->l.foldl FF o=o++l
 | [],o,_=>by simp
 |x::r,o,h=>by
  have e:FF o x=o++[x]:=by
   unfold FF
   rw[if_neg]
   intro hx
   obtain⟨y,hy,he⟩:=List.any_eq_true.1 hx
   rw[List.map_append,List.nodup_append] at h
   exact h.2.2 y.1 (List.mem_map_of_mem hy) x.1 (by simp) (by simpa using he)
  rw[List.foldl_cons,e,Jf r (o++[x]) (by simpa using h)]
  simp
theorem UW {l:List Hd} (h:(l.map (·.1)).Nodup):rp l=l:=by
 unfold rp
 rw[Jf l [] (by simpa using h)]
 rfl
def ltH (a b:Hd):Bool:=qC a.1 b.1
def u4 (l:List Hd):List Hd:=cN ltH (rp l)
theorem sw {α β:Type} {f:α->β}: ∀{l:List α},(l.map f).Nodup-> ∀x∈l,∀y∈l,f x=f y->x=y
 | [],_,x,hx,_,_,_=>by cases hx
 |a::r,h,x,hx,y,hy,e=>by
  rw[List.map_cons,List.nodup_cons] at h
  rcases List.mem_cons.1 hx with Bj |Bj
  ·rcases List.mem_cons.1 hy with uQ |uQ
   ·rw[Bj,uQ]
   ·exact absurd (List.mem_map.2 ⟨y,uQ,by rw[<-e,Bj]⟩) h.1
  ·rcases List.mem_cons.1 hy with uQ |uQ
   ·exact absurd (List.mem_map.2 ⟨x,Bj,by rw[e,uQ]⟩) h.1
   ·exact sw h.2 x Bj y uQ e
theorem Jg {l a:List Hd} (hp:a.Perm (rp l)) (ha:a.Pairwise fun x y=>ltH y x=false):a=u4 l:=
 xE qE (fun a:Hd=>a.1) (fun x hx y hy e=>sw (Ll l) x (hp.mem_iff.1 hx) y (hp.mem_iff.1 hy) e) (hp.trans (cW _).symm) ha (pJ qE (fun a:Hd=>a.1) _)
theorem EJ (l:List Hd):(u4 l).length<=l.length:=by
 unfold u4
 rw[(cW _).length_eq]
 exact pM l
def Pr (on:List Hd) (h:Hd):List Hd:=if(on.any fun x=>x.2==h.1)=true then on else on++[h]
def Jh (l on:List Hd):List Hd:=l.foldl Pr on
def UX (l:List Hd):List ax:=((Jh (u4 l).reverse []).map (·.1)).reverse
theorem UY (o:List Hd) (h:Hd):(Pr o h).length<=o.length+1:=by
 unfold Pr
 split
 ·omega
 ·simp
theorem sx: ∀(l o:List Hd),(Jh l o).length<=o.length+l.length
 | [],_=>by simp[Jh]
 |x::r,o=>by
  have:=sx r (Pr o x)
  have:=UY o x
  simp only[Jh,List.foldl_cons,List.length_cons] at*
  omega
theorem UZ (l:List Hd):(UX l).length<=l.length:=by
 unfold UX
 have h1:=sx (u4 l).reverse []
 have h2:=EJ l
 simp at h1⊢
 omega
def lF (o:List aj) (g:aj):List aj:=if cQ g=true/\(o.any fun x=>x.s==g.s)=false then o++[g] else o
def az (l:List aj):List aj:=l.foldl lF []
def eV (g:aj):Hd:=(g.s,g.bN)
def nu (l:List aj):List Hd:=(az l).map eV
theorem Ps (o:List aj) (g:aj):(lF o g).length<=o.length+1:=by
 unfold lF
 split
 ·simp
 ·omega
theorem EK: ∀(l o:List aj),(l.foldl lF o).length<=o.length+l.length
 | [],_=>by simp
 |x::r,o=>by
  have:=EK r (lF o x)
  have:=Ps o x
  simp only[List.foldl_cons,List.length_cons]
  omega
theorem cv (l:List aj):(az l).length<=l.length:=by simpa [az] using EK l []
theorem EL (l:List aj) (g:aj):az (l++[g])=lF (az l) g:=by simp[az]
theorem Pt {P:aj->Prop} (hP: ∀g,cQ g=true->P g): ∀(l o:List aj),(∀g∈o,P g)-> ∀g∈l.foldl lF o,P g
 | [],_,h=>h
 |x::r,o,h=>by
  refine Pt hP r _ ?_
  intro g hg
  unfold lF at hg
  split at hg
  ·rename_i hx
   rcases List.mem_append.1 hg with hg |hg
   ·exact h g hg
   ·simp at hg
    subst hg
    exact hP _ hx.1
  ·exact h g hg
theorem rq {l:List aj}: ∀g∈az l,cQ g=true:=Pt (P:=fun g=>cQ g=true) (fun _ h=>h) l [] (fun _ h=>by cases h)
theorem xO: ∀(l o:List aj),(o.map (·.s)).Nodup->((l.foldl lF o).map (·.s)).Nodup
 | [],_,h=>h
 |x::r,o,h=>by
  refine xO r _ ?_
  unfold lF
  split
  ·rename_i hx
   rw[List.map_append,List.nodup_append]
   refine⟨h,by simp,fun a ha b hb e=> ?_⟩
   simp at hb
   subst hb
   subst e
   obtain⟨y,hy,he⟩:=List.mem_map.1 ha
   have:=hx.2
   rw[List.any_eq_false] at this
   exact this y hy (by simpa using he)
  ·exact h
theorem gN (l:List aj):((az l).map (·.s)).Nodup:=xO l [] (by simp)
theorem Co (l:List aj):((nu l).map (·.1)).Nodup:=by
 have e:(nu l).map (·.1)=(az l).map (·.s):=by simp[nu,eV,Function.comp_def]
 rw[e]
 exact gN l
def Sv (r:Int) (m:Int) (g:aj):Int:=if g.s.2=r then max m g.n else m
def EM (l:List aj) (r:Int):Int:=l.foldl (Sv r) 0
def rr (l:List aj):List Int:=ti 16 fun i=>EM l ((i:Int)+1)
def iA (l:List aj):List Int:=bX (rr l)
theorem EN (l:List aj) (g:aj) (r:Int):EM (l++[g]) r=if g.s.2=r then max (EM l r) g.n else EM l r:=by simp[EM,Sv]
theorem kH (l:List aj):(rr l).length=16:=by simp[rr]
theorem o7 (l:List aj) (i:Nat):(rr l).getD i 0=if i<16 then EM l ((i:Int)+1) else 0:=by
 unfold rr
 rw[xp]
theorem Pu {l:List aj} {g:aj} (h1:1<=g.s.2) (h2:g.s.2<=16):(rr l).set (g.s.2-1).toNat (max ((rr l).getD (g.s.2-1).toNat 0) g.n)=rr (l++[g]):=by
 refine ext_get (by simp[kH]) fun i=> ?_
 rw[o7,o7,if_pos (by omega)]
 have e0:(((g.s.2-1).toNat:Nat):Int)+1=g.s.2:=by omega
 rw[e0]
 by_cases hi:i<16
 ·rw[if_pos hi,EN]
  by_cases he:(g.s.2-1).toNat=i
  ·subst he
   rw[e0,if_pos rfl,List.getD_eq_getElem?_getD,List.getElem?_set_self (by rw[kH];exact hi),Option.getD_some]
  ·rw[if_neg (by omega)]
   simp only[List.getD_eq_getElem?_getD,List.getElem?_set_ne he]
   have:=o7 l i
   rw[if_pos hi] at this
   simpa [List.getD_eq_getElem?_getD] using this
 ·rw[if_neg hi,sq (by simp[kH];omega)]
theorem Pv:rr []=List.replicate 16 0:=by rfl
theorem pN (l:List aj) (r:Int) (h1:1<=r) (h2:r<=16):uW (iA l) r=EM l r:=by
 rw[T2 _ h1,iA,rh,o7,if_pos (by omega)]
 congr 1
 omega
theorem o8 (l:List aj):(iA l).length<=16:=by
 have:=rf (rr l) (rr l).length
 rw[iA,xo]
 rw[kH] at this⊢
 exact this
theorem Lm {l:List aj} {g:aj} (h1:1<=g.s.2) (h2:g.s.2<=16):bX (oT (iA l) g.s.2 (max g.n (uW (iA l) g.s.2)))=iA (l++[g]):=by
 rw[pN l _ h1 h2]
 show bX _=bX _
 refine KZ fun i=> ?_
 unfold oT
 rw[xp,o7,EN]
 have hl:=o8 l
 by_cases hi:i<max (iA l).length g.s.2.toNat
 ·rw[if_pos hi]
  have qed:i<16:=by omega
  rw[if_pos qed]
  by_cases he:(i:Int)+1=g.s.2
  ·rw[if_pos he,if_pos he.symm,he,Int.max_comm]
  ·rw[if_neg he,if_neg (fun e=>he e.symm),pN l _ (by omega) (by omega)]
 ·rw[if_neg hi]
  split
  ·rename_i qed
   rw[if_neg (by omega)]
   have h3:=pN l ((i:Int)+1) (by omega) (by omega)
   rw[IV,sq (by omega)] at h3
   exact h3
  ·rfl
theorem HB {r B:Int}: ∀(l:List aj) (m:Int),m<=B->(∀g∈l,g.n<=B)->l.foldl (Sv r) m<=B
 | [],_,h,_=>h
 |g::t,m,h,hl=>by
  refine HB t _ ?_ fun x hx=>hl x (.tail _ hx)
  have:=hl g (.head _)
  unfold Sv
  split
  ·omega
  ·exact h
theorem Pw {r:Int}: ∀(l:List aj) (m:Int),m<=l.foldl (Sv r) m/\ ∀g∈l,g.s.2=r->g.n<=l.foldl (Sv r) m
 | [],m=>⟨Int.le_refl _,fun _ h=>by cases h⟩
 |g::t,m=>by
  obtain⟨h1,h2⟩:=Pw (r:=r) t (Sv r m g)
  have h3:m<=Sv r m g/\(g.s.2=r->g.n<=Sv r m g):=by
   unfold Sv
   split
   ·exact⟨by omega,fun _=>by omega⟩
   ·rename_i h
    exact⟨Int.le_refl _,fun e=>absurd e h⟩
  refine⟨Int.le_trans h3.1 h1,fun x hx hr=> ?_⟩
  rcases List.mem_cons.1 hx with rfl |hx
  ·exact Int.le_trans (h3.2 hr) h1
  ·exact h2 x hx hr
theorem xP (l:List aj) (r:Int):0<=EM l r:=(Pw (r:=r) l 0).1
def zl (l:List aj):Int:=l.foldl (fun t g=>max t g.s.1) 0
theorem Px (l:List aj) (g:aj):zl (l++[g])=max (zl l) g.s.1:=by simp[zl]
theorem Py {B:Int} (hB:0<=B): ∀(l:List aj),(∀g∈l,g.s.1<=B)->zl l<=B:=by
 intro l h
 have key: ∀(l:List aj) (m:Int),m<=B->(∀g∈l,g.s.1<=B)->l.foldl (fun t g=>max t g.s.1) m<=B:=by
  intro l
  induction l with
  |nil=>intro m h _;exact h
  |cons g t ih=>
   intro m h hl
   refine ih _ ?_ fun x hx=>hl x (.tail _ hx)
   have:=hl g (.head _)
   show max m g.s.1<=B
   omega
 exact key l 0 hB h
theorem Pz (l:List aj):0<=zl l/\ ∀g∈l,g.s.1<=zl l:=by
 have key: ∀(l:List aj) (m:Int),m<=l.foldl (fun t g=>max t g.s.1) m/\ ∀g∈l,g.s.1<=l.foldl (fun t g=>max t g.s.1) m:=by
  intro l
  induction l with
  |nil=>intro m;exact⟨Int.le_refl _,fun _ h=>by cases h⟩
  |cons g t ih=>
   intro m
   obtain⟨h1,h2⟩:=ih (max m g.s.1)
   refine⟨by simp only[List.foldl_cons];omega,fun x hx=> ?_⟩
   simp only[List.foldl_cons]
   rcases List.mem_cons.1 hx with rfl |hx
   ·omega
   ·exact h2 x hx
 exact key l 0
def noG:aj:=⟨(0,0),0,[],(0,0),[]⟩
def EO (l:List aj) (r:Int):aj:=⟨(zl l+1,r),EM l r+1,iA l,(0,0),[]⟩
def qF (l:List aj) (r:Int):Int:=if ¬(1<=r/\r<=16) then 1 else if max (zl l+1) (EM l r+1)>1099511627776 then 2 else 0
def kI (l:List aj) (r:Int):aj:=if qF l r=0 then EO l r else noG
def gtG (a b:aj):Bool:=qC b.s a.s
def xQ (l:List aj) (r:Int):List aj:=cN gtG (l.filter fun g=>g.s.2==r)
theorem tE (l:List aj) (r:Int):(xQ l r).Perm (l.filter fun g=>g.s.2==r):=cW _
theorem HE:Hj (fun a b:ax=>qC b a) where
 Mx x:=qE.Mx x
 tr x y z h1 h2:=qE.tr z y x h2 h1
 sM x y h1 h2:=(qE.sM y x h1 h2).symm
theorem Ji {l a:List aj} {r:Int} (hn:(l.map (·.s)).Nodup) (hp:a.Perm (l.filter fun g=>g.s.2==r)) (ha:a.Pairwise fun x y=>gtG y x=false):a=xQ l r:=
 xE HE (fun g:aj=>g.s) (fun x hx y hy e=>sw hn x ((List.mem_filter.1 (hp.mem_iff.1 hx)).1) y ((List.mem_filter.1 (hp.mem_iff.1 hy)).1) e) (hp.trans (tE l r).symm) ha (pJ HE (fun g:aj=>g.s) _)
def bZ (on:List ax):List aj->Option ax
 | []=>none
 |g::t=>if g.bN=(0,0)/\g.s∈on then some g.s else bZ on t
def nL (l:List Hd):Nat->ax->Bool->Int×ax×Bool
 |0,_,_=>(11,(0,0),false)
 |n+1,x,even=>match(l.find? fun h=>h.1==x).map (·.2) with
  |none=>(111,(0,0),false)
  |some u=>if u=(0,0) then(0,x,even) else nL l n u (!even)
def fP (l:List Hd) (x:ax):Int×ax×Bool:=nL l (l.length+1) x true
def tF (l:List Hd) (x:ax):Bool:=(fP l x).1==0&& !(fP l x).2.2
def bn (l:List Hd) (on:List ax):List aj->Option ax
 | []=>none
 |g::t=>if g.bN=(0,0) then none else if tF l g.s=true/\g.s∈on then some g.s else bn l on t
def qee (o:Option ax):ax×Int:=match o with |some s=>(s,0)|none=>((0,0),200)
def Jj (l:List aj):List ax:=UX ((az l).map eV)
def qG (l:List aj) (r:Int):ax×Int:=qee (bZ (Jj l) (xQ (az l) r))
def o9 (l:List aj) (r:Int):ax×Int:=qee (bn (nu l) (Jj l) (xQ (az l) r))
theorem Ln {l m:List Hd} (hn:(l.map (·.1)).Nodup) (hp:m.Perm l) (x:ax):m.find? (fun h=>h.1==x)=l.find? (fun h=>h.1==x):=by
 have hm:(m.map (·.1)).Nodup:=(hp.map (·.1)).nodup_iff.2 hn
 cases h:l.find? (fun h=>h.1==x) with
 |none=>
  rw[List.find?_eq_none] at h⊢
  exact fun y hy=>h y (hp.mem_iff.1 hy)
 |some a=>
  have ha:=List.mem_of_find?_eq_some h
  have hax:=List.find?_some h
  cases h2:m.find? (fun h=>h.1==x) with
  |none=>
   rw[List.find?_eq_none] at h2
   exact absurd hax (h2 a (hp.mem_iff.2 ha))
  |some b=>
   have hb:=List.mem_of_find?_eq_some h2
   have hbx:=List.find?_some h2
   have:b=a:=sw hn b (hp.mem_iff.1 hb) a ha (by simp at hax hbx;rw[hax,hbx])
   rw[this]
end Pi
namespace Pi
open Go Go.Proofs
set_option maxRecDepth 100000
noncomputable def eP (H HN:List (FuncId×bm)) (hk:List (Nat×(S->K (PX×S)))) (f id:Nat) (s:S):K (PX×S):=
 vV (de PR (runK PR xl pI H 60 60) HN (aK f) hk (pI f) (bt PR f id)) (aK f id) s
noncomputable def rv (H HN:List (FuncId×bm)) (hk:List (Nat×(S->K (PX×S)))) (f:Nat) (ps:List P) (R:List (Nat×En)):K (P×List (Nat×En)):=
 Ai PR (runK PR xl pI H 60 60) HN xl hk pI f ps R
def ND (w0:World) (f:Nat) (h:bm):Prop:=Ov PR w0 f h
def LN (w0:World) (f id:Nat) (g:S->K (PX×S)):Prop:= ∀(val:Nat->Value) (lo:Nat) (mk:Bool) s post,g s post->TW PR ⟨val,w0,lo,mk⟩ (.loop (bt PR f id)) s post
def LNT (w0:World) (f id:Nat) (g:S->K (PX×S)):Prop:= ∀(val:Nat->Value) (lo:Nat) s post,g s post->TW PR ⟨val,w0,lo,true⟩ (.loop (bt PR f id)) s post
def FN (w0:World) (f id:Nat) (g:S->K (PX×S)):Prop:= ∀(val:Nat->Value) (lo:Nat) s post,g s post->TW PR ⟨val,w0,lo,true⟩ (lZ PR f id).code s post
theorem LN.T {w0:World} {f id:Nat} {g:S->K (PX×S)} (h:LN w0 f id g):LNT w0 f id g:=fun val lo s post hp=>h val lo true s post hp
inductive Jk (w0:World):List (FuncId×bm)->Prop
 |nil:Jk w0 []
 |cons {f:Nat} {h:bm} {r:List (FuncId×bm)} (hf:ND w0 f h) (hr:Jk w0 r):Jk w0 ((f,h)::r)
theorem Jk.get {w0:World} {HN:List (FuncId×bm)} (h:Jk w0 HN): ∀f g,lk HN f=some g->Ov PR w0 f g:=by
 induction h with
 |nil=>intro f g h;cases h
 | @cons f' h' r hf hr ih=>
  intro f g h
  unfold lk at h
  split at h
  ·rename_i he
   cases h
   rw[<-Nat.eq_of_beq_eq_true he]
   exact hf
  ·exact ih f g h
inductive U0 (w0:World) (f:Nat):List (Nat×(S->K (PX×S)))->Prop
 |nil:U0 w0 f []
 |cons {id:Nat} {g:S->K (PX×S)} {r:List (Nat×(S->K (PX×S)))} (h:LN w0 f id g) (hr:U0 w0 f r):U0 w0 f ((id,g)::r)
theorem U0.get {w0:World} {f:Nat} {hk:List (Nat×(S->K (PX×S)))} (h:U0 w0 f hk): ∀id g,lk hk id=some g->LN w0 f id g:=by
 induction h with
 |nil=>intro f g h;cases h
 | @cons f' h' r hf hr ih=>
  intro f g h
  unfold lk at h
  split at h
  ·rename_i he
   cases h
   rw[<-Nat.eq_of_beq_eq_true he]
   exact hf
  ·exact ih f g h
inductive Sw (w0:World) (f:Nat):List (Nat×(S->K (PX×S)))->Prop
 |nil:Sw w0 f []
 |loop {id:Nat} {g:S->K (PX×S)} {r:List (Nat×(S->K (PX×S)))} (hid:id<500000) (h:LNT w0 f id g) (hr:Sw w0 f r):Sw w0 f ((id,g)::r)
 |range {id:Nat} {g:S->K (PX×S)} {r:List (Nat×(S->K (PX×S)))} (h:FN w0 f id g) (hr:Sw w0 f r):Sw w0 f ((500000+id,g)::r)
theorem Sw.loops {w0:World} {f:Nat} {hk:List (Nat×(S->K (PX×S)))} (h:Sw w0 f hk): ∀id g,id<500000->lk hk id=some g->LNT w0 f id g:=by
 induction h with
 |nil=>intro id g _ h;cases h
 | @loop ou g' r qgk h hr ih=>
  intro id g hid hg
  unfold lk at hg
  split at hg
  ·rename_i he
   cases hg
   rw[<-Nat.eq_of_beq_eq_true he]
   exact h
  ·exact ih id g hid hg
 | @range ou g' r h hr ih=>
  intro id g hid hg
  unfold lk at hg
  split at hg
  ·rename_i he
   have:=Nat.eq_of_beq_eq_true he
   omega
  ·exact ih id g hid hg
theorem Sw.ranges {w0:World} {f:Nat} {hk:List (Nat×(S->K (PX×S)))} (h:Sw w0 f hk): ∀id g,lk hk (500000+id)=some g->FN w0 f id g:=by
 induction h with
 |nil=>intro id g h;cases h
 | @loop ou g' r qgk h hr ih=>
  intro id g hg
  unfold lk at hg
  split at hg
  ·rename_i he
   have:=Nat.eq_of_beq_eq_true he
   omega
  ·exact ih id g hg
 | @range ou g' r h hr ih=>
  intro id g hg
  unfold lk at hg
  split at hg
  ·rename_i he
   cases hg
   have:=Nat.eq_of_beq_eq_true he
   have e:ou=id:=by omega
   rw[<-e]
   exact h
  ·exact ih id g hg
theorem xR {X:XF} {H:List (FuncId×bm)} (hH:HD X H):yZ (runK PR xl pI H 60 60) (eZ PR (GV X)):=by
 have:=vu (lf:=60) (jP KY) hH 60
 rw[BT PR aK xsT X.cf (fun _ _ _=>none) pI H 60 60] at this
 exact this
theorem ND.mk {X:XF} {w0:World} (hX:db PR w0 X.cf) {H HN:List (FuncId×bm)} {hk:List (Nat×(S->K (PX×S)))} {f:Nat} {h:bm} (hdr:PR.follows .mixedOrders=true) (hu:uniq PR f=true) (huR:Ag PR f=true) (hH:HD X H) (nJ:Jk w0 HN) (hl:Sw w0 f hk)
  (hb: ∀ps R post,h ps R post->rv H HN hk f ps R post):ND w0 f h:=
 Ov.mk (kp:=GV X) nJ.get (xR hH) hX hdr KY hu huR hl.loops hl.ranges (fun ps R post hp=>hb ps R post hp)
theorem LN.par {X:XF} {w0:World} (hX:db PR w0 X.cf) {H HN:List (FuncId×bm)} {hk:List (Nat×(S->K (PX×S)))} {f id:Nat} {g:S->K (PX×S)} (hdr:PR.follows .mixedOrders=true) (hu:uniq PR f=true) (hc:bW (pI f) (bt PR f id)=true) (hnr:(bP (bt PR f id)).isEmpty=true) (hH:HD X H) (nJ:Jk w0 HN) (hl:U0 w0 f hk)
  {A B:Type} (hd:A->B->S) (Inv:A->B->Prop) (mu:A->B->Nat) (Out:A->PX×S->Prop)
  (hr: ∀a b,Inv a b->eP H HN hk f id (hd a b) (roundPost (mu a b) (fun m s=> ∃b',s=hd a b'/\Inv a b'/\m=mu a b') (Out a)))
  (hg: ∀s post,g s post-> ∃a b,s=hd a b/\Inv a b/\ ∀x,Out a x->post x):LN w0 f id (ae (aK f id) g):=by
 intro val lo mk s post hp
 unfold ae at hp
 cases hh:cq (aK f id) s with
 |none=>simp only[hh] at hp
 |some s0=>
  simp only[hh] at hp
  obtain⟨a,b,rfl,h1,h2⟩:=hg s0 post hp
  refine TW.mono (TW.loop (keep:=aK f id) (I:=fun m s=> ∃b',s=hd a b'/\Inv a b'/\m=mu a b') (O:=Out a) (fun n s hs=> ?_) hh ⟨b,rfl,h1,rfl⟩) h2
  obtain⟨b',rfl,h3,rfl⟩:=hs
  have:=hr a b' h3
  unfold eP at this
  refine TW.mono (dQ (kp:=GV X) (T:=⟨val,w0,lo,mk⟩) nJ.get (xR hH) hX hdr (kp1:=aK f) (bt PR f id) hc (fun d hd h hh s post hp=>by
   have:=hl.get _ _ hh val lo mk s post hp
   rwa [s8 hu hd] at this) (fun x hx=>by rw[List.isEmpty_iff.1 hnr] at hx;cases hx) _ _ this) ?_
  rintro⟨e,s1⟩ hx
  cases e with
  |normal=>
   obtain⟨s2,h4,m,h5,h6⟩:=KW.dH (p:=fun s2=>cq (aK f id) s1=some s2) (fun _ h=>h) _ hx
   exact⟨s2,h4,m,h5,h6⟩
  |exit i=>
   obtain⟨s2,h4,h5⟩:=KW.dH (p:=fun s2=>dt (aK f id) s1=some s2) (fun _ h=>h) _ hx
   exact⟨s2,h4,h5⟩
  |ret=>
   obtain⟨s2,h4,h5⟩:=KW.dH (p:=fun s2=>dt (aK f id) s1=some s2) (fun _ h=>h) _ hx
   exact⟨s2,h4,h5⟩
def PA (g:FuncId) (cf:D->D->Int) (ty:TypeId):bm:=fun ps R post=> ∃es,ps=[.sl 0 0 es.length,.fn g []]/\R=[(0,⟨0,some 0,.arr ty false es⟩)]/\sk PR xl g es cf/\
 ∀fh:List D,fh.Perm es->fh.Pairwise (fun a b=> ¬cf b a<0)->post (.da [],[(0,⟨0,some 0,.arr ty false fh⟩)])
theorem Cp {g:FuncId} {cf:D->D->Int} {ty:TypeId} {ps:List P} {R:List (Nat×En)} {post:P×List (Nat×En)->Prop} (h:PA g cf ty ps R post):Xa PR xl ty ps R post:=by
 obtain⟨es,rfl,rfl,hc,hp⟩:=h
 exact⟨0,g,⟨0,some 0,.arr ty false es⟩,es,cf,rfl,rfl,rfl,hc,fun fh h1 h2=>hp fh h1 h2⟩
def PB {α β:Type} (g:FuncId) (ty:TypeId) (enc:α->D) (key:α->β) (lt:β->β->Bool):bm:=fun ps R post=> ∃l:List α,ps=[.sl 0 0 l.length,.fn g []]/\R=[(0,⟨0,some 0,.arr ty false (l.map enc)⟩)]/\l.length<=1000000/\
 ∀l':List α,l'.Perm l->l'.Pairwise (fun a b=>lt (key b) (key a)=false)->post (.da [],[(0,⟨0,some 0,.arr ty false (l'.map enc)⟩)])
theorem PC {α β:Type} (f:α->β) (g:β->α) (hg: ∀x,g (f x)=x) {l:List α} {l':List β} (h:l'.Perm (l.map f)): ∃l2:List α,l'=l2.map f/\l2.Perm l:=by
 refine⟨l'.map g,?_,?_⟩
 ·rw[List.map_map]
  refine(List.map_id l').symm.trans (List.map_congr_left fun b hb=> ?_)
  obtain⟨a,_,rfl⟩:=List.mem_map.1 (h.mem_iff.1 hb)
  simp[hg]
 ·have:=h.map g
  rw[List.map_map] at this
  rwa [show(g∘f)=id from funext hg,List.map_id] at this
theorem U1 {X:XF} {f g:FuncId} {ty:TypeId} {α β:Type} {enc:α->D} {dec:D->α} {key:α->β} {lt:β->β->Bool} {c:α->α->Int} (ho: ∀cf,FD X f (PA g cf ty)) (Km: ∀x,dec (enc x)=x) (hL:Hj lt)
  (hc: ∀x y,c x y<0↔lt (key x) (key y)=true) (vi: ∀x,∃cs,enc x= .agg cs) (hfc: ∀x y,xd PR xl g (enc x) (enc y) (c x y)) (eJ: ∃fn,PR.funcs[g]?=some fn/\fn.body.isSome=true/\(fn.name== "runtime.NumGoroutine")=false):
  FD X f (PB g ty enc key lt):=by
 intro ps R post hh
 obtain⟨l,rfl,rfl,hl,hp⟩:=hh
 have bk: ∀x y,c (dec (enc x)) (dec (enc y))<0↔lt (key x) (key y)=true:=fun x y=>by rw[Km,Km];exact hc x y
 refine ho (fun a b=>c (dec a) (dec b)) _ _ post ⟨l.map enc,by rw[List.length_map],rfl,?_,fun fh h1 h2=> ?_⟩
 ·exact {
   fn:=eJ
   ag:=fun d hd=>by obtain⟨x,_,rfl⟩:=List.mem_map.1 hd;exact vi x
   len:=by simp;omega
   run:=fun a ha b hb=>by
    obtain⟨x,_,rfl⟩:=List.mem_map.1 ha
    obtain⟨y,_,rfl⟩:=List.mem_map.1 hb
    rw[Km,Km]
    exact hfc x y
   Mx:=fun a ha=>by
    obtain⟨x,_,rfl⟩:=List.mem_map.1 ha
    rw[bk,hL.Mx]
    simp
   tr:=fun a ha b hb d hd=>by
    obtain⟨x,_,rfl⟩:=List.mem_map.1 ha
    obtain⟨y,_,rfl⟩:=List.mem_map.1 hb
    obtain⟨z,_,rfl⟩:=List.mem_map.1 hd
    rw[bk,bk,bk]
    exact hL.tr _ _ _
   W9:=fun a ha b hb d hd=>by
    obtain⟨x,_,rfl⟩:=List.mem_map.1 ha
    obtain⟨y,_,rfl⟩:=List.mem_map.1 hb
    obtain⟨z,_,rfl⟩:=List.mem_map.1 hd
    rw[bk,bk,bk]
    intro h1 h2
    simpa using hL.W9 (by simpa using h1) (by simpa using h2)}
 ·obtain⟨l2,rfl,h3⟩:=PC enc dec Km h1
  rw[List.pairwise_map] at h2
  exact hp l2 h3 (h2.imp fun {a b} h=>by rw[bk] at h;simpa using h)
def Jl {α β:Type} (g:FuncId) (ty:TypeId) (enc:α->D) (key:α->β) (lt:β->β->Bool):bm:=fun ps R post=> ∃(l:List α) (tl:List D),ps=[.sl 0 0 l.length,.fn g []]/\R=[(0,⟨0,some 0,.arr ty false (l.map enc++tl)⟩)]/\l.length<=1000000/\
 ∀l':List α,l'.Perm l->l'.Pairwise (fun a b=>lt (key b) (key a)=false)->post (.da [],[(0,⟨0,some 0,.arr ty false (l'.map enc++tl)⟩)])
theorem PD {X:XF} {f g:FuncId} {ty:TypeId} {α β:Type} {enc:α->D} {dec:D->α} {key:α->β} {lt:β->β->Bool} {c:α->α->Int} (ho:FD X f (Oq PR xl ty)) (Km: ∀x,dec (enc x)=x) (hL:Hj lt)
  (hc: ∀x y,c x y<0↔lt (key x) (key y)=true) (vi: ∀x,∃cs,enc x= .agg cs) (hfc: ∀x y,xd PR xl g (enc x) (enc y) (c x y)) (eJ: ∃fn,PR.funcs[g]?=some fn/\fn.body.isSome=true/\(fn.name== "runtime.NumGoroutine")=false):
  FD X f (Jl g ty enc key lt):=by
 intro ps R post hh
 obtain⟨l,tl,rfl,rfl,hl,hp⟩:=hh
 have bk: ∀x y,c (dec (enc x)) (dec (enc y))<0↔lt (key x) (key y)=true:=fun x y=>by rw[Km,Km];exact hc x y
 refine ho _ _ post ⟨0,g,⟨0,some 0,.arr ty false (l.map enc++tl)⟩,l.map enc,tl,fun a b=>c (dec a) (dec b),by rw[List.length_map],rfl,rfl,?_,fun fh h1 h2=> ?_⟩
 ·exact {
   fn:=eJ
   ag:=fun d hd=>by obtain⟨x,_,rfl⟩:=List.mem_map.1 hd;exact vi x
   len:=by simp;omega
   run:=fun a ha b hb=>by
    obtain⟨x,_,rfl⟩:=List.mem_map.1 ha
    obtain⟨y,_,rfl⟩:=List.mem_map.1 hb
    rw[Km,Km]
    exact hfc x y
   Mx:=fun a ha=>by
    obtain⟨x,_,rfl⟩:=List.mem_map.1 ha
    rw[bk,hL.Mx]
    simp
   tr:=fun a ha b hb d hd=>by
    obtain⟨x,_,rfl⟩:=List.mem_map.1 ha
    obtain⟨y,_,rfl⟩:=List.mem_map.1 hb
    obtain⟨z,_,rfl⟩:=List.mem_map.1 hd
    rw[bk,bk,bk]
    exact hL.tr _ _ _
   W9:=fun a ha b hb d hd=>by
    obtain⟨x,_,rfl⟩:=List.mem_map.1 ha
    obtain⟨y,_,rfl⟩:=List.mem_map.1 hb
    obtain⟨z,_,rfl⟩:=List.mem_map.1 hd
    rw[bk,bk,bk]
    intro h1 h2
    simpa using hL.W9 (by simpa using h1) (by simpa using h2)}
 ·obtain⟨l2,rfl,h3⟩:=PC enc dec Km h1
  rw[List.pairwise_map] at h2
  exact hp l2 h3 (h2.imp fun {a b} h=>by rw[bk] at h;simpa using h)
def cM (U:List ax) (d:D):Option D:=match d with
 | .agg [.int .i64 a,.int .i64 b]=>if U.count (a,b)=0 then none else some (iE (U.count (a,b):Int))
 |_=>none
theorem XA (U:List ax) (x:ax):cM U (aX x)=if U.count x=0 then none else some (iE (U.count x:Int)):=rfl
theorem Cq:cM []=fun _=>none:=by
 funext d
 unfold cM
 split
 ·simp
 ·rfl
theorem pb (U:List ax) (x:ax):cm (cM U (aX x)) (iE 0)=iE (U.count x:Int):=by
 rw[XA]
 split
 ·rename_i h;rw[h];rfl
 ·rfl
theorem Jm (U:List ax) (x:ax):cO (aX x) (iE ((U.count x:Int)+1)) (cM U)=cM (x::U):=by
 funext d
 unfold cO
 cases hd:D.nD (aX x) d with
 |true=>
  have:=(D.gA _ _).1 hd
  subst this
  simp only[cond_true]
  rw[XA,List.count_cons_self,if_neg (by omega)]
  simp
 |false=>
  have dz:aX x≠d:=fun e=>by rw[(D.gA _ _).2 e] at hd;cases hd
  simp only[cond_false]
  unfold cM
  split
  ·rename_i a b
   have:x≠(a,b):=fun e=>dz (by rw[e];rfl)
   rw[List.count_cons_of_ne this]
  ·rfl
theorem Cr (U:List ax) (x:ax) (z:D):(fun k'=>bif D.nD (aX x) k' then some (iE ((U.count x:Int)+1)) else cO (aX x) z (cM U) k')=cM (x::U):=by
 rw[<-Jm]
 funext d
 unfold cO
 cases D.nD (aX x) d<;>rfl
theorem Lo (k v u:D) (f:D->Option D):cO k v (cO k u f)=cO k v f:=by
 funext d
 unfold cO
 cases D.nD k d<;>rfl
theorem Ct (U:List ax) (x:ax) (z:D):cO (aX x) (.int .i64 ((U.count x:Int)+1)) (cO (aX x) z (cM U))=cM (x::U):=by
 rw[Lo]
 exact Jm U x
end Pi
namespace Pi
open Go Go.Proofs
set_option maxRecDepth 100000
set_option maxHeartbeats 0
abbrev my (z:Bool) (l:List aj):Obj:= .arr 34 z (l.map aP)
abbrev XB (f:D->Option D) (c:Int):Obj:= .map 30 f c false
def jc (l:List aj):Prop:=l.length<=1000000/\ ∀g∈l,MA g
abbrev cnH (l out:List aj) (f:D->Option D) (c i:Int):S:=⟨36,[(3,.sl 0 0 out.length),(4,.mp 1 0),(9,bO l),(10,iD ((l.map aP).length:Int)),(11,iD i)],[(0,⟨0,none,my false out⟩),(1,⟨0,none,XB f c⟩)]⟩
def cK (l:List aj):List D:=List.map aP l
def kJ (out:List aj):En:=En.mk 0 none (Obj.arr (34:TypeId) false (cK out))
def u5 (out:List aj):Nat×En:=(0,kJ out)
def xS (out:List aj):List (Nat×En):=[u5 out]
def fQ (l:List aj) (i:Int):D:=D.nth (cK l) (Zg i)
def lG (l:List aj) (i:Int):D:=D.int IntKind.i64 (D.ah (D.ao (fQ l i) 1))
def mz (l:List aj) (i:Int):D:=D.int IntKind.i64 (D.ah (D.ao (fQ l i) 0))
def rz (l:List aj) (i:Int):D:=D.agg [mz l i,lG l i]
def XC (l:List aj) (i:Int):D:=D.agg [mz l i,D.int IntKind.i64 (D.ah (D.ao (fQ l i) (0+1)))]
def XD (l:List aj) (i:Int) (f:D->Option D) (c:Int):En:=En.mk 0 none (Obj.map 30 (fun(k':D)=>bif D.nD (XC l i) k' then some (D.int IntKind.i64 (D.ah (cm (f (XC l i)) Z7)+(1:Int))) else cO (XC l i) (cm (f (XC l i)) Z7) f k') (bif Option.isSome (f (rz l i)) then c else c+(1:Int)) false)
def uE (l:List aj) (i:Int):List D:=[mz l i,lG l i,D.int IntKind.i64 (D.ah (D.ao (fQ l i) 2)),D.sl 1 (D.ez (D.ao (fQ l i) 3)),D.int IntKind.i64 (D.ah (D.ao (fQ l i) 4)),D.int IntKind.i64 (D.ah (D.ao (fQ l i) 5)),D.sl 18 (D.ez (D.ao (fQ l i) 6))]
def dm (out:List aj):Nat:=List.length out
def U2 (out:List aj) (l:List aj) (i:Int):En:=En.mk 0 none (Obj.arr (34:TypeId) false (List.take (dm out) (cK out)++[D.agg (uE l i)]))
def EP (out:List aj) (l:List aj) (i:Int):Nat:=dm out+List.length [D.agg (uE l i)]
def gO (l:List aj):Nat:=List.length (cK l)
def U3 (out:List aj) (l:List aj) (i:Int):Bool:=Nat.ble (dm out) (gO out)&&aT (EP out l i) 88
def XE (l:List aj) (i:Int) (f:D->Option D):D:=cm (cO (rz l i) (D.int IntKind.i64 (D.ah (cm (f (rz l i)) Z7)+(1:Int))) (cO (rz l i) (cm (f (rz l i)) Z7) f) (rz l i)) Z7
def Z4z (f:D->Option D) (l:List aj) (i:Int):Bool:=decide (Z9<=D.ah (cm (f (rz l i)) Z7)+(1:Int)/\D.ah (cm (f (rz l i)) Z7)+(1:Int)<=Za)
def zm (f:D->Option D) (c:Int):En:=En.mk 0 none (Obj.map 30 f c false)
def Cu (l:List aj):P:=P.d (D.int IntKind.i64 (↑(gO l):Int))
def fR (l:List aj):P:=P.d (D.sl 7 (cK l))
def Z4u (l:List aj) (i:Int):List (Nat×P):=[(4,P.mp 1 0),(9,fR l),(10,Cu l),(11,P.d (Zm i))]
def lM (out:List aj):P:=P.sl 0 0 (dm out)
def U4 (e:Int) (g:aj):Prop:=e=if cQ g=true then(0:Int) else(80:Int)
def MD (l:List aj) (i:Int) (g:aj):Prop:=[P.d (D.agg (uE l i))]=AB g
noncomputable def c8 (l:List aj) (i:Int):Bool:=cX PR (34:TypeId) (fQ l i)
def pc (i:Int) (l:List aj):Bool:=decide ((0:Int)<=i/\i<(↑(gO l):Int))
def u7 (i:Int) (l:List aj):Bool:=decide (i<(↑(gO l):Int))
theorem PE (l out:List aj) (f:D->Option D) (c i:Int) (post:PX×S->Prop):(bif u7 i l then bif pc i l then bif c8 l i then∃(g:aj),MD l i g/\Zw/\MA g/\ ∀(e:Int),U4 e g->bif e !=(0:Int) then bif Zj i then post (PX.normal,S.mk 36 ((3,lM out)::Z4u l i) [u5 out,(1,zm f c)]) else False else bif cX PR (3:TypeId) (cm (f (rz l i)) Z7) then bif Z4z f l i then bif cX PR (3:TypeId) (XE l i f) then bif D.ah (XE l i f)==(1:Int) then bif U3 out l i then bif Zj i then post (PX.normal,S.mk 36 ((3,P.sl 0 0 (EP out l i))::Z4u l i) [(0,U2 out l i),(1,XD l i f c)]) else False else False else bif Zj i then post (PX.normal,S.mk 36 ((3,lM out)::Z4u l i) [u5 out,(1,XD l i f c)]) else False else False else False else False else False else False else post (PX.exit 0,S.mk 36 [(3,lM out)] (xS out)))=(aF [(51,EH)] [] 30 3 (cnH l out f c i)) post:=by kernel_rfl
def qa9:S->K (PX×S):=fun st post=> ∃l,st=cnH l [] (fun _=>none) 0 0/\jc l/\ ∀m,m=az l->post (.exit 0,⟨36,[(3,.sl 0 0 m.length)],[(0,⟨0,none,my false m⟩)]⟩)
def ma:bm:=fun ps R post=> ∃l,ps=[bO l]/\R=[]/\jc l/\ ∀m,m=az l->post (.sl 0 0 m.length,[(0,⟨0,none,my false m⟩)])
def Lp:En:=En.mk 0 none (Obj.map 30 (fun(_:D)=>none) (0:Int) false)
def XG:En:=En.mk 0 none (Obj.arr (34:TypeId) false [])
def Z4J (l:List aj):S:=S.mk 36 [(3,ZO),(4,P.mp 1 0),(9,fR l),(10,Cu l),(11,P.d Z7)] [(0,XG),(1,Lp)]
theorem qef (l:List aj) (post:P×List (Nat×En)->Prop):(∃(ar:List aj),Z4J l=Z4J ar/\jc ar/\ ∀(m:List aj),m=az ar->post (lM m,xS m))=(aH [] [(3,ae (aK 30 3) qa9)] 30 [bO l] []) post:=by kernel_rfl
def xT (m:List aj) (s:ax):Int:=ja (fun g=>g.s==s) m
def HF:bm:=fun ps R post=> ∃m s,ps=[.sl 0 0 m.length,.d (aX s)]/\R=[(0,⟨0,some 0,my false m⟩)]/\m.length<=1000000/\ ∀i,i=xT m s->post (iD i,[(0,⟨0,some 0,my false m⟩)])
abbrev fdH (m:List aj) (s:ax) (i:Int):S:=⟨20,[(0,.sl 0 0 m.length),(3,.ref 1 0 0),(5,iD i)],[(0,⟨0,some 0,my false m⟩),(1,⟨0,none,.box 30 [iD s.1,iD s.2]⟩)]⟩
def tG (s:ax):En:=En.mk 0 none (Obj.box (30:TypeId) [P.d (D.int IntKind.i64 (Prod.fst s)),P.d (D.int IntKind.i64 (Prod.snd s))])
def Cv (m:List aj):Nat×En:=(0,En.mk 0 (some 0) (Obj.arr (34:TypeId) false (cK m)))
def iM:P:=P.ref 1 0 0
def ME (i:Int):List (Nat×P):=(3,iM)::Zn i
def PF (m:List aj):List (Nat×En):=[Cv m]
def vH (i:Int):Nat×P:=(4,P.d (Zs i))
def C6 (i:Int):List (Nat×P):=[vH i]
def kR (m:List aj):Nat×P:=(0,lM m)
def gS (i:Int) (m:List aj):Bool:=decide (Zg i<gO m)
def jq (i:Int) (m:List aj):Bool:=decide ((0:Int)<=i/\i<(↑(dm m):Int))
def vI (i:Int) (m:List aj):Bool:=decide (i<(↑(dm m):Int))
theorem XH (m:List aj) (s:ax) (i:Int) (post:PX×S->Prop):(bif vI i m then bif jq i m then bif gS i m then bif c8 m i then bif D.ah (D.ao (fQ m i) 0)==Prod.fst s&&(D.ah (D.ao (fQ m i) 1)==Prod.snd s&&true) then post (PX.ret,S.mk 20 (kR m::C6 i) (PF m)) else bif Zj i then post (PX.normal,S.mk 20 (kR m::ME i) [Cv m,(1,tG s)]) else False else False else False else False else post (PX.exit 0,S.mk 20 [kR m] (PF m)))=(aF [] [] 73 2 (fdH m s i)) post:=by kernel_rfl
def gFd:S->K (PX×S):=fun st post=> ∃m s,st=fdH m s 0/\m.length<=1000000/\(∀i,i=xT m s->0<=i->post (.ret,⟨20,[(0,.sl 0 0 m.length),(4,iD i)],[(0,⟨0,some 0,my false m⟩)]⟩))/\(xT m s= -1->post (.exit 0,⟨20,[(0,.sl 0 0 m.length)],[(0,⟨0,some 0,my false m⟩)]⟩))
def mA (bL:List aj):Prop:=dm bL<=1000000
def Lq:List (Nat×P):=(3,iM)::ZL
def Z4W (m:List aj) (s:ax):S:=S.mk 20 (kR m::Lq) [Cv m,(1,tG s)]
theorem qgl (m:List aj) (s:ax) (post:P×List (Nat×En)->Prop):(∃(bL:List aj) (hZ:ax),Z4W m s=Z4W bL hZ/\mA bL/\(∀(i:Int),i=xT bL hZ->(0:Int)<=i->post (P.d (Zs i),PF bL))/\(xT bL hZ=(-1:Int)->post (I0,PF bL)))=(aH [] [(2,ae (aK 73 2) gFd)] 73 [.sl 0 0 m.length,.d (aX s)] [(0,⟨0,some 0,my false m⟩)]) post:=by kernel_rfl
abbrev U5 (l out:List aj) (i:Int):S:=⟨35,[(0,bO l),(3,.sl 0 0 out.length),(4,iD i)],[(0,⟨0,none,my false out⟩)]⟩
def lH (l:List aj):Nat×P:=(0,fR l)
def Cw (l:List aj) (i:Int):List P:=[P.d (rz l i)]
theorem XI (l out:List aj) (i:Int) (post:PX×S->Prop):(bif u7 i l then bif pc i l then bif c8 l i then∃(g:aj),MD l i g/\Zw/\MA g/\ ∀(e:Int),U4 e g->bif e==(0:Int) then bif pc i l then bif c8 l i then∃(m:List aj) (s:ax),lM out::Cw l i=lM m::nq s/\PF out=PF m/\mA m/\ ∀(aJ:Int),aJ=xT m s->bif K4 aJ then bif pc i l then bif c8 l i then bif Nat.ble (dm out) (gO m)&&aT (EP out l i) 88 then bif Zj i then post (PX.normal,S.mk 35 (lH l::(3,P.sl 0 0 (EP out l i))::AF i) [(0,En.mk 0 none (Obj.arr (34:TypeId) false (List.take (dm out) (cK m)++[D.agg (uE l i)])))]) else False else False else False else False else bif Zj i then post (PX.normal,S.mk 35 (lH l::(3,lM out)::AF i) (xS m)) else False else False else False else bif Zj i then post (PX.normal,S.mk 35 (lH l::(3,lM out)::AF i) (xS out)) else False else False else False else post (PX.exit 0,S.mk 35 [(3,lM out)] (xS out)))=(aF [(72,EH),(73,HF)] [] 40 3 (U5 l out i)) post:=by kernel_rfl
def qba:S->K (PX×S):=fun st post=> ∃l,st=U5 l [] 0/\jc l/\ ∀m,m=az l->post (.exit 0,⟨35,[(3,.sl 0 0 m.length)],[(0,⟨0,none,my false m⟩)]⟩)
def XJ:List (Nat×P):=(3,ZO)::UR
def Z51 (l:List aj):S:=S.mk 35 (lH l::XJ) [(0,XG)]
theorem qeg (l:List aj) (post:P×List (Nat×En)->Prop):(∃(ar:List aj),Z51 l=Z51 ar/\jc ar/\ ∀(m:List aj),m=az ar->post (lM m,xS m))=(aH [] [(3,ae (aK 40 3) qba)] 40 [bO l] []) post:=by kernel_rfl
end Pi
namespace Pi
theorem ak {p:Prop} {i:Decidable p} {A:Prop} (h1:p) (h2:A):cond (@decide p i) A False:=by
 rw[decide_eq_true h1]
 exact h2
theorem bJ {p:Prop} {i:Decidable p} {A B:Prop} (h1:p->A) (h2: ¬p->B):cond (@decide p i) A B:=by
 by_cases h:p
 ·rw[decide_eq_true h]
  exact h1 h
 ·rw[decide_eq_false h]
  exact h2 h
theorem bV {p:Prop} {i:Decidable p} {A B:Prop} (h1:p) (h2:A):cond (@decide p i) A B:=by
 rw[decide_eq_true h1]
 exact h2
theorem nv {p:Prop} {i:Decidable p} {A B:Prop} (h1: ¬p) (h2:B):cond (@decide p i) A B:=by
 rw[decide_eq_false h1]
 exact h2
theorem U6 {a b:Int} {A B:Prop} (h1:a=b->A) (h2:a≠b->B):cond (a==b) A B:=by
 by_cases h:a=b
 ·rw[show(a==b)=true by simpa using h]
  exact h1 h
 ·rw[show(a==b)=false by simpa using h]
  exact h2 h
end Pi
namespace Pi
open Go Go.Proofs
set_option maxRecDepth 100000
theorem C7:PR.follows .mixedOrders=true:=by kernel_rfl
theorem Cx {o:List aj} {g:aj} (h:cQ g=false):lF o g=o:=by
 unfold lF
 rw[if_neg]
 rw[h]
 simp
theorem xU {o:List aj} {g:aj} (h:(o.any fun x=>x.s==g.s)=true):lF o g=o:=by
 unfold lF
 rw[if_neg]
 rw[h]
 simp
theorem xV {o:List aj} {g:aj} (h:cQ g=true) (h2:(o.any fun x=>x.s==g.s)=false):lF o g=o++[g]:=by
 unfold lF
 rw[if_pos ⟨h,h2⟩]
theorem pd {l:List aj} {i:Nat} (h:i<l.length):az (l.take (i+1))=lF (az (l.take i)) l[i]:=by
 rw[List.take_succ_eq_append_getElem h,EL]
theorem cD {m n:Nat} (h:m<=1000000) (hn:n<=1000):aT (m+1) n=true:=jF (Nat.le_trans (Nat.mul_le_mul (by omega:m+1<=1000001) hn) (by omega)) (by omega)
theorem dU {α:Type} (f:α->D) (l:List α) (x:α):List.take l.length (l.map f)++[f x]=(l++[x]).map f:=by
 rw[List.take_of_length_le (by simp),List.map_append]
 rfl
def u9 (U:List ax) (o:List aj):Prop:= ∀x,x∈U↔(o.any fun y=>y.s==x)=true
theorem u9.nil:u9 [] []:=fun x=>by simp
theorem u9.had {U:List ax} {o:List aj} {x:ax} (h:u9 U o) (hx:x∈U):u9 (x::U) o:=fun y=>by
 rw[List.mem_cons,h y]
 constructor
 ·rintro(rfl |h2)
  ·exact(h _).1 hx
  ·exact h2
 ·exact .inr
theorem u9.new {U:List ax} {o:List aj} {g:aj} (h:u9 U o):u9 (g.s::U) (o++[g]):=fun y=>by
 rw[List.mem_cons,h y,List.any_append,Bool.or_eq_true]
 simp only[List.any_cons,List.any_nil,Bool.or_false,beq_iff_eq]
 constructor
 ·rintro(rfl |h2)
  ·exact .inr rfl
  ·exact .inl h2
 ·rintro(h2 |rfl)
  ·exact .inr h2
  ·exact .inl rfl
theorem zn (n:Int):cX PR 3 (.int .i64 n)=true:=by kernel_rfl
section
variable {X:XF}
theorem U7:LD X 30 3 (ae (aK 30 3) qa9):=LD.idx (H:=[(51,EH)]) (hk:=[]) (by kernel_rfl) (by kernel_rfl) (.cons Xz .nil) .nil
 (A:=List aj) (B:=List aj×List ax×Int) (fun l b i=>cnH l b.1 (cM b.2.1) b.2.2 i) (fun l=>l.length) (fun l i b=>jc l/\b.1=az (l.take i)/\u9 b.2.1 b.1/\b.2.1.length<=i)
 (fun l x=>x=(.exit 0,⟨36,[(3,.sl 0 0 (az l).length)],[(0,⟨0,none,my false (az l)⟩)]⟩))
 (by
  rintro l ⟨o,U,c⟩ i post h0 bS bc ⟨hs,rfl,hU,Lr⟩ hn ho
  try dsimp only at*
  (rw[<-PE];delta cK kJ u5 xS Zg fQ lG mz rz Z7 XC XD uE dm U2 EP gO U3 XE Za Z9 Z4z zm Zm Cu fR Z4u lM Zj U4 Zw ia ib ic fO ie gb l8 AB MD c8 pc u7)
  have e1:D.nth (l.map aP) i.toNat=aP l[i.toNat]:=ay _ _ _ bc
  rw[e1]
  simp only[cnH,List.length_map] at hn⊢
  have XK:=hs.2 _ (List.getElem_mem bc)
  have qH:=pd bc
  have nM:=cv (l.take i.toNat)
  rw[List.length_take] at nM
  generalize l[i.toNat]=g at qH XK
  have qp:=hs.1
  have t1:D.agg [D.int .i64 (D.ah (D.ao (aP g) 0)),D.int .i64 (D.ah (D.ao (aP g) 1))]=aX g.s:=rfl
  have v1: ∀n:Int,D.ah (iE n)=n:=fun _=>rfl
  have g0:cm (cM U (aX g.s)) (.int .i64 0)=iE (U.count g.s:Int):=pb U g.s
  have C3:=List.count_le_length (a:=g.s) (l:=U)
  have u2:=fun z=>Ct U g.s z
  have u3:=fun z=>Cr U g.s z
  have g1:cm (cM (g.s::U) (aX g.s)) (.int .i64 0)= .int .i64 ((U.count g.s:Int)+1):=by
   have:=pb (g.s::U) g.s
   rw[List.count_cons_self] at this
   exact this
  have y5:(U.count g.s:Int)=0↔ ¬g.s∈U:=by
   rw[<-List.count_eq_zero]
   omega
  have hcb:0<=(U.count g.s:Int)/\(U.count g.s:Int)<=1000000:=by have:=hs.1;omega
  generalize (U.count g.s:Int)=cn at g0 u2 u3 g1 y5 hcb
  rw[t1,g0]
  simp only[v1]
  refine xJ bS (bp ⟨h0,bS⟩ (aq (df _) ⟨g,rfl,rfl,XK,fun e he=>xr (fun h1=>bp (by omega) (hn (az (l.take i.toNat),U,c) ⟨hs,?_,hU,Nat.le_succ_of_le Lr⟩)) fun h1=> ?_⟩))
  ·rw[qH,Cx]
   cases hg:cQ g with
   |false=>rfl
   |true=>rw[hg] at he;exact absurd he h1
  ·have hg:cQ g=true:=by
    cases hg:cQ g with
    |true=>rfl
    |false=>rw[hg,if_neg (by simp)] at he;omega
   have t2:D.agg [D.int .i64 (D.ah (D.ao (aP g) 0)),D.int .i64 (D.ah (D.ao (aP g) 1)),D.int .i64 (D.ah (D.ao (aP g) 2)),D.sl 1 (D.ez (D.ao (aP g) 3)),D.int .i64 (D.ah (D.ao (aP g) 4)),D.int .i64 (D.ah (D.ao (aP g) 5)),D.sl 18 (D.ez (D.ao (aP g) 6))]=aP g:=rfl
   refine aq (zn _) (ak (by omega) ?_)
   rw[u2,g1,t2,u3]
   refine aq (zn _) ?_
   simp only[v1,List.length_cons,List.length_nil,Nat.zero_add]
   refine(U6 (fun h2=>aq ?_ (ak (by omega) ?_)) fun h2=>ak (by omega) (hn (az (l.take i.toNat),g.s::U,_) ⟨hs,?_,hU.had ?_,Nat.succ_le_succ Lr⟩))
   ·rw[Bool.and_eq_true]
    exact⟨by simp,cD (by omega) (by omega)⟩
   ·have hx: ¬g.s∈U:=y5.1 (by omega)
    have IQ:((az (l.take i.toNat)).any fun x=>x.s==g.s)=false:=by rw[<-Bool.not_eq_true,<-hU g.s];exact hx
    have:=fun c':Int=>hn (az (l.take i.toNat)++[g],g.s::U,c') ⟨hs,by rw[qH,xV hg IQ],hU.new,Nat.succ_le_succ Lr⟩
    rw[dU]
    simp only[List.length_append,List.length_cons,List.length_nil,Nat.zero_add] at this
    exact this _
   ·have hx:g.s∈U:=Classical.byContradiction fun h=>by have:=y5.2 h;omega
    rw[qH,xU ((hU g.s).1 hx)]
   ·exact Classical.byContradiction fun h=>by have:=y5.2 h;omega)
 (by
  rintro l ⟨o,U,c⟩ i post hi ⟨hs,rfl,hU,Lr⟩ ho
  try dsimp only at*
  (rw[<-PE];delta cK kJ u5 xS Zg fQ lG mz rz Z7 XC XD uE dm U2 EP gO U3 XE Za Z9 Z4z zm Zm Cu fR Z4u lM Zj U4 Zw ia ib ic fO ie gb l8 AB MD c8 pc u7)
  simp only[List.length_map]
  refine bb (fun h=>by omega) fun h=>ho _ (fun h=>by cases h) ?_
  rw[List.take_length])
 (by
  rintro s post ⟨l,rfl,hs,hp⟩
  refine⟨l,([],[],0),by rw[Cq],⟨hs,rfl,u9.nil,by simp⟩,?_⟩
  rintro x rfl
  exact hp _ rfl)
theorem Jn:FD X 30 ma:=FD.mk (H:=[]) (hk:=[(3,ae (aK 30 3) qa9)]) (by kernel_rfl) .nil (.cons U7 .nil) (by
 intro ps R post hh
 obtain⟨l,rfl,rfl,hs,hp⟩:=hh
 (rw[<-qef];delta cK kJ u5 xS dm lM Lp XG Z7 gO Cu fR ZO Z4J)
 exact⟨l,rfl,hs,fun m hm=>hp m hm⟩)
theorem qbb:LD X 73 2 (ae (aK 73 2) gFd):=LD.find (H:=[]) (hk:=[]) (by kernel_rfl) (by kernel_rfl) .nil .nil
 (A:=List aj×ax) (fun a k=>fdH a.1 a.2 k) (fun a=>a.1) (fun a _ g=>g.s==a.2) (fun a=>a.1.length<=1000000)
 (fun a i=>(.ret,⟨20,[(0,.sl 0 0 a.1.length),(4,iD i)],[(0,⟨0,some 0,my false a.1⟩)]⟩)) (fun a=>(.exit 0,⟨20,[(0,.sl 0 0 a.1.length)],[(0,⟨0,some 0,my false a.1⟩)]⟩)) (fun _ _ h=>by cases h) (fun _ h=>by cases h)
 (by
  rintro⟨m,s⟩ i post hi hC h0 bS ht hn
  try dsimp only at*
  (rw[<-XH];delta tG cK Cv Zm Zn iM ME Za Z9 Zj PF Zs vH C6 dm lM kR Zg fQ c8 gO gS jq vI)
  have e1:D.nth (m.map aP) i.toNat=aP m[i.toNat]:=ay _ _ _ hi
  rw[e1]
  refine bV bS (ak ⟨h0,bS⟩ (ak (by simpa using hi) (aq (df _) ?_)))
  rw[show(D.ah (D.ao (aP m[i.toNat]) 0)==s.1&&(D.ah (D.ao (aP m[i.toNat]) 1)==s.2&&true))=(m[i.toNat].s==s) from Ch m[i.toNat].s s]
  exact aw (fun h=>ht h) fun h=>ak (by omega) (hn h))
 (by
  rintro⟨m,s⟩ i post hC hi hp
  try dsimp only at*
  (rw[<-XH];delta tG cK Cv Zm Zn iM ME Za Z9 Zj PF Zs vH C6 dm lM kR Zg fQ c8 gO gS jq vI)
  exact bJ (fun h=>by omega) fun h=>hp)
 (by
  rintro st post ⟨m,s,rfl,hl,h1,h2⟩
  refine⟨(m,s),rfl,hl,fun i hi h0 ht hb=>h1 i ?_ h0,fun h=>h2 ?_⟩
  ·rw[xT,EC hi ht hb]
   omega
  ·exact I5 h)
theorem U8:FD X 73 HF:=FD.mk (H:=[]) (hk:=[(2,ae (aK 73 2) gFd)]) (by kernel_rfl) .nil (.cons qbb .nil) (by
 intro ps R post hh
 obtain⟨m,s,rfl,rfl,hm,hp⟩:=hh
 (rw[<-qgl];delta I0 cK Cv PF Zs dm mA tG Z7 ZL iM Lq lM kR Z4W)
 exact⟨m,s,rfl,hm,fun i hi _=>hp i hi,fun h=>hp _ h.symm⟩)
theorem U9:LD X 40 3 (ae (aK 40 3) qba):=LD.idx (H:=[(72,EH),(73,HF)]) (hk:=[]) (by kernel_rfl) (by kernel_rfl) (.cons qa8 (.cons U8 .nil)) .nil
 (A:=List aj) (B:=List aj) (fun l o i=>U5 l o i) (fun l=>l.length) (fun l i o=>jc l/\o=az (l.take i))
 (fun l x=>x=(.exit 0,⟨35,[(3,.sl 0 0 (az l).length)],[(0,⟨0,none,my false (az l)⟩)]⟩))
 (by
  rintro l o i post h0 bS bc ⟨hs,rfl⟩ hn ho
  try dsimp only at*
  (rw[<-XI];delta cK kJ u5 xS Zg fQ lG mz uE Zm AF fR lH Za Z9 Zj dm EP gO K4 mA Cv PF mr nq rz Cw lM U4 Zw ia ib ic fO ie gb l8 AB MD c8 pc u7)
  have e1:D.nth (l.map aP) i.toNat=aP l[i.toNat]:=ay _ _ _ bc
  rw[e1]
  simp only[List.length_map,List.length_cons,List.length_nil,Nat.zero_add]
  have XK:=hs.2 _ (List.getElem_mem bc)
  have qH:=pd bc
  have nM:=cv (l.take i.toNat)
  rw[List.length_take] at nM
  generalize l[i.toNat]=g at qH XK
  have qp:=hs.1
  have t2:D.agg [D.int .i64 (D.ah (D.ao (aP g) 0)),D.int .i64 (D.ah (D.ao (aP g) 1)),D.int .i64 (D.ah (D.ao (aP g) 2)),D.sl 1 (D.ez (D.ao (aP g) 3)),D.int .i64 (D.ah (D.ao (aP g) 4)),D.int .i64 (D.ah (D.ao (aP g) 5)),D.sl 18 (D.ez (D.ao (aP g) 6))]=aP g:=rfl
  refine bV bS (ak ⟨h0,bS⟩ (aq (df _) ⟨g,rfl,rfl,XK,fun e he=>U6 (fun h1=>ak ⟨h0,bS⟩ (aq (df _) ⟨az (l.take i.toNat),g.s,rfl,rfl,by omega,fun k hk=>bJ (fun h2=>ak ⟨h0,bS⟩ (aq (df _) (aq ?_ (ak (by omega) ?_)))) fun h2=>ak (by omega) (hn _ ⟨hs,?_⟩)⟩)) fun h1=>ak (by omega) (hn _ ⟨hs,?_⟩)⟩))
  ·rw[Bool.and_eq_true]
   exact⟨by simp,cD (by omega) (by omega)⟩
  ·have hg:cQ g=true:=by
    cases hg:cQ g with
    |true=>rfl
    |false=>rw[hg,if_neg (by simp)] at he;omega
   have IQ:((az (l.take i.toNat)).any fun x=>x.s==g.s)=false:=(xH _ _).1 (by rw[hk] at h2;exact h2)
   have:=hn (az (l.take i.toNat)++[g]) ⟨hs,by rw[qH,xV hg IQ]⟩
   rw[t2,dU]
   simp only[U5,List.length_append,List.length_cons,List.length_nil,Nat.zero_add] at this
   exact this
  ·rw[qH,xU]
   rw[<-Bool.not_eq_false]
   intro h
   exact h2 (by rw[hk];exact(xH _ _).2 h)
  ·rw[qH,Cx]
   cases hg:cQ g with
   |false=>rfl
   |true=>rw[hg,if_pos rfl] at he;exact absurd he h1)
 (by
  rintro l o i post hi ⟨hs,rfl⟩ ho
  try dsimp only at*
  (rw[<-XI];delta cK kJ u5 xS Zg fQ lG mz uE Zm AF fR lH Za Z9 Zj dm EP gO K4 mA Cv PF mr nq rz Cw lM U4 Zw ia ib ic fO ie gb l8 AB MD c8 pc u7)
  simp only[List.length_map]
  refine bJ (fun h=>by omega) fun h=>ho _ (fun h=>by cases h) ?_
  rw[List.take_length])
 (by
  rintro s post ⟨l,rfl,hs,hp⟩
  refine⟨l,[],rfl,⟨hs,rfl⟩,?_⟩
  rintro x rfl
  exact hp _ rfl)
theorem pe:FD X 40 ma:=FD.mk (H:=[]) (hk:=[(3,ae (aK 40 3) qba)]) (by kernel_rfl) .nil (.cons U9 .nil) (by
 intro ps R post hh
 obtain⟨l,rfl,rfl,hs,hp⟩:=hh
 (rw[<-qeg];delta cK kJ u5 xS dm lM XG Z7 UR ZO XJ fR lH Z51)
 exact⟨l,rfl,hs,fun m hm=>hp m hm⟩)
end
abbrev xW:=S×(PX×S)->K (PX×S×(PX×S))
noncomputable def Jo (H HN:List (FuncId×bm)) (f id:Nat):S->(PX×S->Prop)->Prop:=de PR (runK PR xl pI H 60 60) HN (aK f) [] (pI f) (lZ PR f id).asg
noncomputable def Cy (H HN:List (FuncId×bm)) (f id:Nat):S->(PX×S->Prop)->Prop:=de PR (runK PR xl pI H 60 60) HN (aK f) [] (pI f) (lZ PR f id).body
noncomputable def vJ (H HN:List (FuncId×bm)) (hk:FuncId->Nat->List (Nat×xW)) (f id base:Nat) (keep:Option (List Nat×List Nat)) (s:S):K (PX×S):=
 GP PR (runK PR xl pI H 60 60) (lZ PR f id).ps.toList base keep (Jo H HN f id) (Cy H HN f id) hk pI (lZ PR f id).g s
noncomputable def lg (H HN:List (FuncId×bm)) (f id base:Nat) (keep:Option (List Nat×List Nat)) (yt fi yw:Nat) (y:S×(PX×S)):K (PX×S×(PX×S)):=
 TX (ew PR (runK PR xl pI H 60 60) yt (jG (lZ PR f id).ps.toList base keep (Jo H HN f id) (Cy H HN f id)) [] (pI fi) (bt PR fi yw)) (aK fi yw) y
def LY (w0:World) (f id yt fi yw:Nat) (h:xW):Prop:= ∀(B:mZ PR) (Ti:Tg),Setup B Ti yt w0 (lZ PR f id).ps (lZ PR f id).asg (lZ PR f id).body-> ∀y post,h y post->pH B Ti (.loop (bt PR fi yw)) y.2 y.1 post
noncomputable def tH (f id:Nat):Bool:=(aN (lZ PR f id).asg).isEmpty&&(aN (lZ PR f id).body).isEmpty&&(bP (lZ PR f id).asg).isEmpty&&(bP (lZ PR f id).body).isEmpty&&bW (pI f) (lZ PR f id).asg&&bW (pI f) (lZ PR f id).body
theorem ER {X:XF} {w0:World} (hX:db PR w0 X.cf) {H HN:List (FuncId×bm)} (hdr:PR.follows .mixedOrders=true) (hH:HD X H) (nJ:Jk w0 HN) {f id:Nat} (yH:tH f id=true) (val:Nat->Value) (lo:Nat) (s:S) (post:PX×S->Prop) (hp:Jo H HN f id s post):
  TW PR ⟨val,w0,lo,false⟩ (lZ PR f id).asg s post:=by
 simp only[tH,Bool.and_eq_true] at yH
 exact dQ (kp:=GV X) (T:=⟨val,w0,lo,false⟩) nJ.get (xR hH) hX hdr (kp1:=aK f) _ yH.1.2 (fun d hd=>by rw[List.isEmpty_iff.1 yH.1.1.1.1.1] at hd;cases hd) (fun x hx=>by rw[List.isEmpty_iff.1 yH.1.1.1.2] at hx;cases hx) _ _ hp
theorem AH {X:XF} {w0:World} (hX:db PR w0 X.cf) {H HN:List (FuncId×bm)} (hdr:PR.follows .mixedOrders=true) (hH:HD X H) (nJ:Jk w0 HN) {f id:Nat} (yH:tH f id=true) (val:Nat->Value) (lo:Nat) (s:S) (post:PX×S->Prop) (hp:Cy H HN f id s post):
  TW PR ⟨val,w0,lo,false⟩ (lZ PR f id).body s post:=by
 simp only[tH,Bool.and_eq_true] at yH
 exact dQ (kp:=GV X) (T:=⟨val,w0,lo,false⟩) nJ.get (xR hH) hX hdr (kp1:=aK f) _ yH.2 (fun d hd=>by rw[List.isEmpty_iff.1 yH.1.1.1.1.2] at hd;cases hd) (fun x hx=>by rw[List.isEmpty_iff.1 yH.1.1.2] at hx;cases hx) _ _ hp
theorem FN.mk {X:XF} {w0:World} (hX:db PR w0 X.cf) {H HN:List (FuncId×bm)} (hdr:PR.follows .mixedOrders=true) (hH:HD X H) (nJ:Jk w0 HN) {f id base:Nat} {keep:Option (List Nat×List Nat)} (yH:tH f id=true) {hk:FuncId->Nat->List (Nat×xW)}
  (hu: ∀fi yt h yw,lk (hk fi yt) yw=some h->uniq PR fi=true/\LY w0 f id yt fi yw h) {g:S->K (PX×S)} (hg: ∀s post,g s post->vJ H HN hk f id base keep s post):FN w0 f id g:=by
 intro val lo s post hp
 refine TW.rangeFunc (kp:=GV X) (T:=⟨val,w0,lo,true⟩) (xR hH) hX hdr rfl KY (fun v l s post hp=>ER hX hdr hH nJ yH v l s post hp) (fun v l s post hp=>AH hX hdr hH nJ yH v l s post hp) (hk:=hk) ?_ (hg s post hp)
 intro fi fn c eJ hc d hd yt h hh B Ti hs y post hp
 obtain⟨h1,h2⟩:=hu fi yt h _ hh
 have e:bt PR fi (Code.rM d)=d:=by
  unfold uniq at h1
  rw[eJ] at h1
  simp only[hc] at h1
  unfold bt
  rw[eJ]
  simp only[hc,iY _ (dw _ h1) hd,Option.getD_some]
 have:=h2 B Ti hs y post hp
 rwa [e] at this
theorem LY.par {X:XF} {w0:World} (hX:db PR w0 X.cf) {H HN:List (FuncId×bm)} (hdr:PR.follows .mixedOrders=true) (hH:HD X H) (nJ:Jk w0 HN) {f id base:Nat} {keep:Option (List Nat×List Nat)} {yt fi yw:Nat} (yH:tH f id=true) (hc:bW (pI fi) (bt PR fi yw)=true) (oD:(aN (bt PR fi yw)).isEmpty=true) {g:xW}
  {A B:Type} (hd:A->B->S×(PX×S)) (Inv:A->B->Prop) (mu:A->B->Nat) (Out:A->PX×S×(PX×S)->Prop)
  (hr: ∀a b,Inv a b->lg H HN f id base keep yt fi yw (hd a b) (GR (mu a b) (fun m y=> ∃b',y=hd a b'/\Inv a b'/\m=mu a b') (Out a)))
  (hg: ∀y post,g y post-> ∃a b,y=hd a b/\Inv a b/\ ∀x,Out a x->post x):LY w0 f id yt fi yw (dR (aK fi yw) g):=by
 intro Be Ti hs y post hp
 unfold dR at hp
 cases hh:cq (aK fi yw) y.1 with
 |none=>simp only[hh] at hp
 |some s0=>
  simp only[hh] at hp
  obtain⟨a,b,h0,h1,h2⟩:=hg (s0,y.2) post hp
  refine pH.mono (pH.loop (keep:=aK fi yw) (I:=fun m s c=> ∃b',(s,c)=hd a b'/\Inv a b'/\m=mu a b') (O:=Out a) (hs.w0i.trans hs.w0b.symm) (fun n s c hI=> ?_) hh ⟨b,h0,h1,rfl⟩) h2
  obtain⟨b',h3,h4,rfl⟩:=hI
  have:=hr a b' h4
  rw[<-h3] at this
  unfold lg at this
  refine pH.mono (gk (B:=Be) (Ti:=Ti) (kp:=GV X) (xR hH) (by rw[hs.w0i];exact hX) hdr (hs.w0i.trans hs.w0b.symm) hs.Nb hs.yv hs.lp (asg:=Jo H HN f id) (body:=Cy H HN f id) (base:=base) (keep:=keep)
   (fun v l s post hp=>by rw[hs.w0b,hs.asg];exact ER hX hdr hH nJ yH v l s post hp) (fun v l s post hp=>by rw[hs.w0b,hs.body];exact AH hX hdr hH nJ yH v l s post hp)
   (bt PR fi yw) hc (fun d hd=>by rw[List.isEmpty_iff.1 oD] at hd;cases hd) (s,c) _ (by rw[hs.ps];exact this)) ?_
  rintro⟨e,s1,c1⟩ hx
  cases e with
  |normal=>
   obtain⟨s2,h4,m,h5,h6⟩:=KW.dH (p:=fun s2=>cq (aK fi yw) s1=some s2) (fun _ h=>h) _ hx
   exact⟨s2,h4,m,h5,h6⟩
  |exit i=>
   obtain⟨s2,h4,h5⟩:=KW.dH (p:=fun s2=>dt (aK fi yw) s1=some s2) (fun _ h=>h) _ hx
   exact⟨s2,h4,h5⟩
  |ret=>
   obtain⟨s2,h4,h5⟩:=KW.dH (p:=fun s2=>dt (aK fi yw) s1=some s2) (fun _ h=>h) _ hx
   exact⟨s2,h4,h5⟩
variable {X:XF}
theorem LN.idx {w0:World} (hX:db PR w0 X.cf) {H HN:List (FuncId×bm)} {hk:List (Nat×(S->K (PX×S)))} {f id:Nat} {g:S->K (PX×S)} (hdr:PR.follows .mixedOrders=true) (hu:uniq PR f=true) (hc:bW (pI f) (bt PR f id)=true) (hnr:(bP (bt PR f id)).isEmpty=true) (hH:HD X H) (nJ:Jk w0 HN) (hl:U0 w0 f hk)
  {A B:Type} (hd:A->B->Int->S) (len:A->Nat) (Inv:A->Nat->B->Prop) (Out:A->PX×S->Prop)
  (hr: ∀a b (k:Int) post,0<=k->k<len a->k.toNat<len a->Inv a k.toNat b->(∀b',Inv a (k.toNat+1) b'->post (.normal,hd a b' (k+1)))->(∀x,x.1≠ .normal->Out a x->post x)->eP H HN hk f id (hd a b k) post)
  (hx: ∀a b (k:Int) post,k=len a->Inv a (len a) b->(∀x,x.1≠ .normal->Out a x->post x)->eP H HN hk f id (hd a b k) post)
  (hg: ∀s post,g s post-> ∃a b,s=hd a b 0/\Inv a 0 b/\ ∀x,Out a x->post x):LN w0 f id (ae (aK f id) g):=
 LN.par hX hdr hu hc hnr hH nJ hl (A:=A) (B:=B×Int) (fun a b=>hd a b.1 b.2) (fun a b=>0<=b.2/\b.2.toNat<=len a/\Inv a b.2.toNat b.1) (fun a b=>(len a-b.2).toNat) Out
  (by
   rintro a ⟨b,k⟩ ⟨h1,h2,h3⟩
   dsimp only at*
   have cp: ∀x:PX×S,x.1≠ .normal->Out a x->roundPost ((len a-k).toNat) (fun m s=> ∃b':B×Int,s=hd a b'.1 b'.2/\(0<=b'.2/\b'.2.toNat<=len a/\Inv a b'.2.toNat b'.1)/\m=(len a-b'.2).toNat) (Out a) x:=by
    rintro⟨e,s⟩ dz hx
    cases e with
    |normal=>exact absurd rfl dz
    |exit i=>exact hx
    |ret=>exact hx
   by_cases hk:k<len a
   ·refine hr a b k _ h1 hk (by omega) h3 (fun b' hb=> ?_) cp
    exact⟨((len a:Int)-(k+1)).toNat,by omega,(b',k+1),rfl,⟨by show 0<=k+1;omega,by show(k+1).toNat<=len a;omega,by show Inv a (k+1).toNat b';rw[show(k+1).toNat=k.toNat+1 by omega];exact hb⟩,rfl⟩
   ·have e:k=len a:=by omega
    refine hx a b k _ e ?_ cp
    have:k.toNat=len a:=by omega
    rwa [this] at h3)
  (by
   intro s post hp
   obtain⟨a,b,h1,h2,h3⟩:=hg s post hp
   exact⟨a,(b,0),h1,⟨Int.le_refl _,by simp,h2⟩,h3⟩)
theorem xX {α:Type} (lt:α->α->Bool) (l:List α) (a:α):cN lt (l++[a])=dy lt (cN lt l) a:=by simp[cN]
theorem pg {α:Type} (lt:α->α->Bool) (o:List α) (a:α):(dy lt o a).length=o.length+1:=by
 rw[(jQ o a).length_eq]
 simp
theorem pO {α:Type} (lt:α->α->Bool) (l:List α):(cN lt l).length=l.length:=(cW l).length_eq
def uF {α:Type} (o:List α) (k:Nat) (x y:α):List α:=(o.set k y).set (k-1) x
theorem Ls {α:Type} (o:List α) (k:Nat) (x y:α):(uF o k x y).length=o.length:=by simp[uF]
theorem mb {α:Type} (f:α->D) (o:List α) (k:Nat) (x y:α):(((o.map f).set k (f y)).set (k-1) (f x))=(uF o k x y).map f:=by
 simp[uF,List.map_set]
theorem PG {α:Type} (pre nw:List α) (x y:α):uF (pre++[y]++x::nw) (pre.length+1) x y=pre++x::(y::nw):=by
 unfold uF
 have e:pre++[y]++x::nw=(pre++[y])++x::nw:=rfl
 rw[show(pre++[y]++x::nw).set (pre.length+1) y=pre++[y]++y::nw by
  rw[List.set_append_right _ _ (by simp)]
  simp]
 rw[List.append_assoc,List.set_append_right _ _ (by simp)]
 simp
variable {X:XF}
theorem LD.ins {H:List (FuncId×bm)} {hk:List (Nat×(S->K (PX×S)))} {f id:Nat} {g:S->K (PX×S)} (hu:uniq PR f=true) (hc:bW (pI f) (bt PR f id)=true) (hH:HD X H) (hl:OB X f hk)
  {A α:Type} (hd:A->List α->Int->S) (lt:α->α->Bool) (N:A->Nat) (C:A->Prop) (ex:A->List α->PX×S) (dz: ∀a o,(ex a o).1≠ .normal)
  (hr: ∀a o (k:Int) post,C a->0<=k->o.length=N a->N a<=1000001->(eb:k.toNat<o.length)->(k=0->post (ex a o))->(0<k->lt o[k.toNat] (o[k.toNat-1]'(by omega))=false->post (ex a o))->
   (0<k->lt o[k.toNat] (o[k.toNat-1]'(by omega))=true->post (.normal,hd a (uF o k.toNat o[k.toNat] (o[k.toNat-1]'(by omega))) (k-1)))->aF H hk f id (hd a o k) post)
  (hg: ∀s post,g s post-> ∃(a:A) (o:List α) (x:α) (k:Int),s=hd a (o++[x]) k/\k=o.length/\C a/\(o.length+1=N a/\o.length<=1000000)/\post (ex a (dy lt o x))):LD X f id (ae (aK f id) g):=
 LD.par hu hc hH hl (A:=A×List α×α) (B:=List α×List α×Int) (fun a b=>hd a.1 (b.1++a.2.2::b.2.1) b.2.2)
  (fun a b=>(C a.1/\b.1.length+b.2.1.length+1=N a.1)/\b.2.2=b.1.length/\b.1.length+b.2.1.length<=1000000/\(nj lt a.2.2 b.1.reverse).reverse++b.2.1=dy lt a.2.1 a.2.2) (fun _ b=>b.1.length) (fun a x=>x=ex a.1 (dy lt a.2.1 a.2.2))
  (by
   rintro⟨a,o,x⟩ ⟨pre,nw,k⟩ ⟨⟨h1,hN⟩,h2,h3,h4⟩
   dsimp only at*
   have cp: ∀y,y=ex a (dy lt o x)->roundPost pre.length (fun m s=> ∃b':List α×List α×Int,s=hd a (b'.1++x::b'.2.1) b'.2.2/\((C a/\b'.1.length+b'.2.1.length+1=N a)/\b'.2.2=b'.1.length/\b'.1.length+b'.2.1.length<=1000000/\(nj lt x b'.1.reverse).reverse++b'.2.1=dy lt o x)/\m=b'.1.length) (fun y=>y=ex a (dy lt o x)) y:=by
    rintro⟨e,s⟩ he
    have hn:=dz a (dy lt o x)
    rw[<-he] at hn
    cases e with
    |normal=>exact absurd rfl hn
    |exit i=>exact he
    |ret=>exact he
   have eb:k.toNat=pre.length:=by omega
   have hlen:(pre++x::nw).length=pre.length+nw.length+1:=by simp;omega
   have hx:(pre++x::nw)[k.toNat]'(by omega)=x:=by simp[eb]
   refine hr a (pre++x::nw) k _ h1 (by omega) (by omega) (by omega) (by omega) (fun hz=>cp _ ?_) (fun hp bk=>cp _ ?_) fun hp bk=> ?_
   ·have:pre=[]:=List.eq_nil_of_length_eq_zero (by omega)
    subst this
    rw[<-h4]
    simp[nj]
   ·obtain⟨p,y,rfl⟩: ∃p y,pre=p++[y]:=by
     rcases List.eq_nil_or_concat pre with h | ⟨p,y,h⟩
     ·subst h;simp at h2;omega
     ·exact⟨p,y,by simpa using h⟩
    have hy:(p++[y]++x::nw)[k.toNat-1]'(by omega)=y:=by
     simp[eb]
    rw[hx,hy] at bk
    rw[<-h4]
    simp[nj,bk]
   ·obtain⟨p,y,rfl⟩: ∃p y,pre=p++[y]:=by
     rcases List.eq_nil_or_concat pre with h | ⟨p,y,h⟩
     ·subst h;simp at h2;omega
     ·exact⟨p,y,by simpa using h⟩
    have hy:(p++[y]++x::nw)[k.toNat-1]'(by omega)=y:=by
     simp[eb]
    have hsw:uF (p++[y]++x::nw) k.toNat x y=p++x::(y::nw):=by
     rw[eb,List.length_append]
     exact PG p nw x y
    have Ei:(p++[y]).length=p.length+1:=by simp
    rw[hx,hy] at bk⊢
    refine⟨p.length,by omega,(p,y::nw,k-1),by rw[hsw],⟨⟨h1,by show p.length+(y::nw).length+1=N a;simp only[List.length_cons];omega⟩,by show k-1=(p.length:Int);omega,by show p.length+(y::nw).length<=1000000;simp only[List.length_cons];omega,?_⟩,rfl⟩
    show(nj lt x p.reverse).reverse++y::nw=dy lt o x
    rw[<-h4]
    simp[nj,bk])
  (by
   intro s post hp
   obtain⟨a,o,x,k,h1,h2,h3,⟨h6,h4⟩,h5⟩:=hg s post hp
   refine⟨(a,o,x),(o,[],k),h1,⟨⟨h3,by simpa using h6⟩,h2,by simpa using h4,by simp[dy]⟩,?_⟩
   rintro y rfl
   exact h5)
end Pi
