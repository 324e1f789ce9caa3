/- The texts X3Shelf XBld K3 X3 S3 StPure St1 St1H StV2 StV2H StV3H StV4 StV4H St5 St5H StTextP St7 St7H PathP StL2H P1 P1H P2H P3 P3H A2 A2H A3 A4 A4H B1 B2H T1 T1H P4 T2 T2H T3 T3H TrA TrB WiP WiU Wi0 Wi0H LdP Wi1 Wi1H Wi2 Wi2H Wi3 Wi3H Wi4 Wi4H EfP HiP SN SoP Hi1 QP. -/
import Derived.Test.YtdgkdigdflkjhaaGreatDoorPiYr
import Derived.Shelf.SlLaysF0
import Derived.Shelf.LaysM
import Derived.Shelf.LaysC
import Derived.Shelf.Strings.OnBuilder
import Derived.Shelf.Strings.SlTrimAscii
import Derived.Shelf.Small.Wraps
import Derived.Shelf.Strconv.AtoiAll
import Derived.Shelf.Strconv.Itoa3
import Derived.Shelf.Strings.Cut
import Derived.Shelf.Strings.Split
import Derived.Shelf.Strings.LastIndexAll
import Derived.Shelf.Unicode.ValidAny
import Derived.Shelf.Utf8.RuneCount
import Derived.Test.YtdgkdigdflkjhaaGreatDoorProg
import Derived.Ground.SlsfProg
import Derived.KernelRfl
import Derived.Lib.SplitLaws
import Derived.Lib.SlTrimSet
import Derived.Lib.ValidLaws
import Derived.Lib.RuneCountTail
import Derived.Lib.MapLaws
namespace Go.Proofs
open Go.Shelf
theorem lY{P f B}(h:(match P.funcs[f]? with |some g=>g.name== "runtime.NumGoroutine" |none=>true)=false)(h2:P.funcs[f]?=(P.funcs[f]?).map λg=>{B with name:=g.name}):Bears P f B:=by
 cases e:P.funcs[f]? with
 |none=>rw[e] at h;cases h
 |some g=>rw[e] at h h2;exact⟨g.name,h,e.trans h2⟩
def Tryz.xv:Go.Shelf.Ren:=⟨λ|169=>135 |n=>n,λ|70=>225 |9=>9 |0=>0 |72=>228 |37=>226 |127=>273 |3=>3 |5=>5 |n=>n,λ|n=>n⟩
theorem Tryz.qaP:Go.Proofs.Lays.n169 Tryz.prog Tryz.xv:=by constructor<;>first | (refine lY ?_ ?_<;>kernel_rfl)|kernel_rfl | (intro _;kernel_rfl)
theorem Tryz.uP:Builder.Extra Tryz.prog Tryz.xv:={
 sizeBuilder:=by kernel_rfl
 liesBuilder:=by kernel_rfl
 t5:=Tryz.underlying5
 a5:=Tryz.isAgg5
 z5:=Tryz.sizeOf5
 v5:=Tryz.zeroValue5
 infoByte:=by kernel_rfl
 cellsByte:=by kernel_rfl
 sizeByte:=by kernel_rfl
 neB5:=by decide}
open Go.RowKit in
theorem Tryz.Builder_String(B b:Nat)(l:List UInt8)(w:World)(h:Lib.IsBuilder 228 5 B b (Lib.byteCells l) w)(h0:l≠[]):
 Calls Tryz.prog 135 #[.pointer (some ⟨b,0,none⟩)] w λe w'=>e= .returned (.string ⟨l.toArray⟩)/\Below B w w':=Any.Builder_String Tryz.qaP Tryz.uP B b l w h h0
def Tryz.xw:Go.Shelf.Ren:=⟨λ|156=>169 |165=>234 |166=>134 |169=>135 |240=>180 |241=>265 |276=>246 |277=>286 |n=>n,λ|31=>220 |9=>9 |3=>3 |4=>4 |0=>0 |20=>20 |72=>228 |76=>231 |70=>225 |37=>226 |75=>230 |127=>273 |164=>326 |5=>5 |80=>233 |n=>n,λ|n=>n⟩
theorem Tryz.Ob:Go.Proofs.Lays.n156 Tryz.prog Tryz.xw:=by constructor<;>first | (refine lY ?_ ?_<;>kernel_rfl)|kernel_rfl | (intro _;kernel_rfl)
theorem Tryz.mX:Builder.Extra Tryz.prog Tryz.xw:={
 sizeBuilder:=by kernel_rfl
 liesBuilder:=by kernel_rfl
 t5:=Tryz.underlying5
 a5:=Tryz.isAgg5
 z5:=Tryz.sizeOf5
 v5:=Tryz.zeroValue5
 infoByte:=by kernel_rfl
 cellsByte:=by kernel_rfl
 sizeByte:=by kernel_rfl
 neB5:=by decide}
open Go.RowKit in
theorem Tryz.strings_Join_none(a:Option Addr)(c:Nat)(sep:ByteArray)(w:World):
 Calls Tryz.prog 169 #[.slice a 0 c,.string sep] w λe w'=>e= .returned (.string ⟨#[]⟩)/\w'=w:=Any.strings_Join_none Tryz.Ob Tryz.mX a c sep w
open Go.RowKit in
theorem Tryz.strings_Join(bk o c:Nat)(xs:List ByteArray)(sep:ByteArray)(w:World)(qfT: ∀(j:Nat) x,xs[j]?=some x->w.cell? ⟨bk,o+j,none⟩=some (.string x))(hbk:bk<w.heap.size)(hN:xs.length<=140737488355328)(vU:xs.length<=c)(hlen:(Lib.join (xs.map (·.data.toList)) sep.data.toList).length<=140737488355328):
 Calls Tryz.prog 169 #[.slice (some ⟨bk,o,none⟩) xs.length c,.string sep] w λe w'=>e= .returned (.string ⟨(Lib.join (xs.map (·.data.toList)) sep.data.toList).toArray⟩)/\Below w.heap.size w w':=Any.strings_Join Tryz.Ob Tryz.mX bk o c xs sep w qfT hbk hN vU hlen
def Tryz.I4:Go.Shelf.Ren:=⟨λ|160=>153 |232=>205 |231=>204 |227=>206 |234=>208 |233=>207 |236=>210 |235=>209 |228=>253 |271=>256 |151=>255 |197=>254 |120=>282 |152=>281 |260=>280 |137=>291 |119=>292 |224=>293 |225=>294 |217=>300 |266=>305 |n=>n,λ|9=>9 |4=>4 |3=>3 |5=>5 |117=>292 |116=>291 |0=>0 |124=>295 |21=>21 |105=>332 |46=>211 |119=>297 |139=>300 |138=>299 |n=>n,λ|3=>0 |4=>1 |n=>n⟩
theorem Tryz.Oc:Go.Proofs.Lays.n160 Tryz.prog Tryz.I4:=by constructor<;>first | (refine lY ?_ ?_<;>kernel_rfl)|kernel_rfl | (intro _;kernel_rfl)
open Go.RowKit in
theorem Tryz.strings_Trim_one(s:ByteArray)(c:UInt8)(hc:c.toNat<128)(w:World)(hs:s.size<=9223372036854775807):
 Calls Tryz.prog 153 #[.string s,.string ⟨#[c]⟩] w λe w'=>e= .returned (.string ⟨(Lib.trimB s.data.toList c).toArray⟩)/\(w'=w\/w'=w.drew):=Any.strings_Trim_one Tryz.Oc s c hc w hs
def Tryz.I5:Go.Shelf.Ren:=⟨λ|195=>155 |n=>n,λ|9=>9 |3=>3 |0=>0 |4=>4 |n=>n,λ|n=>n⟩
theorem Tryz.qaQ:Go.Proofs.Lays.n195 Tryz.prog Tryz.I5:=by constructor<;>first | (refine lY ?_ ?_<;>kernel_rfl)|kernel_rfl | (intro _;kernel_rfl)
open Go.RowKit in
theorem Tryz.utf8_RuneCountInString(s:ByteArray)(w:World)(hs:s.size<9223372036854775807):
 Calls Tryz.prog 155 #[.string s] w λe w'=>e= .returned (.int .i64 (Lib.runeCount s))/\ ∃pos,w'=w.iter s pos:=Any.utf8_RuneCountInString Tryz.qaQ s w hs
def Tryz.FT:Go.Shelf.Ren:=⟨λ|171=>233 |243=>264 |246=>285 |283=>295 |284=>296 |285=>297 |286=>298 |129=>167 |317=>301 |318=>302 |319=>303 |320=>304 |337=>306 |338=>307 |n=>n,λ|3=>3 |9=>9 |2=>2 |4=>4 |171=>361 |0=>0 |53=>264 |37=>226 |5=>5 |173=>363 |212=>367 |51=>262 |20=>20 |213=>368 |46=>211 |232=>369 |233=>370 |n=>n,λ|17=>3 |18=>4 |19=>5 |n=>n⟩
theorem Tryz.UY:Go.Proofs.LaysM.n171 Tryz.prog Tryz.FT:=by constructor<;>first | (refine lY ?_ ?_<;>kernel_rfl)|kernel_rfl | (intro _;kernel_rfl)| (constructor<;>first |kernel_rfl | (intro _;kernel_rfl))
open Go.RowKit Go.Sort Go.Lib in
theorem Tryz.strconv_Itoa(n:Int)(h0: -9223372036854775808<=n)(h1:n<=9223372036854775807)(w:World)(I6:Lib.TabIs Tryz.prog w "internal/strconv.uint64pow10" .u64 Lib.pow10Tab):
 Calls Tryz.prog 233 #[.int .i64 n] w λe w'=>e= .returned (.string ⟨(Lib.itoa n).toArray⟩)/\ ∃k os,w'=grow (w.drewN k) os:=Any.strconv_Itoa Tryz.UY n h0 h1 w I6
def Tryz.I7:Go.Shelf.Ren:=⟨λ|196=>154 |259=>211 |n=>n,λ|9=>9 |4=>4 |3=>3 |5=>5 |12=>12 |119=>297 |0=>0 |46=>211 |139=>300 |138=>299 |53=>264 |n=>n,λ|3=>0 |4=>1 |n=>n⟩
theorem Tryz.qaR:Go.Proofs.Lays.n196 Tryz.prog Tryz.I7:=by constructor<;>first | (refine lY ?_ ?_<;>kernel_rfl)|kernel_rfl | (intro _;kernel_rfl)
open Go.RowKit in
theorem Tryz.utf8_ValidString(s:ByteArray)(w:World)(hs:s.size<=9223372036854775807)(hT:Lib.Utf8Tabs 0 1 w):
 Calls Tryz.prog 154 #[.string s] w λe w'=>e= .returned (.bool (Lib.validD s.data.toList))/\Below w.heap.size w w':=Any.utf8_ValidString Tryz.qaR s w hs hT
def Tryz.AH:Go.Shelf.Ren:=⟨λ|6=>76 |15=>123 |14=>122 |28=>166 |29=>167 |20=>158 |21=>159 |22=>160 |23=>161 |24=>162 |25=>163 |26=>164 |27=>165 |46=>228 |47=>229 |48=>230 |49=>231 |50=>232 |57=>263 |n=>n,λ|22=>70 |24=>108 |25=>156 |3=>3 |39=>211 |0=>0 |53=>262 |55=>264 |4=>4 |46=>255 |45=>254 |50=>259 |5=>5 |9=>9 |66=>311 |70=>315 |76=>339 |77=>340 |n=>n,λ|n=>n⟩
theorem Tryz.qfU:Go.Proofs.SlLaysF0.n6 Tryz.prog Tryz.AH:=by constructor<;>first | (refine lY ?_ ?_<;>kernel_rfl)|kernel_rfl | (intro _;kernel_rfl)
def Tryz.AI:Go.Shelf.Ren:=⟨λ|6=>84 |15=>123 |14=>129 |28=>166 |29=>167 |20=>170 |21=>171 |22=>172 |23=>173 |24=>174 |25=>175 |26=>176 |27=>177 |46=>235 |47=>229 |48=>230 |49=>236 |50=>237 |57=>266 |n=>n,λ|22=>63 |24=>66 |25=>168 |3=>3 |39=>211 |0=>0 |53=>262 |55=>264 |4=>4 |46=>255 |45=>254 |50=>259 |5=>5 |9=>9 |66=>311 |70=>315 |76=>339 |77=>340 |n=>n,λ|n=>n⟩
theorem Tryz.qfV:Go.Proofs.SlLaysF0.n6 Tryz.prog Tryz.AI:=by constructor<;>first | (refine lY ?_ ?_<;>kernel_rfl)|kernel_rfl | (intro _;kernel_rfl)
def Tryz.xx:Go.Shelf.Ren:=⟨λ|6=>118 |15=>123 |14=>156 |28=>166 |29=>167 |20=>212 |21=>213 |22=>214 |23=>215 |24=>216 |25=>217 |26=>218 |27=>219 |46=>257 |47=>229 |48=>230 |49=>258 |50=>259 |57=>283 |n=>n,λ|22=>141 |24=>143 |25=>206 |3=>3 |39=>211 |0=>0 |53=>262 |55=>264 |4=>4 |46=>255 |45=>254 |50=>259 |5=>5 |9=>9 |66=>311 |70=>315 |76=>339 |77=>340 |n=>n,λ|n=>n⟩
theorem Tryz.qaS:Go.Proofs.SlLaysF0.n6 Tryz.prog Tryz.xx:=by constructor<;>first | (refine lY ?_ ?_<;>kernel_rfl)|kernel_rfl | (intro _;kernel_rfl)
def Tryz.xy:Go.Shelf.Ren:=⟨λ|6=>120 |15=>123 |14=>157 |28=>166 |29=>167 |20=>220 |21=>221 |22=>222 |23=>223 |24=>224 |25=>225 |26=>226 |27=>227 |46=>260 |47=>229 |48=>230 |49=>261 |50=>262 |57=>284 |n=>n,λ|22=>148 |24=>151 |25=>208 |3=>3 |39=>211 |0=>0 |53=>262 |55=>264 |4=>4 |46=>255 |45=>254 |50=>259 |5=>5 |9=>9 |66=>311 |70=>315 |76=>339 |77=>340 |n=>n,λ|n=>n⟩
theorem Tryz.qaT:Go.Proofs.SlLaysF0.n6 Tryz.prog Tryz.xy:=by constructor<;>first | (refine lY ?_ ?_<;>kernel_rfl)|kernel_rfl | (intro _;kernel_rfl)
def Tryz.xA:Go.Shelf.Ren:=⟨λ|6=>132 |15=>123 |14=>179 |28=>166 |29=>167 |20=>238 |21=>239 |22=>240 |23=>241 |24=>242 |25=>243 |26=>244 |27=>245 |46=>267 |47=>229 |48=>230 |49=>268 |50=>269 |57=>287 |n=>n,λ|22=>50 |24=>49 |25=>155 |3=>3 |39=>211 |0=>0 |53=>262 |55=>264 |4=>4 |46=>255 |45=>254 |50=>259 |5=>5 |9=>9 |66=>311 |70=>315 |76=>339 |77=>340 |n=>n,λ|n=>n⟩
theorem Tryz.qaU:Go.Proofs.SlLaysF0.n6 Tryz.prog Tryz.xA:=by constructor<;>first | (refine lY ?_ ?_<;>kernel_rfl)|kernel_rfl | (intro _;kernel_rfl)
end Go.Proofs
namespace Pi
open Go Go.Proofs Go.RowKit Go.Shelf
section
variable{w0:World}
theorem fX.drew{T F G w}{R}(h:fX Tryz.prog T F G w R):fX Tryz.prog T F G w.drew R:=by have hn:Names G G R R:=Names.refl G R;exact⟨h.s7,h.size,λt p hp=>by simp[lk] at hp,λn e he=>(h.rg n e he).mono (λ_ h=>h) (λ_ _=>rfl) hn rfl (λ_ _=>rfl),h.own,h.nA,h.jE,h.tag,h.z,Nat.le_succ_of_le h.dr,h.sz⟩
end
end Pi
namespace Pi
open Go Go.Proofs
set_option maxRecDepth 100000
set_option maxHeartbeats 0
def qiP:=[(3,[(7,[1,5,6,7,8],[5,6,7])]),
 (5,[(10,[3,5,6,7,8],[3,5,7]),(18,[3,5,7,10,11],[2,3,7,10])]),
 (6,[(6,[3,4,5],[2,3]),(12,[3,4,5,6,7],[3,4,5,6]),(18,[3,4,5,6,8,9],[3,4,5,8])]),
 (9,[(3,[0,3,4],[3])]),
 (10,[(4,[0,1,5],[4])]),
 (11,[(4,[3,4,12,13,14],[4])]),
 (12,[(4,[0,1,5],[4])]),
 (14,[(2,[0,3,5],[0,4])]),
 (15,[(3,[0,3,4],[3])]),
 (16,[(2,[0,3,5],[0,4])]),
 (17,[(4,[3,4,5],[4]),(8,[3,4,5,6,7],[3,4,5,6]),(15,[4,8,9],[8])]),
 (18,[(3,[0,3,4],[3])]),
 (20,[(3,[0,1,5,6],[5]),(6,[0,1,5,6,7],[0,1,5,6])]),
 (21,[(10,[0,5,9,10],[0,4])]),
 (23,[(5,[2,3,4,5,6,7],[2,3,4,5,6])]),
 (24,[(5,[3,4,5,6,20,21,22],[3,5,6]),(15,[3,71,72,73],[3]),(20,[3,87,88,89],[3])]),
 (25,[(4,[0,1,3,18,19,20],[0,1,3])]),
 (26,[(3,[0,3,6,7,17,18,19],[0,6,7]),(6,[0,3,6,7,9,17,18,19,24,25,26],[0,3,6,7,17,18,19])]),
 (27,[(3,[0,3,4],[3]),(7,[0,3,4,5,6],[0,3,4,5]),(13,[0,3,4,7],[0,3,4])]),
 (28,[(7,[0,2,3,4,5,6],[0,2,3,4,5]),(11,[0,2,3,4,5,6,7,8],[0,2,3,4,5,6]),(20,[0,2,3,4,5,6,7,8,9,10],[0,2,3,4,5,6,7,8])]),
 (31,[(4,[0,1,5],[4])]),
 (32,[(3,[0,3,4],[3])]),
 (33,[(3,[0,3,4],[3])]),
 (35,[(3,[0,1,5,7,8],[7]),(8,[0,1,5,7,8,9],[0,1,5,7,8])]),
 (37,[(4,[0,3,4,5],[4])]),
 (38,[(3,[0,1,5,6],[5])]),
 (39,[(3,[0,1,5,6],[5])]),
 (42,[(5,[0,1,2,8,9],[8])]),
 (43,[(11,[3,48,49,50],[2])]),
 (45,[(3,[0,3,4,14,15,16],[0]),(13,[0,3,4,6,14,15,16,95,96,97],[0,3,4,14,15,16])]),
 (46,[(3,[5,17,18,19],[5]),(14,[11,60],[11])]),
 (47,[(5,[0,1,5,6],[0,1,5])]),
 (49,[(6,[5,6,27],[6])]),
 (50,[(3,[5,11],[5])]),
 (52,[(3,[0,2,8,9,16,17,18],[0,2,8,9]),(8,[0,8,9,29,30,31],[0,8,9])]),
 (54,[(3,[0,3,4],[3])]),
 (55,[(3,[0,1,5,6],[5]),(6,[0,1,5,6,7],[0,1,5,6]),(9,[0,1,5,6,7,8],[0,1,5,6,7])]),
 (56,[(4,[5,6,7],[6]),(14,[5,6,7,10],[5,6,7])]),
 (57,[(4,[1,5,6,7],[6]),(9,[1,5,6,7,9],[1,5,6,7])]),
 (58,[(3,[0,1,5,6],[5]),(9,[0,1,5,6,8],[0,1,5,6])]),
 (59,[(4,[1,2,7,8,9],[8])]),
 (60,[(3,[0,3,5,6],[5]),(6,[0,3,5,6,7],[0,3,5,6])]),
 (61,[(3,[0,1,5,7,8],[7]),(6,[0,1,5,7,8,9],[0,1,5,7,8])]),
 (62,[(3,[5,7,13],[7])]),
 (63,[(2,[0,3,5],[4])]),
 (64,[(2,[0,3],[0,3])]),
 (66,[(4,[5,6,7],[6]),(8,[5,6,7,8],[5,6,7])]),
 (72,[(3,[0,1,5,6,14,15],[5])]),
 (73,[(1,[0,2,3],[0])]),
 (74,[(3,[0,1,5,6,14,15],[5])]),
 (75,[(2,[0,5,6,11,12],[0,8])]),
 (79,[(2,[0,1,7,8],[0,1,4])]),
 (80,[(3,[1,5,18,19,20],[1,5]),(10,[5,54,55,56],[5])]),
 (81,[(1,[0,13],[0]),(6,[0,13,26,27,28],[0,13])]),
 (82,[(2,[0,2,9,10,11],[0])]),
 (83,[(4,[0,5,7,19,20,21],[0,7])]),
 (87,[(3,[1,5,11,12,13],[1,5]),(8,[5,21,22,23],[5])]),
 (90,[(4,[4,5,11,12,13],[4,5])]),
 (91,[(5,[0,1,5,6],[0,1,5])]),
 (92,[(3,[3,4,5],[4])]),
 (94,[(11,[1,3,4],[2])]),
 (95,[(3,[0,1,5,6],[5]),(7,[0,1,5,6,7,8],[0,1,5,6,7]),(13,[0,1,5,6,9],[0,1,5,6])]),
 (96,[(2,[0,4,5,7],[0,6])]),
 (97,[(2,[0,3,5],[0,4])]),
 (99,[(4,[0,1,5,6],[5]),(8,[0,1,5,6,7,8],[0,1,5,6,7])]),
 (100,[(2,[0,3,5],[5])]),
 (101,[(2,[0,3,5],[0,4])]),
 (102,[(4,[3,4,5],[4])]),
 (104,[(3,[0,3,4],[3]),(8,[0,3,4,5,7,8],[0,3,4]),(13,[0,3,4,5,7,8,9,10,11],[0,3,4,5,7,8,9,10])]),
 (105,[(2,[0,5,6,7],[0,2])]),
 (107,[(3,[3,6,7,8],[2,3])]),
 (114,[(2,[0,1,7,8,9],[0,1,4])]),
 (116,[(2,[0,1,7,8,9],[0,1,4])]),
 (117,[(1,[0,1,3],[0,1])]),
 (122,[(2,[0,1,2,3,4,10,11],[4])]),
 (125,[(3,[0,3,6,15,16],[0,4,5])]),
 (126,[(3,[0,3,15],[0,3])]),
 (129,[(2,[0,1,2,3,4,10,11],[4])]),
 (133,[(1,[0,1,5],[0,1])]),
 (136,[(2,[0,1,7,8],[0,1,4])]),
 (137,[(3,[3,4,19,20,21],[3]),(8,[3,4,9,10,19,20,21,35,36,37],[3,4,19,20,21]),(18,[3,69],[3])]),
 (140,[(2,[0,3],[0,2])]),
 (143,[(3,[0,3,4],[3])]),
 (144,[(2,[0,3,5],[4])]),
 (145,[(2,[0,3,5],[3,4])]),
 (146,[(3,[0,3,5,6],[5]),(8,[0,3,5,6,7],[0,3,5,6])]),
 (147,[(2,[0,1,2,3,4,10,11],[4])]),
 (148,[(2,[0,4],[2,3,4])]),
 (154,[(1,[0],[2]),(9,[0],[0])]),
 (155,[(2,[2,4],[2])]),
 (156,[(2,[0,1,2,3,4,10,11],[4])]),
 (157,[(2,[0,1,2,3,4,10,11],[4])]),
 (158,[(1,[0,1,2,3,8],[3]),(4,[0,1,2,3,8,9],[0,1,2,3,8])]),
 (159,[(4,[0,3,8,9,10,11],[0,3,8,9,10]),(8,[0,3,8,9,12],[3])]),
 (160,[(5,[0,1,3,8,9,10,11],[3])]),
 (162,[(2,[0,3,8,9],[3])]),
 (163,[(3,[0,1,2,3,9,10],[3,8]),(5,[0,1,2,3,9,10],[0,1,2,3,9,10]),(14,[0,1,2,3,9,10,11],[0,1,2,3,9,10]),(20,[0,1,2,3,9,10,12],[0,1,2,3,9,10])]),
 (164,[(3,[0,1,4,11,12],[4,11]),(3,[0,1,4,11,12],[0,1,4,11,12]),(5,[0,1,4,11,12],[0,1,4,11,12])]),
 (165,[(3,[0,1,4,12,13],[0,1,4,12,13]),(5,[0,1,4,12,13],[0,1,4,12,13]),(13,[0,1,4,12,13],[0,1,4,13]),(13,[0,1,4,12,13],[0,1,4,12,13]),(15,[0,1,4,12,13],[0,1,4,12,13])]),
 (169,[(12,[0,1,5,39,40,41],[0,1,5]),(22,[1,8,63,64,65],[8])]),
 (170,[(1,[0,1,2,3,8],[3]),(4,[0,1,2,3,8,9],[0,1,2,3,8])]),
 (171,[(4,[0,3,8,9,10,11],[0,3,8,9,10]),(8,[0,3,8,9,12],[3])]),
 (172,[(5,[0,1,3,8,9,10,11],[3])]),
 (174,[(2,[0,3,8,9],[3])]),
 (175,[(3,[0,1,2,3,9,10],[3,8]),(5,[0,1,2,3,9,10],[0,1,2,3,9,10]),(14,[0,1,2,3,9,10,11],[0,1,2,3,9,10]),(20,[0,1,2,3,9,10,12],[0,1,2,3,9,10])]),
 (176,[(3,[0,1,4,11,12],[4,11]),(3,[0,1,4,11,12],[0,1,4,11,12]),(5,[0,1,4,11,12],[0,1,4,11,12])]),
 (177,[(3,[0,1,4,12,13],[0,1,4,12,13]),(5,[0,1,4,12,13],[0,1,4,12,13]),(13,[0,1,4,12,13],[0,1,4,13]),(13,[0,1,4,12,13],[0,1,4,12,13]),(15,[0,1,4,12,13],[0,1,4,12,13])]),
 (179,[(2,[0,1,2,3,4,10,11],[4])]),
 (181,[(5,[4,12],[4])]),
 (184,[(4,[0,1,5],[4])]),
 (186,[(4,[0,3],[2])]),
 (189,[(2,[1,2,5],[1,4])]),
 (191,[(2,[1,2,3,7],[1,6])]),
 (194,[(1,[0,1,2,3,8],[3]),(4,[0,1,2,3,8,9],[0,1,2,3,8])]),
 (195,[(4,[0,3,8,9,10,11],[0,3,8,9,10]),(8,[0,3,8,9,12],[3])]),
 (196,[(5,[0,1,3,8,9,10,11],[3])]),
 (198,[(2,[0,3,8,9],[3])]),
 (199,[(3,[0,1,2,3,9,10],[3,8]),(5,[0,1,2,3,9,10],[0,1,2,3,9,10]),(14,[0,1,2,3,9,10,11],[0,1,2,3,9,10]),(20,[0,1,2,3,9,10,12],[0,1,2,3,9,10])]),
 (200,[(3,[0,1,4,11,12],[4,11]),(3,[0,1,4,11,12],[0,1,4,11,12]),(5,[0,1,4,11,12],[0,1,4,11,12])]),
 (201,[(3,[0,1,4,12,13],[0,1,4,12,13]),(5,[0,1,4,12,13],[0,1,4,12,13]),(13,[0,1,4,12,13],[0,1,4,13]),(13,[0,1,4,12,13],[0,1,4,12,13]),(15,[0,1,4,12,13],[0,1,4,12,13])]),
 (202,[(16,[0,5,7,8],[2,3,4,5,7])]),
 (203,[(1,[0],[0])]),
 (204,[(1,[0,1],[0])]),
 (205,[(1,[0,1],[0])]),
 (206,[(2,[0,2,4],[2,3])]),
 (207,[(1,[0,1],[0,1])]),
 (208,[(1,[0,1],[0,1])]),
 (209,[(1,[0,1],[0])]),
 (210,[(1,[0,1],[0])]),
 (212,[(1,[0,1,2,3,8],[3]),(4,[0,1,2,3,8,9],[0,1,2,3,8])]),
 (213,[(4,[0,3,8,9,10,11],[0,3,8,9,10]),(8,[0,3,8,9,12],[3])]),
 (214,[(5,[0,1,3,8,9,10,11],[3])]),
 (216,[(2,[0,3,8,9],[3])]),
 (217,[(3,[0,1,2,3,9,10],[3,8]),(5,[0,1,2,3,9,10],[0,1,2,3,9,10]),(14,[0,1,2,3,9,10,11],[0,1,2,3,9,10]),(20,[0,1,2,3,9,10,12],[0,1,2,3,9,10])]),
 (218,[(3,[0,1,4,11,12],[4,11]),(3,[0,1,4,11,12],[0,1,4,11,12]),(5,[0,1,4,11,12],[0,1,4,11,12])]),
 (219,[(3,[0,1,4,12,13],[0,1,4,12,13]),(5,[0,1,4,12,13],[0,1,4,12,13]),(13,[0,1,4,12,13],[0,1,4,13]),(13,[0,1,4,12,13],[0,1,4,12,13]),(15,[0,1,4,12,13],[0,1,4,12,13])]),
 (220,[(1,[0,1,2,3,8],[3]),(4,[0,1,2,3,8,9],[0,1,2,3,8])]),
 (221,[(4,[0,3,8,9,10,11],[0,3,8,9,10]),(8,[0,3,8,9,12],[3])]),
 (222,[(5,[0,1,3,8,9,10,11],[3])]),
 (224,[(2,[0,3,8,9],[3])]),
 (225,[(3,[0,1,2,3,9,10],[3,8]),(5,[0,1,2,3,9,10],[0,1,2,3,9,10]),(14,[0,1,2,3,9,10,11],[0,1,2,3,9,10]),(20,[0,1,2,3,9,10,12],[0,1,2,3,9,10])]),
 (226,[(3,[0,1,4,11,12],[4,11]),(3,[0,1,4,11,12],[0,1,4,11,12]),(5,[0,1,4,11,12],[0,1,4,11,12])]),
 (227,[(3,[0,1,4,12,13],[0,1,4,12,13]),(5,[0,1,4,12,13],[0,1,4,12,13]),(13,[0,1,4,12,13],[0,1,4,13]),(13,[0,1,4,12,13],[0,1,4,12,13]),(15,[0,1,4,12,13],[0,1,4,12,13])]),
 (228,[(1,[0,2,3,4,10],[4])]),
 (235,[(1,[0,2,3,4,10],[4])]),
 (238,[(1,[0,1,2,3,8],[3]),(4,[0,1,2,3,8,9],[0,1,2,3,8])]),
 (239,[(4,[0,3,8,9,10,11],[0,3,8,9,10]),(8,[0,3,8,9,12],[3])]),
 (240,[(5,[0,1,3,8,9,10,11],[3])]),
 (242,[(2,[0,3,8,9],[3])]),
 (243,[(3,[0,1,2,3,9,10],[3,8]),(5,[0,1,2,3,9,10],[0,1,2,3,9,10]),(14,[0,1,2,3,9,10,11],[0,1,2,3,9,10]),(20,[0,1,2,3,9,10,12],[0,1,2,3,9,10])]),
 (244,[(3,[0,1,4,11,12],[4,11]),(3,[0,1,4,11,12],[0,1,4,11,12]),(5,[0,1,4,11,12],[0,1,4,11,12])]),
 (245,[(3,[0,1,4,12,13],[0,1,4,12,13]),(5,[0,1,4,12,13],[0,1,4,12,13]),(13,[0,1,4,12,13],[0,1,4,13]),(13,[0,1,4,12,13],[0,1,4,12,13]),(15,[0,1,4,12,13],[0,1,4,12,13])]),
 (247,[(2,[0,1,2,3,4,10,11],[4])]),
 (250,[(1,[0,2,3,4,10],[4])]),
 (256,[(10,[0,4,5,6],[0,4,5])]),
 (257,[(1,[0,2,3,4,10],[4])]),
 (260,[(1,[0,2,3,4,10],[4])]),
 (267,[(1,[0,2,3,4,10],[4])]),
 (270,[(1,[0,1,2,3,8],[3]),(4,[0,1,2,3,8,9],[0,1,2,3,8])]),
 (271,[(4,[0,3,8,9,10,11],[0,3,8,9,10]),(8,[0,3,8,9,12],[3])]),
 (272,[(5,[0,1,3,8,9,10,11],[3])]),
 (274,[(2,[0,3,8,9],[3])]),
 (275,[(3,[0,1,2,3,9,10],[3,8]),(5,[0,1,2,3,9,10],[0,1,2,3,9,10]),(14,[0,1,2,3,9,10,11],[0,1,2,3,9,10]),(20,[0,1,2,3,9,10,12],[0,1,2,3,9,10])]),
 (276,[(3,[0,1,4,11,12],[4,11]),(3,[0,1,4,11,12],[0,1,4,11,12]),(5,[0,1,4,11,12],[0,1,4,11,12])]),
 (277,[(3,[0,1,4,12,13],[0,1,4,12,13]),(5,[0,1,4,12,13],[0,1,4,12,13]),(13,[0,1,4,12,13],[0,1,4,13]),(13,[0,1,4,12,13],[0,1,4,12,13]),(15,[0,1,4,12,13],[0,1,4,12,13])]),
 (278,[(4,[0,3],[0,3])]),
 (281,[(38,[175],[4]),(5,[0,7,8,9],[4]),(12,[0,7,8,9,12],[8,9]),(25,[0,7,8,9,14,15],[4]),(29,[0,7,8,9,14,15,16],[0,7,8,9,14,15])]),
 (288,[(1,[0,2,3,4,10],[4])]),
 (297,[(1,[0,1,4],[0,1,4])]),
 (298,[(11,[0,1,3,4,10,11,12,13,14,15,16],[0,1,3,4,10,11,12,13]),(18,[0,1,3,4,10,11,12,13,17],[0,1,3,4,10,11,12,13])])]
def qfW:=[(4,[(8,1),(16,1)]),
 (8,[(5,4)]),
 (21,[(4,1)]),
 (24,[(8,1),(10,1),(11,4)]),
 (27,[(15,1)]),
 (28,[(18,1),(22,1),(24,1)]),
 (29,[(1,1)]),
 (30,[(3,1)]),
 (35,[(10,1)]),
 (39,[(5,1)]),
 (41,[(7,1),(9,1),(11,6),(12,1),(14,6),(16,1),(20,1)]),
 (44,[(6,1)]),
 (45,[(8,1),(9,1),(11,1),(16,1)]),
 (49,[(8,1),(9,1)]),
 (51,[(1,1)]),
 (52,[(5,1),(10,1)]),
 (56,[(16,1)]),
 (57,[(7,1),(11,1)]),
 (58,[(11,1)]),
 (66,[(10,1)]),
 (67,[(1,1)]),
 (69,[(1,1)]),
 (70,[(5,1),(14,1)]),
 (72,[(5,1)]),
 (74,[(5,1)]),
 (78,[(1,1)]),
 (80,[(5,1)]),
 (81,[(8,1)]),
 (82,[(4,1),(7,1),(9,1)]),
 (94,[(1,1)]),
 (95,[(15,1)]),
 (104,[(10,1)]),
 (125,[(4,1)]),
 (135,[(1,1)]),
 (137,[(1,0),(6,6),(10,1)]),
 (146,[(10,1)]),
 (152,[(9,1),(11,1)]),
 (154,[(7,1),(9,1)]),
 (158,[(6,1)]),
 (159,[(10,1)]),
 (160,[(10,1)]),
 (163,[(11,1),(17,1),(23,1)]),
 (168,[(3,1)]),
 (170,[(6,1)]),
 (171,[(10,1)]),
 (172,[(10,1)]),
 (175,[(11,1),(17,1),(23,1)]),
 (194,[(6,1)]),
 (195,[(10,1)]),
 (196,[(10,1)]),
 (199,[(11,1),(17,1),(23,1)]),
 (212,[(6,1)]),
 (213,[(10,1)]),
 (214,[(10,1)]),
 (217,[(11,1),(17,1),(23,1)]),
 (220,[(6,1)]),
 (221,[(10,1)]),
 (222,[(10,1)]),
 (225,[(11,1),(17,1),(23,1)]),
 (228,[(6,1)]),
 (234,[(3,1)]),
 (235,[(6,1)]),
 (238,[(6,1)]),
 (239,[(10,1)]),
 (240,[(10,1)]),
 (243,[(11,1),(17,1),(23,1)]),
 (249,[(3,1)]),
 (250,[(6,1)]),
 (257,[(6,1)]),
 (260,[(6,1)]),
 (265,[(0,1)]),
 (267,[(6,1)]),
 (270,[(6,1)]),
 (271,[(10,1)]),
 (272,[(10,1)]),
 (275,[(11,1),(17,1),(23,1)]),
 (288,[(6,1)]),
 (297,[(7,1),(8,1),(9,1),(10,1),(17,1),(18,1),(23,1)])]
def xsB:=[233,153,169,154,155,84,132,118,120,76]
def xsT:=xsB++[13,11,46,50,49,8]
def qnz:=[178]
def aR(f id:Nat):=if Nat.beq id 999999 then(if iw f qnz then some ([],[]) else none) else match lk qiP f with |some l=>lk l id |none=>none
abbrev sH:rq:=⟨aR,xsT,λ_ _ _=>none⟩
end Pi
namespace Pi
open Go Go.Proofs Go.RowKit
def qW(l:List UInt8):Int:=match Lib.atoiAll l with | .ok v=>v | .range=>Lib.atoiSat l |_=>0
def Od:TF
 | [.d (.int .i64 n)],[]=>if-9223372036854775808<=n/\n<=9223372036854775807 then some (.d (.str (Lib.itoa n)),[]) else none
 |_,_=>none
def Oe:TF
 | [.d (.str s),.d (.str c)],[]=>if s.length<=9223372036854775807/\c.length<4294967281/\c.all (λb=>decide (b.toNat<128))=true then some (.d (.str (Lib.trimS s c)),[]) else none
 |_,_=>none
def qX:List D->Option (List (List UInt8))
 | []=>some []
 | .str s::r=>match qX r with |some l=>some (s::l)|none=>none
 |_=>none
def I8:TF
 | [.d (.sl 1 es),.d (.str c)],[]=>match qX es with
  |some l=>if l.length<=140737488355328/\(Lib.join l c).length<=140737488355328 then some (.d (.str (Lib.join l c)),[]) else none
  |none=>none
 |_,_=>none
def Mf:TF
 | [.d (.str s)],[]=>if s.length<=9223372036854775807 then some (.d (.bool (Lib.validD s)),[]) else none
 |_,_=>none
def Mg:TF
 | [.d (.str s)],[]=>if s.length<9223372036854775807 then some (.d (.int .i64 (Lib.runeCount ⟨⟨s⟩⟩)),[]) else none
 |_,_=>none
noncomputable def DV:=sF Tryz.prog sH 66
noncomputable def Og:=sF Tryz.prog sH 49
noncomputable def DW:=sF Tryz.prog sH 143
noncomputable def DX:=sF Tryz.prog sH 151
noncomputable def AJ:=sF Tryz.prog sH 108
noncomputable def xL:=[(233,Od),(153,Oe),(169,I8),(154,Mf),(155,Mg),(84,DV),(132,Og),(118,DW),(120,DX),(76,AJ)]
noncomputable def xB:=xOf xL
theorem tF{w0 w:World}{v b o}(hz: ∀b,b<w0.heap.size->w.heap[b]?=w0.heap[b]?)(h:w0.cell? ⟨b,o,none⟩=some v):w.cell? ⟨b,o,none⟩=some v:=by
 by_cases hb:b<w0.heap.size
 ·unfold World.cell? at h⊢;rw[hz b hb];exact h
 unfold World.cell? at h;rw[show w0.heap[({block:=b,off:=o,spot:=none}:Addr).block]?=none from zcU (by show w0.heap.size<=b;omega)] at h;simp at h
structure StW(w0:World):Prop where
 m: ∃m,w0.cell? ⟨2,0,none⟩=some (.int .i64 m)
 tab: ∀w:World,(∀b,b<w0.heap.size->w.heap[b]?=w0.heap[b]?)->Lib.TabIs Tryz.prog w "internal/strconv.uint64pow10" .u64 Lib.pow10Tab
 u8:Lib.Utf8Tabs 0 1 w0
theorem StW.zero{w0:World}(h:StW w0):StW {w0 with drawn:=0} where
 m:=h.m
 tab:=h.tab
 u8:=h.u8
theorem Q0{w0 w a b}(hz: ∀b,b<w0.heap.size->w.heap[b]?=w0.heap[b]?)(h:Lib.Utf8Tabs a b w0):Lib.Utf8Tabs a b w:=
 ⟨λc hc=>tF hz (h.1 c hc),λi hi=>⟨tF hz (h.2 i hi).1,tF hz (h.2 i hi).2⟩⟩
theorem Mh w k os:Below w.heap.size w (Go.Sort.grow (w.drewN k) os):=
 ⟨rfl,rfl,rfl,by simp[Go.Sort.grow,World.drewN],λb hb=>by have dq:b<(w.drewN k).heap.size:=hb;simp only[Go.Sort.grow];rw[zb7 dq];rfl⟩
section
variable{w0:World}
theorem AK{F w G R}{v s}(h:aH F w G R v (.d (.str s))):v= .string ⟨⟨s⟩⟩:=aH.cD (p:= .d (.str s)) h rfl
theorem UZ(hw:StW w0):CG Tryz.prog w0 233 Od:=by
 intro h0 ps R p R1 h F G w vs hH hl hv;have hz: ∀b,b<w0.heap.size->w.heap[b]?=w0.heap[b]?:=λb hb=>(hH.z b hb).2;unfold Od at h;split at h
 next n=>
  split at h
  next hn=>
   simp only[zam,zbt] at h;obtain⟨rfl,rfl⟩:=h
   match vs,hl,hv with
   | [v],_,hv=>have hp:=hv 0 v _ rfl rfl;have e:v= .int .i64 n:=aH.cD (p:= .d (.int .i64 n)) hp rfl;subst e;refine ot h0 hH (enters Tryz.func233 (by kernel_rfl) (by kernel_rfl) _ w) ?_;exact(Tryz.strconv_Itoa n hn.1 hn.2 w (hw.tab w hz)).mono λe w' ⟨he,k,os,FL⟩=>⟨_,he,by rw[FL];exact Mh _ _ _,λF G=> .d (.str _)⟩
  cases h
 cases h
theorem U0:CG Tryz.prog w0 153 Oe:=by
 intro h0 ps R p R1 h F G w vs hH hl hv;unfold Oe at h;split at h
 next s c=>
  split at h
  next hc=>
   simp only[zam,zbt] at h;obtain⟨rfl,rfl⟩:=h
   match vs,hl,hv with
   | [v,u],_,hv=>have e1:v= .string ⟨⟨s⟩⟩:=AK (hv 0 v _ rfl rfl);have e2:u= .string ⟨⟨c⟩⟩:=AK (hv 1 u _ rfl rfl);subst e1;subst e2;refine ot h0 hH (enters Tryz.func153 (by kernel_rfl) (by kernel_rfl) _ w) ?_;exact(Go.Proofs.Any.strings_Trim_laid Tryz.Oc (by kernel_rfl) ⟨⟨s⟩⟩ ⟨⟨c⟩⟩ w (by simpa [ByteArray.size] using hc.1) (by simpa [ByteArray.size] using hc.2.1) (Go.Proofs.ascii_of_all hc.2.2)).mono λe w' ⟨he,hb⟩=>⟨_,he,hb,λF G=> .d (.str _)⟩
  cases h
 cases h
theorem xC: ∀es l,qX es=some l->es=l.map D.str
 | [],l,h=>by simp[qX] at h;subst h;rfl
 |x::es,l,h=>by
  cases x<;>try (simp[qX] at h;done)
  rename_i s;simp only[qX] at h;split at h
  next l' hl=>simp at h;subst h;rw[xC es l' hl];rfl
  cases h
theorem U1:CG Tryz.prog w0 169 I8:=by
 intro h0 ps R p R1 h F G w vs hH hl hv;unfold I8 at h;split at h
 next es c=>
  split at h
  next l QV=>
   have QV:=xC es l QV;subst QV;split at h
   ·rename_i hc;simp only[zam,zbt] at h;obtain⟨rfl,rfl⟩:=h
    match vs,hl,hv with
    | [v,u],_,hv=>
     have h1:=hv 0 v _ rfl rfl;have e2:u= .string ⟨⟨c⟩⟩:=AK (hv 1 u _ rfl rfl);subst e2;refine ot h0 hH (enters Tryz.func169 (by kernel_rfl) (by kernel_rfl) _ w) ?_;cases h1 with
     |d h1=>
      generalize QV:l.map D.str=es at h1;cases h1 with
      |Qf a k cap=>
       have:l=[]:=by simpa using QV
       subst this;exact(Tryz.strings_Join_none a cap ⟨⟨c⟩⟩ w).mono λe w' ⟨he,hb⟩=>⟨_,he,hb▸Below.refl _ _,λF G=> .d (.str _)⟩
      |Sv b off k cap es f vU hb hk cm hw hr=>
       subst QV;have hj:=Tryz.strings_Join b off cap (l.map λx=>⟨⟨x⟩⟩) ⟨⟨c⟩⟩ w (λj x hx=>by
        rw[zaN] at hx;cases hi:l[j]? with
        |none=>rw[hi] at hx;cases hx
        |some s=>rw[hi] at hx;cases hx;have E9:j<l.length:=(zae.1 hi).1;rw[hw j (by simpa using E9)];have:=hr j 0 (.str s) (.str s) (by rw[zaN,hi];rfl) rfl;simp only[Nat.mul_one,zb1] at this;rw[this.gG rfl]) (hH.jE b hb) (by simpa using hc.1) (by simpa using vU) (by simpa [zb5] using hc.2)
       simp only[zaa] at hj⊢;have e:(List.map (λx=>x.data.toList) (List.map (λx=>(⟨⟨x⟩⟩:ByteArray)) l))=l:=by simp[zb5]
       rw[e] at hj;exact hj.mono λe w' ⟨he,hb⟩=>⟨_,he,hb,λF G=> .d (.str _)⟩
   cases h
  cases h
 cases h
theorem Q5(hw:StW w0):CG Tryz.prog w0 154 Mf:=by
 intro h0 ps R p R1 h F G w vs hH hl hv;have hz: ∀b,b<w0.heap.size->w.heap[b]?=w0.heap[b]?:=λb hb=>(hH.z b hb).2;unfold Mf at h;split at h
 next s=>
  split at h
  next hc=>
   simp only[zam,zbt] at h;obtain⟨rfl,rfl⟩:=h
   match vs,hl,hv with
   | [v],_,hv=>have e1:v= .string ⟨⟨s⟩⟩:=AK (hv 0 v _ rfl rfl);subst e1;refine ot h0 hH (enters Tryz.func154 (by kernel_rfl) (by kernel_rfl) _ w) ?_;exact(Tryz.utf8_ValidString ⟨⟨s⟩⟩ w (by simpa [ByteArray.size] using hc) (Q0 hz hw.u8)).mono λe w' ⟨he,hb⟩=>⟨_,he,hb,λF G=> .d (.bool _)⟩
  cases h
 cases h
theorem Q6:CG Tryz.prog w0 155 Mg:=by
 intro h0 ps R p R1 h F G w vs hH hl hv;unfold Mg at h;split at h
 next s=>
  split at h
  next hc=>
   simp only[zam,zbt] at h;obtain⟨rfl,rfl⟩:=h
   match vs,hl,hv with
   | [v],_,hv=>have e1:v= .string ⟨⟨s⟩⟩:=AK (hv 0 v _ rfl rfl);subst e1;refine ot h0 hH (enters Tryz.func155 (by kernel_rfl) (by kernel_rfl) _ w) ?_;exact(Tryz.utf8_RuneCountInString ⟨⟨s⟩⟩ w (by simpa [ByteArray.size] using hc)).mono λe w' ⟨he,pos,hb⟩=>⟨_,he,by rw[hb];exact(Below.refl _ _).alloc (zal _) _,λF G=> .d (.int _ _)⟩
  cases h
 cases h
set_option maxRecDepth 100000 in
theorem FU w0:CG Tryz.prog w0 84 DV:=
 qT (kp:=sH) (λw=>Ax _ w) Tryz.qfV (by kernel_rfl) (λvs w=>enters Tryz.func84 (by kernel_rfl) (by kernel_rfl) vs w) (ty:=66) (k:=6) (by kernel_rfl) (λw=>jm (d:=_) (show Tryz.prog.underlying (Tryz.AI.t 24)=some _ from Tryz.underlying66) w) (run_sizeOf (by kernel_rfl)) w0
set_option maxRecDepth 100000 in
theorem Mi w0:CG Tryz.prog w0 132 Og:=
 qT (kp:=sH) (λw=>Ax _ w) Tryz.qaU (by kernel_rfl) (λvs w=>enters Tryz.func132 (by kernel_rfl) (by kernel_rfl) vs w) (ty:=49) (k:=3) (by kernel_rfl) (λw=>jm (d:=_) (show Tryz.prog.underlying (Tryz.xA.t 24)=some _ from Tryz.underlying49) w) (run_sizeOf (by kernel_rfl)) w0
set_option maxRecDepth 100000 in
theorem FV w0:CG Tryz.prog w0 118 DW:=
 qT (kp:=sH) (λw=>Ax _ w) Tryz.qaS (by kernel_rfl) (λvs w=>enters Tryz.func118 (by kernel_rfl) (by kernel_rfl) vs w) (ty:=143) (k:=4) (by kernel_rfl) (λw=>jm (d:=_) (show Tryz.prog.underlying (Tryz.xx.t 24)=some _ from Tryz.underlying143) w) (run_sizeOf (by kernel_rfl)) w0
set_option maxRecDepth 100000 in
theorem FW w0:CG Tryz.prog w0 120 DX:=
 qT (kp:=sH) (λw=>Ax _ w) Tryz.qaT (by kernel_rfl) (λvs w=>enters Tryz.func120 (by kernel_rfl) (by kernel_rfl) vs w) (ty:=151) (k:=11) (by kernel_rfl) (λw=>jm (d:=_) (show Tryz.prog.underlying (Tryz.xy.t 24)=some _ from Tryz.underlying151) w) (run_sizeOf (by kernel_rfl)) w0
set_option maxRecDepth 100000 in
theorem CJ w0:CG Tryz.prog w0 76 AJ:=
 qT (kp:=sH) (λw=>Ax _ w) Tryz.qfU (by kernel_rfl) (λvs w=>enters Tryz.func76 (by kernel_rfl) (by kernel_rfl) vs w) (ty:=108) (k:=8) (by kernel_rfl) (λw=>jm (d:=_) (show Tryz.prog.underlying (Tryz.AH.t 24)=some _ from Tryz.underlying108) w) (run_sizeOf (by kernel_rfl)) w0
theorem I9{w1}(hw1:StW w1):cz Tryz.prog {w1 with drawn:=0} xB:=by have hw:=hw1.zero;exact QW.ok rfl (.cons (UZ hw) (.cons U0 (.cons U1 (.cons (Q5 hw) (.cons Q6 (.cons (FU _) (.cons (Mi _) (.cons (FV _) (.cons (FW _) (.cons (CJ _) .nil))))))))))
end
end Pi
namespace Pi
open Go Go.Proofs
set_option maxRecDepth 100000
set_option maxHeartbeats 0
structure XF where
 cf:CF
 eq: ∀f,iw f xsB=true-> ∀ps R,cf f ps R=xB f ps R
abbrev Oh(X:XF):rq:=⟨aR,xsT,X.cf⟩
def rE(f id:Nat):Nat:=match lk qfW f with |some l=>(lk l id).getD 2 |none=>2
theorem Q7:nz rE 0 Tryz.prog.funcs.toList=true:=by kernel_rfl
noncomputable abbrev PR:=Tryz.prog
noncomputable def aD H hk f id s:=
 zw (fw PR (runK PR sH rE H 60 60) (aR f) hk (rE f) 60 (bA PR f id)) (aR f id) s
noncomputable def aI H hk (f:Nat) ps R:=
 n0 PR (runK PR sH rE H 60 60) sH hk rE 60 f ps R
def FD X (f:Nat) h:=UI PR (Oh X) f h
def HD X H:=NZ PR (Oh X) H
def LD X f id (g:S->K (PX×S)):= ∀s,KW (g s) (λx=>Ev λa b=>jc (bU PR (fj PR (Oh X) a b) (aR f) a (bA PR f id)) (aR f id) a s=some x)
theorem HD.nil{X}:HD X []:=NZ.nil
theorem HD.cons{X f h H}(hf:FD X f h)(hH:HD X H):HD X ((f,h)::H):=NZ.cons hf hH
inductive U2(X:XF)(f:Nat):List (Nat×(S->K (PX×S)))->Prop
 |nil:U2 X f []
 |cons {id:Nat} {g:S->K (PX×S)} {r:List (Nat×(S->K (PX×S)))} (h:LD X f id g) (hr:U2 X f r):U2 X f ((id,g)::r)
theorem U2.get{X f hk}(h:U2 X f hk): ∀id g,lk hk id=some g->LD X f id g:=by
 induction h with
 |nil=>exact N2
 |cons h hr ih=>exact qaJ h ih
theorem FD.mk{X H hk}{f:Nat}{h}(hu:uniq PR f=true)(hH:HD X H)(hl:U2 X f hk)(hb: ∀ps R ae,h ps R ae->aI H hk f ps R ae):FD X f h:=
 UI.mk Q7 hH hu hl.get (λps R ae hp=>by have:=hb ps R ae hp;unfold aI at this;rw[FM PR aR xsT _ X.cf rE H 60 60] at this;exact this)
theorem LD.par{X H hk}{f id:Nat}{g}(hu:uniq PR f=true)(hc:cj (rE f) (bA PR f id)=true)(hH:HD X H)(hl:U2 X f hk)
  {A B:Type} (hd:A->B->S) (Inv:A->B->Prop) (mu:A->B->Nat) (Out:A->PX×S->Prop)
  (hr: ∀a b,Inv a b->aD H hk f id (hd a b) (roundPost (mu a b) (λm s=> ∃b',s=hd a b'/\Inv a b'/\m=mu a b') (Out a)))
  (hg: ∀s ae,g s ae-> ∃a b,s=hd a b/\Inv a b/\ ∀x,Out a x->ae x):LD X f id (ah (aR f id) g):=by
 refine IU λs0 ae hp=> ?_;obtain⟨a,b,rfl,h1,h2⟩:=hg s0 ae hp;obtain⟨x,g1,g2⟩:=qaC (keep:=aR f id) (kp1:=aR f) (O:=Out a) Q7 hH hc (λd hd h hh=>by have:=hl.get _ _ hh;unfold LD at this;rwa [wi hu hd] at this) (I:=λm s=> ∃b',s=hd a b'/\Inv a b'/\m=mu a b') (λn s hs=>by obtain⟨b',rfl,h3,rfl⟩:=hs;have:=hr a b' h3;unfold aD at this;rw[FM PR aR xsT _ X.cf rE H 60 60] at this;exact this) (mu a b) (hd a b) ⟨b,rfl,h1,rfl⟩;exact⟨x,g2,h2 x g1⟩
theorem FD.weaken{X f h1 h2}(h:FD X f h1)(hw: ∀ps R ae,h2 ps R ae->h1 ps R ae):FD X f h2:=λps R ae hp=>h ps R ae (hw ps R ae hp)
theorem FD.rZ{X f fn h}(gC:PR.funcs[f]?=some fn)(hx:iw f xsT=true)(CK:iw f xsB=true)(hb: ∀ps R ae,h ps R ae-> ∃x,xB f ps R=some x/\ae x):FD X f h:=
 UI.rZ gC hx λps R ae hp=>by obtain⟨x,h1,h2⟩:=hb ps R ae hp;exact⟨x,by rw[<-h1];exact X.eq f CK ps R,h2⟩
theorem FD.run{X f h}(hf:FD X f h){ps R y}(hp:h ps R (λx=>x=y)): ∃lf k,fj PR (Oh X) lf k f ps R=some y:=by obtain⟨x,h1,h2⟩:=hf ps R _ hp;subst h2;exact h1.some
def FC(f:Nat) h:=UI PR sH f h
def HC H:=NZ PR sH H
theorem HC.nil:HC []:=NZ.nil
theorem HC.cons{f h H}(hf:FC f h)(hH:HC H):HC ((f,h)::H):=NZ.cons hf hH
theorem FC.mk{H}{f:Nat}{h}(hu:uniq PR f=true)(hH:HC H)(hb: ∀ps R ae,h ps R ae->aI H [] f ps R ae):FC f h:=
 UI.mk Q7 hH hu N2 hb
noncomputable def Ja:XF:=⟨xB,λ_ _ _ _=>rfl⟩
def eV(l:List Int)(r:Int):=if r<1\/r>l.length then 0 else l.getD (r-1).toNat 0
def pT(l:List Int):Nat->Nat
 |0=>0
 |k+1=>if l.getD k 0=0 then pT l k else k+1
def bx(l:List Int):=l.take (pT l l.length)
def qY n (f:Nat->Int):=(List.range n).map f
def qaV v w:=qY (max v.length w.length) λi=>max (eV v (i+1)) (eV w (i+1))
def il v r n:=qY (max v.length r.toNat) λi=>if(i:Int)+1=r then n else eV v (i+1)
def nJ v w:=bx (qaV v w)
def cT v:=decide ((∀n∈v,0<=n)/\v.length<=16/\(bx v).length=v.length)
@[simp] theorem Jb n f:(qY n f).length=n:=by simp[qY]
theorem tG l: ∀k,pT l k<=k
 |0=>zal 0
 |k+1=>by have:=tG l k;unfold pT;split<;>omega
@[simp] theorem tH l:(bx l).length=pT l l.length:=by have:=tG l l.length;simp[bx];omega
theorem FX l (i:Nat):eV l ((i:Int)+1)=l.getD i 0:=by
 unfold eV;split
 next h=>
  have h:l.length<=i:=by omega
  simp[zab,zbw h]
 have:((i:Int)+1-1).toNat=i:=by omega
 rw[this]
theorem py l {r}(h:1<=r):eV l r=l.getD (r-1).toNat 0:=by
 obtain⟨k,rfl⟩: ∃k:Nat,r=(k:Int)+1:=⟨(r-1).toNat,by omega⟩
 rw[FX];congr 1;omega
theorem AL n f i:(qY n f).getD i 0=if i<n then f i else 0:=by
 simp only[qY,zab,zaN];split
 next h=>simp[h]
 rename_i h;simp[h]
theorem Jc l: ∀k i,pT l k<=i->i<k->l.getD i 0=0
 |0,i,_,h=>by omega
 |k+1,i,h1,h2=>by
  unfold pT at h1;split at h1
  ·by_cases e:i=k
   ·subst e;assumption
   exact Jc l k i h1 (by omega)
  omega
theorem Jd l: ∀k,pT l k≠0->l.getD (pT l k-1) 0≠0
 |0,h=>by simp[pT] at h
 |k+1,h=>by
  unfold pT at h⊢;split
  next h0=>rw[zap h0] at h;exact Jd l k h
  simpa
theorem Mj l i:(bx l).getD i 0=l.getD i 0:=by
 have h0:=tG l l.length;unfold bx;by_cases h:i<pT l l.length
 ·simp[zab,h]
 rw[zab,zbw (by simp;omega)];by_cases h2:i<l.length
 ·exact(Jc l l.length i (by omega) h2).symm
 simp[zab,zbw (show l.length<=i by omega)]
theorem Je l n: ∀k,k<=n->pT (l.take n) k=pT l k
 |0,_=>rfl
 |k+1,h=>by
  have e:(l.take n).getD k 0=l.getD k 0:=by simp[zab,show k<n by omega]
  unfold pT;rw[e,Je l n k (by omega)]
theorem qaW l k:pT l (pT l k)=pT l k:=by
 cases h:pT l k with
 |zero=>rfl
 |succ m=>have:=Jd l k (by omega);rw[h] at this;unfold pT;rw[zan (by simpa using this)]
theorem Jf l:bx (bx l)=bx l:=by
 have h0:=tG l l.length;have:pT (bx l) (bx l).length=pT l l.length:=by rw[tH];unfold bx;rw[Je _ _ _ (zal _),qaW]
 rw[bx,this,zak (by simp)]
theorem ext_get{a b:List Int}(hl:a.length=b.length)(h: ∀i,a.getD i 0=b.getD i 0):a=b:=by apply zbX hl;intro i h1 h2;have:=h i;simpa [zab,h1,h2] using this
theorem rF{v:List Int}{i}(h:v.length<=i):v.getD i 0=0:=by simp[zab,zbw h]
theorem U3 v w i:(qaV v w).getD i 0=max (v.getD i 0) (w.getD i 0):=by
 unfold qaV;rw[AL];split
 ·rw[FX,FX]
 rw[rF (v:=v) (by omega),rF (v:=w) (by omega)];rfl
abbrev Mk(t r i:Int):D:= .agg [.int .i64 t,.int .i64 r,.int .i64 i]
abbrev stD(t r:Int):D:= .agg [.int .i64 t,.int .i64 r]
def AN(t r:Int):=decide (1<=t/\t<=1099511627776/\1<=r/\r<=16)
def bf(t r i:Int):=decide (1<=t/\t<=1099511627776/\1<=r/\r<=16/\0<=i/\i<=400000)
def Z2:=D.bool false
def Z3(ae:P×List (Nat×En)->Prop):=ae (P.d Z2,[])
def Z1 i:=decide (i>=(0:Int))
def Z0 t:=decide (t>=(1:Int))
theorem Q8 t r i ae:(bif Z0 t then bif decide (t<=(1099511627776:Int)) then bif Z0 r then bif decide (r<=(16:Int)) then bif Z1 i then ae (P.d (D.bool (decide (i<=(400000:Int)))),[]) else Z3 ae else Z3 ae else Z3 ae else Z3 ae else Z3 ae)=(aI [] [] 124 [.d (Mk t r i)] []) ae:=by kernel_rfl
theorem Ml t r i ae:(bif Z0 t then bif decide (t<=(1099511627776:Int)) then bif Z0 r then bif decide (r<=(16:Int)) then bif Z1 i then ae (P.d (D.bool (decide (i<=(400000:Int)))),[]) else Z3 ae else Z3 ae else Z3 ae else Z3 ae else Z3 ae)=(aI [] [] 192 [.d (Mk t r i)] []) ae:=by kernel_rfl
def ou:a8:=λps R ae=> ∃t r i,ps=[.d (Mk t r i)]/\R=[]/\ae (.d (.bool (bf t r i)),[])
def bt(l:List Int):=l.map (D.int .i64)
abbrev vD(v:List Int):P:= .d (.sl 1 (bt v))
def hAt:a8:=λps R ae=> ∃l r,ps=[vD l,.d (.int .i64 r)]/\R=[]/\l.length<=9223372036854775807/\ae (.d (.int .i64 (eV l r)),[])
def Za r:=Int.toNat (r-(1:Int))
def Z8:=(9223372036854775807:Int)
def Z7:=(-9223372036854775808:Int)
def Z9 r:=decide (Z7<=r-(1:Int)/\r-(1:Int)<=Z8)
def Z5:=D.int .i64 (0:Int)
def Z6(ae:P×List (Nat×En)->Prop):=ae (P.d Z5,[])
theorem qnA es r ae:(bif decide (r<(1:Int)) then Z6 ae else bif decide (r>(↑(List.length es):Int)) then Z6 ae else ob (Z9 r) (ob (decide ((0:Int)<=r-(1:Int)/\r-(1:Int)<(↑(List.length es):Int))) (ob (bO PR (3:TypeId) (D.nth es (Za r))) (ae (P.d (D.int .i64 (D.aj (D.nth es (Za r)))),[])))))=(aI [] [] 106 [.d (.sl 1 es),.d (.int .i64 r)] []) ae:=by kernel_rfl
theorem qiQ es r ae:(bif decide (r<(1:Int)) then Z6 ae else bif decide (r>(↑(List.length es):Int)) then Z6 ae else ob (Z9 r) (ob (decide ((0:Int)<=r-(1:Int)/\r-(1:Int)<(↑(List.length es):Int))) (ob (bO PR (3:TypeId) (D.nth es (Za r))) (ae (P.d (D.int .i64 (D.aj (D.nth es (Za r)))),[])))))=(aI [] [] 40 [.d (.sl 1 es),.d (.int .i64 r)] []) ae:=by kernel_rfl
variable{X:XF}
theorem U4{ae:P×List (Nat×En)->Prop}{k a b R}(hp:ae (P.d (D.int k a),R))(h:a=b):ae (P.d (D.int k b),R):=h▸hp
theorem gh{ae:P×List (Nat×En)->Prop}{a b R}(hp:ae (P.d (D.bool a),R))(h:a=b):ae (P.d (D.bool b),R):=h▸hp
theorem wk:FD X 124 ou:=FD.mk (by kernel_rfl) .nil .nil (by
 intro ps R ae hh;obtain⟨t,r,i,rfl,rfl,hp⟩:=hh
 (rw[<-Q8];delta Z2 Z3 Z1 Z0)
 repeat' (first |refine ay (λ_=> ?_) (λ_=> ?_))
 all_goals exact gh hp (by simp only[zah,zaP,zbG,bf] at*;omega))
theorem tI:FD X 192 ou:=FD.mk (by kernel_rfl) .nil .nil (by
 intro ps R ae hh;obtain⟨t,r,i,rfl,rfl,hp⟩:=hh
 (rw[<-Ml];delta Z2 Z3 Z1 Z0)
 repeat' (first |refine ay (λ_=> ?_) (λ_=> ?_))
 all_goals exact gh hp (by simp only[zah,zaP,zbG,bf] at*;omega))
@[simp] theorem dP l:(bt l).length=l.length:=by simp[bt]
theorem lZ{l i}(h:i<l.length):D.nth (bt l) i= .int .i64 (l.getD i 0):=by simp[D.nth,bt,h]
theorem Mm n:bO PR 3 (.int .i64 n)=true:=by kernel_rfl
theorem U5{ae:P×List (Nat×En)->Prop}{l r}(hl:l.length<=9223372036854775807)(hp:ae (.d (.int .i64 (eV l r)),[])):
  bif decide (r<1) then ae (.d (.int .i64 0),[]) else bif decide (r>(l.length:Int)) then ae (.d (.int .i64 0),[]) else
   bif decide (-9223372036854775808<=r-1/\r-1<=9223372036854775807) then bif decide (0<=r-1/\r-1<(l.length:Int)) then bif bO PR 3 (D.nth (bt l) (r-1).toNat) then ae (.d (.int .i64 (D.nth (bt l) (r-1).toNat).aj),[]) else False else False else False:=by
 refine ay (λh=> ?_) λh=>ay (λh'=> ?_) λh'=> ?_
 ·exact U4 hp (by simp only[zah] at h;simp[eV,h])
 ·exact U4 hp (by simp only[zah] at h';simp[eV,h'])
 simp only[zaP] at h h';have bK:(r-1).toNat<l.length:=by omega
 rw[lZ bK];refine aq (by simp;omega) (aq (by simp;omega) (aq (Mm _) ?_));exact U4 hp (by rw[eV,zan (by omega)];rfl)
theorem qnB:FD X 106 hAt:=FD.mk (by kernel_rfl) .nil .nil (by
 intro ps R ae hh;obtain⟨l,r,rfl,rfl,hl,hp⟩:=hh
 (rw[<-qnA];delta Za Z8 Z7 Z9 Z5 Z6)
 simp only[dP];exact U5 hl hp)
theorem Jg:FD X 40 hAt:=FD.mk (by kernel_rfl) .nil .nil (by
 intro ps R ae hh;obtain⟨l,r,rfl,rfl,hl,hp⟩:=hh
 (rw[<-qiQ];delta Za Z8 Z7 Z9 Z5 Z6)
 simp only[dP];exact U5 hl hp)
abbrev iD(n:Int):P:= .d (.int .i64 n)
abbrev qfX(v w:List Int)(k:Int):S:=⟨26,[(0,vD v),(1,vD w),(5,iD k)],[]⟩
abbrev qaX(v:List Int):S:=⟨21,[(0,vD v)],[]⟩
abbrev qfY(v:List Int)(k:Int):S:=⟨21,[(0,vD v),(3,iD k)],[]⟩
abbrev qiR(v w o:List Int)(m:Nat)(k:Int):S:=⟨28,[(0,vD v),(1,vD w),(5,P.sl 0 0 m),(6,iD k)],[(0,⟨0,none,.arr 3 false (bt o)⟩)]⟩
abbrev qiS(v o:List Int)(r n:Int)(m:Nat)(k:Int):S:=⟨39,[(0,vD v),(1,iD r),(2,iD n),(8,P.sl 0 0 m),(9,iD k)],[(0,⟨0,none,.arr 3 false (bt o)⟩)]⟩
abbrev qfZ(v:List Int)(n k:Int):S:=⟨25,[(0,vD v),(5,vD v),(6,iD n),(7,iD k)],[]⟩
abbrev qf0(v:List Int)(k:Int):S:=⟨24,[(0,vD v),(3,iD k)],[]⟩
def Zo(ae:PX×S->Prop):=ae (PX.exit 0,S.mk 26 [] [])
def Zl k:=D.int .i64 (k+(1:Int))
def Zm k:=P.d (Zl k)
def Zn k:=[(5,Zm k)]
def Zi v:=P.d (D.sl 1 (bt v))
def Zk w:=(1,Zi w)
def Zj v:=(0,Zi v)
def Zh k:=decide (Z7<=k+(1:Int)/\k+(1:Int)<=Z8)
def Zg:=[(4,P.d Z2)]
def Ze k:=Int.toNat k
noncomputable def Zf v k:=bO PR (3:TypeId) (D.nth (bt v) (Ze k))
def Zc v:=(↑(List.length (bt v)):Int)
def Zd k v:=decide ((0:Int)<=k/\k<Zc v)
theorem qf1 v w k ae:(bif decide (k<Zc v) then ob (Zd k v) (ob (Zf v k) (ob (Zd k w) (ob (Zf w k) (bif D.aj (D.nth (bt v) (Ze k)) !=D.aj (D.nth (bt w) (Ze k)) then ae (PX.ret,S.mk 26 Zg []) else ob (Zh k) (ae (PX.normal,S.mk 26 (Zj v::Zk w::Zn k) [])))))) else Zo ae)=(aD [] [] 184 4 (qfX v w k)) ae:=by kernel_rfl
def Zq(ae:PX×S->Prop) v:=ae (PX.exit 0,S.mk 21 [Zj v] [])
def Zp v:=decide (Z7<=Zc v-(1:Int)/\Zc v-(1:Int)<=Z8)
theorem qf2 v ae:(bif decide (Zc v>(0:Int)) then ob (Zp v) (ob (decide ((0:Int)<=Zc v-(1:Int)/\Zc v-(1:Int)<Zc v)) (ob (bO PR (3:TypeId) (D.nth (bt v) (Int.toNat (Zc v-(1:Int))))) (bif D.aj (D.nth (bt v) (Int.toNat (Zc v-(1:Int))))==(0:Int) then ob (Zp v) (ob (decide ((0:Int)<=Zc v-(1:Int)/\Zc v-(1:Int)<=Zc v)) (ae (PX.normal,S.mk 21 [(0,P.d (D.sl 1 (List.drop 0 (List.take (Int.toNat (Zc v-(1:Int))) (bt v)))))] []))) else Zq ae v))) else Zq ae v)=(aD [] [] 203 1 (qaX v)) ae:=by kernel_rfl
def Zt k:=D.int .i64 k
def Zu k:=[(3,P.d (Zt k))]
def Zs k:=P.d (D.int .i64 (k-(1:Int)))
def Zr k:=decide (k>(0:Int))
theorem qf3 v k ae:(bif Zr k then ob (Z9 k) (ob (decide ((0:Int)<=k-(1:Int)/\k-(1:Int)<Zc v)) (ob (bO PR (3:TypeId) (D.nth (bt v) (Za k))) (bif D.aj (D.nth (bt v) (Za k))==(0:Int) then ob (Z9 k) (ae (PX.normal,S.mk 21 [Zj v,(3,Zs k)] [])) else ae (PX.exit 0,S.mk 21 (Zj v::Zu k) [])))) else ae (PX.exit 0,S.mk 21 (Zj v::Zu k) []))=(aD [] [] 64 2 (qfY v k)) ae:=by kernel_rfl
def ZD o:=[(0,En.mk 0 none (Obj.arr (3:TypeId) false (bt o)))]
def ZB m:=P.sl 0 0 m
def ZC m:=(5,ZB m)
def ZA k:=[(6,Zm k)]
def Zy:=9223372036854775807
def Zz(l:List Int):=List.length l<=Zy
def Zx:=EqR [] []
def Zv r:=[P.d (Zt r)]
theorem qf4 v w o (m:Nat) k ae:(bif decide (k<=max (Zc v) (Zc w)) then∃l r,Zi v::Zv k=Zi l::Zv r/\Zx/\Zz l/\ ∃av fK,Zi w::Zv k=Zi av::Zv fK/\Zx/\Zz av/\ob (Nat.ble m (List.length (bt o))&&aG (m+List.length [D.int .i64 (max (eV l r) (eV av fK))]) 8) (ob (Zh k) (ae (PX.normal,S.mk 28 (Zj v::Zk w::(5,P.sl 0 0 (m+List.length [D.int .i64 (max (eV l r) (eV av fK))]))::ZA k) [(0,En.mk 0 none (Obj.arr (3:TypeId) false (List.take m (bt o)++[D.int .i64 (max (eV l r) (eV av fK))])))]))) else ae (PX.exit 0,S.mk 28 [ZC m] (ZD o)))=(aD [(40,hAt)] [] 38 3 (qiR v w o m k)) ae:=by kernel_rfl
def ZG k:=[(9,Zm k)]
def ZF n:=(2,P.d (Zt n))
def ZE n:=[Zt n]
theorem qf5 v o r n (m:Nat) k ae:(bif decide (k<=max (Zc v) r) then bif k==r then ob (Nat.ble m (List.length (bt o))&&aG (m+List.length (ZE n)) 8) (ob (Zh k) (ae (PX.normal,S.mk 39 (Zj v::(1,P.d (Zt r))::ZF n::(8,P.sl 0 0 (m+List.length (ZE n)))::ZG k) [(0,En.mk 0 none (Obj.arr (3:TypeId) false (List.take m (bt o)++ZE n)))]))) else∃l fK,Zi v::Zv k=Zi l::Zv fK/\Zx/\Zz l/\ob (Nat.ble m (List.length (bt o))&&aG (m+List.length [D.int .i64 (eV l fK)]) 8) (ob (Zh k) (ae (PX.normal,S.mk 39 (Zj v::(1,P.d (Zt r))::ZF n::(8,P.sl 0 0 (m+List.length [D.int .i64 (eV l fK)]))::ZG k) [(0,En.mk 0 none (Obj.arr (3:TypeId) false (List.take m (bt o)++[D.int .i64 (eV l fK)])))]))) else ae (PX.exit 0,S.mk 39 [(8,ZB m)] (ZD o)))=(aD [(40,hAt)] [] 42 5 (qiS v o r n m k)) ae:=by kernel_rfl
def ZJ k:=[(7,Zm k)]
def ZI n:=(6,P.d (Zt n))
def ZH(k:Int) n:=decide (k<n)
theorem qf6 v n k ae:(bif ZH k n then ob (Zd k v) (ob (Zf v k) (bif decide (D.aj (D.nth (bt v) (Ze k))<(0:Int)) then ae (PX.ret,S.mk 25 [Zj v,(2,P.d Z2)] []) else ob (Zh k) (ae (PX.normal,S.mk 25 (Zj v::(5,Zi v)::ZI n::ZJ k) [])))) else ae (PX.exit 0,S.mk 25 [Zj v] []))=(aD [] [] 105 2 (qfZ v n k)) ae:=by kernel_rfl
theorem qf7 v k ae:(bif decide (k<Zc v) then ob (Zd k v) (ob (Zf v k) (bif decide (D.aj (D.nth (bt v) (Ze k))<(0:Int)) then ae (PX.ret,S.mk 24 [Zj v,(2,P.d Z2)] []) else ob (Zh k) (ae (PX.normal,S.mk 24 [Zj v,(3,Zm k)] [])))) else ae (PX.exit 0,S.mk 24 [Zj v] []))=(aD [] [] 140 2 (qf0 v k)) ae:=by kernel_rfl
variable{X:XF}
theorem iZ{k}(h0: -9223372036854775808<=k)(h1:k<9223372036854775807):decide ((-9223372036854775808:Int)<=k+(1:Int)/\k+(1:Int)<=(9223372036854775807:Int))=true:=by simp;omega
theorem iz{p:Prop}[Decidable p] (h:p):decide p=true:=by simpa using h
theorem l0{p:Prop}[Decidable p] (h: ¬p):decide p=false:=by simpa using h
theorem aW{p:Prop}[Decidable p] {A B:Prop}(h1:p->A)(h2: ¬p->B):cond (decide p) A B:=ay (λh=>h1 (by simpa using h)) (λh=>h2 (by simpa using h))
theorem bh{p:Prop}[Decidable p] {A:Prop}(h1:p)(h2:A):cond (decide p) A False:=aq (by simpa using h1) h2
theorem iK{a b:Int}{A B:Prop}(h1:a=b->A)(h2:a≠b->B):cond (a==b) A B:=ay (λh=>h1 (by simpa using h)) (λh=>h2 (by simpa using h))
theorem Jh{a b:Int}{A B:Prop}(h1:a≠b->A)(h2:a=b->B):cond (a !=b) A B:=ay (λh=>h1 (by simpa using h)) (λh=>h2 (by simpa using h))
theorem wm{o m}(h:m=o.length) x:List.take m (bt o)++[D.int .i64 x]=bt (o++[x]):=by subst h;rw[zak (by simp)];simp[bt]
theorem qiT{m n b}(h:(m+n)*b<=140737488355328)(h2:m+n<=9223372036854775807)(l:List D)(hm:m<=l.length):(Nat.ble m l.length&&aG (m+n) b)=true:=by simp[hm,cL h h2]
abbrev j7(v:List Int):=v.length<=1000000
def qiU:S->K (PX×S):=λs ae=> ∃v w,s=qfX v w 0/\(v.length=w.length/\j7 v)/\(v≠w->ae (.ret,⟨26,[(4,.d (.bool false))],[]⟩))/\(v=w->ae (.exit 0,⟨26,[],[]⟩))
theorem qaY:LD X 184 4 (ah (aR 184 4) qiU):=LD.par (by kernel_rfl) (by kernel_rfl) .nil .nil
 (A:=List Int×List Int) (B:=Int) (λa k=>qfX a.1 a.2 k)
 (λa k=>(a.1.length=a.2.length/\j7 a.1)/\0<=k/\k<=a.1.length/\ ∀i:Nat,(i:Int)<k->a.1.getD i 0=a.2.getD i 0)
 (λa k=>(a.1.length-k).toNat)
 (λa x=>(a.1≠a.2/\x=(.ret,⟨26,[(4,.d (.bool false))],[]⟩))\/(a.1=a.2/\x=(.exit 0,⟨26,[],[]⟩)))
 (by
  rintro⟨v,w⟩ k ⟨⟨hl,hs⟩,h0,h1,he⟩;dsimp only at*
  (rw[<-qf1];delta Zo Zl Zm Zn Zi Zk Zj Z8 Z7 Zh Z2 Zg Ze Zf Zc Zd)
  simp only[dP];unfold j7 at hs;refine aW (λh=> ?_) λh=> ?_
  ·rw[lZ (by omega),lZ (by omega)];refine bh (by omega) (aq (Mm _) (bh (by omega) (aq (Mm _) (Jh (λh'=> ?_) λh'=>aq (iZ (by omega) (by omega)) ?_))))
   ·exact .inl ⟨λe=>h' (by rw[e]),rfl⟩
   exact⟨_,by omega,k+1,rfl,⟨⟨hl,hs⟩,by omega,by omega,λi hi=>by
    by_cases e:(i:Int)=k
    ·have:i=k.toNat:=by omega
     rw[this];exact h'
    exact he i (by omega)⟩,rfl⟩
  exact .inr ⟨ext_get hl λi=>by
   by_cases hi:(i:Int)<k
   ·exact he i hi
   rw[rF (by omega),rF (by omega)],rfl⟩)
 (by
  rintro s ae ⟨v,w,rfl,h1,h2,h3⟩;refine⟨(v,w),0,rfl,⟨h1,by omega,by omega,λi hi=>by omega⟩,?_⟩;rintro x (⟨h,rfl⟩| ⟨h,rfl⟩)
  ·exact h2 h
  exact h3 h)
theorem Q9 v n:(bt v).take n=bt (v.take n):=by simp[bt]
def qiV:S->K (PX×S):=λs ae=> ∃v,s=qaX v/\j7 v/\ae (.exit 0,⟨21,[(0,vD (bx v))],[]⟩)
theorem qaZ:LD X 203 1 (ah (aR 203 1) qiV):=LD.par (by kernel_rfl) (by kernel_rfl) .nil .nil
 (A:=List Int) (B:=Nat) (λa k=>qaX (a.take k))
 (λa k=>j7 a/\k<=a.length/\pT a k=pT a a.length)
 (λa k=>k)
 (λa x=>x=(.exit 0,⟨21,[(0,vD (bx a))],[]⟩))
 (by
  rintro v k ⟨hs,h1,he⟩
  (rw[<-qf2];delta Zi Zj Zq Z8 Zc Z7 Zp)
  have hlen:(v.take k).length=k:=by simp;omega
  unfold j7 at hs;simp only[dP,hlen];refine aW (λh=> ?_) λh=> ?_
  ·have hk:((k:Int)-1).toNat=k-1:=by omega
   have hg:(v.take k).getD (k-1) 0=v.getD (k-1) 0:=by simp[zab,show k-1<k by omega]
   obtain⟨j,rfl⟩: ∃j,k=j+1:=⟨k-1,by omega⟩
   simp only[hk];rw[lZ (by omega),hg];simp only[Nat.add_sub_cancel] at*
   refine bh (by omega) (bh (by omega) (aq (Mm _) (iK (λh'=> ?_) λh'=> ?_)))
   ·replace h':v.getD j 0=0:=h'
    refine bh (by omega) (bh (by omega) ?_);refine⟨_,zcR j,j,?_,⟨hs,by omega,by rw[<-he,pT,zap h']⟩,rfl⟩;simp[qaX,bt,List.take_take]
   replace h':v.getD j 0≠0:=h'
   have:bx v=v.take (j+1):=by rw[bx,<-he,pT,zan h']
   show _=_;rw[this]
  have:k=0:=by omega
  subst this;have:bx v=v.take 0:=by rw[bx,<-he];rfl
  show _=_;rw[this])
 (by rintro s ae ⟨v,rfl,h1,h2⟩;refine⟨v,v.length,by rw[zai],⟨h1,zal _,rfl⟩,?_⟩;rintro x rfl;exact h2)
def qiW:S->K (PX×S):=λs ae=> ∃v n,s=qfY v n/\(n=(v.length:Int)/\j7 v)/\ae (.exit 0,⟨21,[(0,vD v),(3,iD (pT v v.length))],[]⟩)
theorem qa0:LD X 64 2 (ah (aR 64 2) qiW):=LD.par (by kernel_rfl) (by kernel_rfl) .nil .nil
 (A:=List Int) (B:=Int) (λa k=>qfY a k)
 (λa k=>j7 a/\0<=k/\k<=a.length/\pT a k.toNat=pT a a.length)
 (λa k=>k.toNat)
 (λa x=>x=(.exit 0,⟨21,[(0,vD a),(3,iD (pT a a.length))],[]⟩))
 (by
  rintro v k ⟨hs,h0,h1,he⟩
  (rw[<-qf3];delta Zt Zu Zs Zi Zj Za Zc Z8 Z7 Z9 Zr)
  unfold j7 at hs;simp only[dP];refine aW (λh=> ?_) λh=> ?_
  ·have hj:k.toNat=(k-1).toNat+1:=by omega
   rw[lZ (by omega)];refine bh (by omega) (bh (by omega) (aq (Mm _) (iK (λh'=> ?_) λh'=> ?_)))
   ·replace h':v.getD (k-1).toNat 0=0:=h'
    refine bh (by omega) ⟨_,by omega,k-1,rfl,⟨hs,by omega,by omega,by rw[<-he,hj,pT,zap h']⟩,rfl⟩
   replace h':v.getD (k-1).toNat 0≠0:=h'
   rw[hj,pT,zan h'] at he;show _=_;rw[<-he];simp;omega
  have:k=0:=by omega
  subst this;show _=_;rw[<-he];rfl)
 (by rintro s ae ⟨v,n,rfl,⟨hn,h1⟩,h2⟩;refine⟨v,n,rfl,⟨h1,by omega,by omega,by rw[hn];rfl⟩,?_⟩;rintro x rfl;exact h2)
variable{X:XF}
def U6(f:Nat->Int) k (o:List Int):= ∀i,i<k->o.getD i 0=f i
theorem U6.set{f k o}(h:U6 f k o)(hk:k<o.length):U6 f (k+1) (o.set k (f k)):=λi hi=>by
 by_cases e:i=k
 ·subst e;simp[zab,hk]
 have:=h i (by omega);simpa [zab,List.getElem?_set,zbx e] using this
theorem U6.all{f o}(h:U6 f o.length o):o=qY o.length f:=ext_get (by simp) λi=>by
 rw[AL];split
 ·exact h i (by assumption)
 exact rF (by omega)
theorem Ra n f:qY (n+1) f=qY n f++[f n]:=by simp[qY,List.range_succ]
theorem qdW{m}(h:m<=1000000)(x:D):aG (m+List.length [x]) 8=true:=cL (by simp;omega) (by simp;omega)
def Ji(g:Int->Int->Int) v w n:=qY n λi=>g (eV v (i+1)) (eV w (i+1))
theorem Oi{f id n t:Nat}{H}(hH:HD X H)(hu:uniq PR f=true)(hc:cj (rE f) (bA PR f id)=true)
  {A:Type} (hd:A->List Int->Nat->Int->S) (Pre:A->Prop) (len:A->Nat) (F:A->Nat->Int)
  (hvc: ∀(a:A) (o:List Int) (m:Nat) (k:Int),Pre a->len a<=1000000->1<=k->k<=len a+1->m=o.length->(m:Int)+1=k-> ∀ae,(k<=len a->ae (.normal,hd a (o++[F a m]) (m+1) (k+1)))->(¬k<=len a->ae (.exit 0,⟨n,[(t,P.sl 0 0 m)],[(0,⟨0,none,.arr 3 false (bt o)⟩)]⟩))->aD H [] f id (hd a o m k) ae)
  {g} (hg: ∀s ae,g s ae-> ∃a,s=hd a [] 0 1/\Pre a/\len a<=1000000/\ae (.exit 0,⟨n,[(t,P.sl 0 0 (len a))],[(0,⟨0,none,.arr 3 false (bt (qY (len a) (F a)))⟩)]⟩)):
  LD X f id (ah (aR f id) g):=LD.par hu hc hH .nil
 (A:=A) (B:=List Int×Nat×Int) (λa b=>hd a b.1 b.2.1 b.2.2)
 (λa b=>Pre a/\len a<=1000000/\b.2.1<=len a/\b.1=qY b.2.1 (F a)/\b.2.2=b.2.1+1)
 (λa b=>len a+1-b.2.1)
 (λa x=>x=(.exit 0,⟨n,[(t,P.sl 0 0 (len a))],[(0,⟨0,none,.arr 3 false (bt (qY (len a) (F a)))⟩)]⟩))
 (by
  rintro a ⟨o,m,k⟩ ⟨hp,hl,hm,ho,hk⟩;dsimp only at*
  refine hvc a o m k hp hl (by omega) (by omega) (by rw[ho];simp) (by omega) _ (λh=> ?_) λh=> ?_
  ·exact⟨_,by dsimp only;omega,(o++[F a m],m+1,k+1),rfl,⟨hp,hl,by dsimp only;omega,by rw[ho,Ra],by dsimp only;omega⟩,rfl⟩
  have:m=len a:=by omega
  subst this;subst ho;rfl)
 (by intro s ae hs;obtain⟨a,rfl,h1,h2,h3⟩:=hg s ae hs;refine⟨a,([],0,1),rfl,⟨h1,h2,zbd _,rfl,rfl⟩,?_⟩;rintro x rfl;exact h3)
def qiX(g:Int->Int->Int):S->K (PX×S):=λs ae=> ∃v w es,s=⟨28,[(0,vD v),(1,vD w),(5,P.sl 0 0 0),(6,iD 1)],[(0,⟨0,none,.arr 3 false es⟩)]⟩/\(es=[]/\j7 v/\j7 w)/\
 ae (.exit 0,⟨28,[(5,P.sl 0 0 (max v.length w.length))],[(0,⟨0,none,.arr 3 false (bt (Ji g v w (max v.length w.length)))⟩)]⟩)
theorem qa1:LD X 38 3 (ah (aR 38 3) (qiX max)):=Oi (.cons Jg .nil) (by kernel_rfl) (by kernel_rfl)
 (A:=List Int×List Int) (λa o m k=>qiR a.1 a.2 o m k) (λa=>j7 a.1/\j7 a.2) (λa=>max a.1.length a.2.length) (λa i=>max (eV a.1 (i+1)) (eV a.2 (i+1)))
 (by
  rintro⟨v,w⟩ o m k ⟨hv,hw⟩ hl h1 h2 hm hk ae p1 p2;dsimp only at*
  unfold j7 at hv hw
  (rw[<-qf4];delta ZD ZB ZC Zl Zm ZA Zi Zk Zj Z8 Z7 Zh Zy Zz Zx Zt Zv Zc)
  simp only[dP];refine aW (λh=> ?_) λh=>p2 (by omega);refine⟨v,k,rfl,rfl,by omega,w,k,rfl,rfl,by omega,aq ?_ (aq (iZ (by omega) (by omega)) ?_)⟩
  ·rw[qdW (by omega)];simp;omega
  rw[wm hm];have:=p1 (by omega);rw[hk] at this;exact this)
 (by rintro s ae ⟨v,w,es,rfl,⟨rfl,hv,hw⟩,hp⟩;refine⟨(v,w),rfl,⟨hv,hw⟩,by unfold j7 at hv hw;dsimp only;omega,hp⟩)
def qiY:S->K (PX×S):=λs ae=> ∃v r n es,s=⟨39,[(0,vD v),(1,iD r),(2,iD n),(8,P.sl 0 0 0),(9,iD 1)],[(0,⟨0,none,.arr 3 false es⟩)]⟩/\(es=[]/\j7 v/\1<=r/\r<=16)/\
 ae (.exit 0,⟨39,[(8,P.sl 0 0 (max v.length r.toNat))],[(0,⟨0,none,.arr 3 false (bt (il v r n))⟩)]⟩)
theorem qa2:LD X 42 5 (ah (aR 42 5) qiY):=Oi (.cons Jg .nil) (by kernel_rfl) (by kernel_rfl)
 (A:=List Int×Int×Int) (λa o m k=>qiS a.1 o a.2.1 a.2.2 m k) (λa=>j7 a.1/\1<=a.2.1/\a.2.1<=16) (λa=>max a.1.length a.2.1.toNat) (λa i=>if(i:Int)+1=a.2.1 then a.2.2 else eV a.1 (i+1))
 (by
  rintro⟨v,r,n⟩ o m k ⟨hv,sv,hr1⟩ hl h1 h2 hm hk ae p1 p2;dsimp only at*
  unfold j7 at hv
  (rw[<-qf5];delta ZD ZB Zy Zz Zx Zt Zv Zi Zl Zm ZG ZF Zj Z8 Z7 Zh ZE Zc)
  simp only[dP];have pQ: ∀x:D,(Nat.ble m (bt o).length&&aG (m+List.length [x]) 8)=true:=λx=>by rw[qdW (by omega)];simp;omega
  simp only[dP] at pQ;refine aW (λh=> ?_) λh=>p2 (by omega);have:=p1 (by omega);rw[hk] at this;refine iK (λh'=> ?_) λh'=> ?_
  ·rw[zap h'] at this;refine aq (pQ _) (aq (iZ (by omega) (by omega)) ?_);rw[wm hm];exact this
  rw[zan h'] at this;refine⟨v,k,rfl,rfl,by omega,aq (pQ _) (aq (iZ (by omega) (by omega)) ?_)⟩;rw[wm hm];exact this)
 (by rintro s ae ⟨v,r,n,es,rfl,⟨rfl,hv,h1,h2⟩,hp⟩;refine⟨(v,r,n),rfl,⟨hv,h1,h2⟩,by unfold j7 at hv;dsimp only;omega,hp⟩)
def qiZ:S->K (PX×S):=λs ae=> ∃v n,s=qfZ v n 0/\(n=v.length/\j7 v)/\(¬(∀x∈v,0<=x)->ae (.ret,⟨25,[(0,vD v),(2,.d (.bool false))],[]⟩))/\((∀x∈v,0<=x)->ae (.exit 0,⟨25,[(0,vD v)],[]⟩))
def qi0:S->K (PX×S):=λs ae=> ∃v,s=qf0 v 0/\j7 v/\(¬(∀x∈v,0<=x)->ae (.ret,⟨24,[(0,vD v),(2,.d (.bool false))],[]⟩))/\((∀x∈v,0<=x)->ae (.exit 0,⟨24,[(0,vD v)],[]⟩))
def qdX:a8:=λps R ae=> ∃v w,ps=[vD v,vD w]/\R=[]/\j7 v/\ae (.d (.bool (decide (v=w))),[])
def qZ:a8:=λps R ae=> ∃v,ps=[vD v]/\R=[]/\j7 v/\ae (vD (bx v),[])
def U7:a8:=λps R ae=> ∃v w,ps=[vD v,vD w]/\R=[]/\(j7 v/\j7 w)/\ae (vD (nJ v w),[])
def qi1:a8:=λps R ae=> ∃v r n,ps=[vD v,iD r,iD n]/\R=[]/\j7 v/\(¬(1<=r/\r<=16)->ae (.dz [.sl 0 0 0,iD 1],[(0,⟨0,none,.arr 3 false []⟩)]))/\((1<=r/\r<=16)->ae (.dz [vD (bx (il v r n)),iD 0],[]))
def qi2:a8:=λps R ae=> ∃v,ps=[vD v]/\R=[]/\j7 v/\ae (.d (.bool (cT v)),[])
def ZL:=P.d (D.bool true)
def ZM(ae:P×List (Nat×En)->Prop):=ae (ZL,[])
def ZK:=[(5,P.d Z5)]
theorem qi3 v w ae:(bif Zc v !=Zc w then Z3 ae else∃dC DY,S.mk 26 (Zj v::Zk w::ZK) []=S.mk 26 (Zj dC::Zk DY::ZK) []/\(List.length dC=List.length DY/\j7 dC)/\(dC≠DY->Z3 ae)/\(dC=DY->ZM ae))=(aI [] [(4,ah (aR 184 4) qiU)] 184 [vD v,vD w] []) ae:=by kernel_rfl
theorem qi4 v ae:(∃dC,S.mk 21 [(0,P.d (D.sl 1 (bt v)))] []=S.mk 21 [(0,P.d (D.sl 1 (bt dC)))] []/\j7 dC/\ae (P.d (D.sl 1 (bt (bx dC))),[]))=(aI [] [(1,ah (aR 203 1) qiV)] 203 [vD v] []) ae:=by kernel_rfl
theorem qa3 v ae:(∃dC,[P.d (D.sl 1 (bt v))]=[P.d (D.sl 1 (bt dC))]/\EqR [] []/\j7 dC/\ae (P.d (D.sl 1 (bt (bx dC))),[]))=(aI [(203,qZ)] [] 149 [vD v] []) ae:=by kernel_rfl
theorem qi5 v ae:(∃dC n,S.mk 21 [Zj v,(3,P.d (D.int .i64 (Zc v)))] []=S.mk 21 (Zj dC::Zu n) []/\(n=(↑(List.length dC):Int)/\j7 dC)/\ob (decide ((0:Int)<=(↑(pT dC (List.length dC)):Int)/\(↑(pT dC (List.length dC)):Int)<=Zc dC)) (ae (P.d (D.sl 1 (List.drop 0 (List.take (pT dC (List.length dC)) (bt dC)))),[])))=(aI [] [(2,ah (aR 64 2) qiW)] 64 [vD v] []) ae:=by kernel_rfl
def ZR v:=[Zi v]
def ZQ es:=[(0,En.mk 0 none (Obj.arr (3:TypeId) false es))]
def ZS:=[(0,En.mk 0 none (Obj.arr (3:TypeId) false []))]
def ZO:=D.int .i64 (1:Int)
def ZN:=P.sl 0 0 0
def ZP dC DY:=[Zj dC,Zk DY,(5,ZN),(6,P.d ZO)]
theorem U8 v w ae:(∃dC DY es,S.mk 28 (ZP v w) ZS=S.mk 28 (ZP dC DY) (ZQ es)/\(es=[]/\j7 dC/\j7 DY)/\ ∃v,[P.d (D.sl 1 (List.take (max (List.length dC) (List.length DY)) (bt (Ji max dC DY (max (List.length dC) (List.length DY))))))]=ZR v/\Zx/\j7 v/\ae (P.d (D.sl 1 (bt (bx v))),[]))=(aI [(64,qZ)] [(3,ah (aR 38 3) (qiX max))] 38 [vD v,vD w] []) ae:=by kernel_rfl
def ZV:=[P.d Z5]
def ZU dC fK iC:=[Zj dC,(1,P.d (Zt fK)),ZF iC,(8,ZN),(9,P.d ZO)]
def ZT(ae:P×List (Nat×En)->Prop):=ae (P.dz [ZN,P.d ZO],ZS)
theorem qa4 v r n ae:(bif decide (r<(1:Int)) then ZT ae else bif decide (r>(16:Int)) then ZT ae else∃dC fK iC es,S.mk 39 (ZU v r n) ZS=S.mk 39 (ZU dC fK iC) (ZQ es)/\(es=[]/\j7 dC/\(1:Int)<=fK/\fK<=(16:Int))/\ ∃v,[P.d (D.sl 1 (List.take (max (List.length dC) (Ze fK)) (bt (il dC fK iC))))]=ZR v/\Zx/\j7 v/\ae (P.dz (P.d (D.sl 1 (bt (bx v)))::ZV),[]))=(aI [(64,qZ)] [(5,ah (aR 42 5) qiY)] 42 [vD v,iD r,iD n] []) ae:=by kernel_rfl
def ZX(dC:List Int):= ∀x,x∈dC->(0:Int)<=x
def ZW:=[(7,P.d Z5)]
theorem qi6 v ae:(∃dC n,S.mk 25 (Zj v::(5,Zi v)::(6,P.d (D.int .i64 (Zc v)))::ZW) []=S.mk 25 (Zj dC::(5,Zi dC)::ZI n::ZW) []/\(n=(↑(List.length dC):Int)/\j7 dC)/\(¬ZX dC->Z3 ae)/\(ZX dC->bif decide (Zc dC<=(16:Int)) then∃v,ZR dC=ZR v/\Zx/\j7 v/\ae (P.d (D.bool ((↑(List.length (bt (bx v))):Int)==Zc dC)),[]) else Z3 ae))=(aI [(149,qZ)] [(2,ah (aR 105 2) qiZ)] 105 [vD v] []) ae:=by kernel_rfl
def ZY dC:=S.mk 24 [Zj dC,(3,P.d Z5)] []
theorem qi7 v ae:(∃dC,ZY v=ZY dC/\j7 dC/\(¬ZX dC->Z3 ae)/\(ZX dC->bif decide (Zc dC<=(16:Int)) then∃v,ZR dC=ZR v/\Zx/\j7 v/\ ∃v_2 w,[Zi dC,P.d (D.sl 1 (bt (bx v)))]=Zi v_2::ZR w/\Zx/\j7 v_2/\ae (P.d (D.bool (decide (v_2=w))),[]) else Z3 ae))=(aI [(64,qZ),(184,qdX)] [(2,ah (aR 140 2) qi0)] 140 [vD v] []) ae:=by kernel_rfl
variable{X:XF}
theorem FY(v:List Int):(∀x∈v,0<=x)↔ ∀i,i<v.length->0<=v.getD i 0:=by
 constructor
 ·intro h i hi;have:=h v[i] (zas hi);simpa [zab,hi] using this
 intro h x hx;obtain⟨i,hi,rfl⟩:=zaQ hx;have:=h i hi;simpa [zab,hi] using this
theorem qa5:LD X 105 2 (ah (aR 105 2) qiZ):=LD.par (by kernel_rfl) (by kernel_rfl) .nil .nil
 (A:=List Int×Int) (B:=Int) (λa k=>qfZ a.1 a.2 k)
 (λa k=>(a.2=a.1.length/\j7 a.1)/\0<=k/\k<=a.1.length/\ ∀i:Nat,(i:Int)<k->0<=a.1.getD i 0)
 (λa k=>(a.1.length-k).toNat)
 (λa x=>((¬ ∀x∈a.1,0<=x)/\x=(.ret,⟨25,[(0,vD a.1),(2,.d (.bool false))],[]⟩))\/((∀x∈a.1,0<=x)/\x=(.exit 0,⟨25,[(0,vD a.1)],[]⟩)))
 (by
  rintro⟨v,n⟩ k ⟨⟨hn,hs⟩,h0,h1,he⟩;dsimp only at*
  subst hn
  (rw[<-qf6];delta Zl Zm ZJ Zt ZI Zi Z8 Z7 Zh Z2 Zj Ze Zf Zc Zd ZH)
  unfold j7 at hs;simp only[dP];refine aW (λh=> ?_) λh=> ?_
  ·rw[lZ (by omega)];refine bh (by omega) (aq (Mm _) (aW (λh'=> ?_) λh'=>aq (iZ (by omega) (by omega)) ?_))
   ·replace h':v.getD k.toNat 0<0:=h'
    refine .inl ⟨λhh=> ?_,rfl⟩;have:=(FY v).1 hh k.toNat (by omega);omega
   replace h': ¬v.getD k.toNat 0<0:=h'
   exact⟨_,by omega,k+1,rfl,⟨⟨by simp,hs⟩,by omega,by first |omega | (dsimp only;omega),λi hi=>by
    by_cases e:(i:Int)=k
    ·have:i=k.toNat:=by omega
     rw[this];first |omega | (dsimp only;omega)
    exact he i (by omega)⟩,rfl⟩
  exact .inr ⟨(FY v).2 λi hi=>he i (by omega),rfl⟩)
 (by
  rintro s ae ⟨v,n,rfl,⟨hn,h1⟩,h2,h3⟩;refine⟨(v,n),0,rfl,⟨⟨hn,h1⟩,by omega,by omega,λi hi=>by omega⟩,?_⟩;rintro x (⟨h,rfl⟩| ⟨h,rfl⟩)
  ·exact h2 h
  exact h3 h)
theorem qa6:LD X 140 2 (ah (aR 140 2) qi0):=LD.par (by kernel_rfl) (by kernel_rfl) .nil .nil
 (A:=List Int) (B:=Int) (λa k=>qf0 a k)
 (λa k=>j7 a/\0<=k/\k<=a.length/\ ∀i:Nat,(i:Int)<k->0<=a.getD i 0)
 (λa k=>(a.length-k).toNat)
 (λa x=>((¬ ∀x∈a,0<=x)/\x=(.ret,⟨24,[(0,vD a),(2,.d (.bool false))],[]⟩))\/((∀x∈a,0<=x)/\x=(.exit 0,⟨24,[(0,vD a)],[]⟩)))
 (by
  rintro v k ⟨hs,h0,h1,he⟩
  (rw[<-qf7];delta Zl Zm Z8 Z7 Zh Z2 Zi Zj Ze Zf Zc Zd)
  unfold j7 at hs;simp only[dP];refine aW (λh=> ?_) λh=> ?_
  ·rw[lZ (by omega)];refine bh (by omega) (aq (Mm _) (aW (λh'=> ?_) λh'=>aq (iZ (by omega) (by omega)) ?_))
   ·replace h':v.getD k.toNat 0<0:=h'
    refine .inl ⟨λhh=> ?_,rfl⟩;have:=(FY v).1 hh k.toNat (by omega);omega
   replace h': ¬v.getD k.toNat 0<0:=h'
   exact⟨_,by omega,k+1,rfl,⟨hs,by omega,by omega,λi hi=>by
    by_cases e:(i:Int)=k
    ·have:i=k.toNat:=by omega
     rw[this];omega
    exact he i (by omega)⟩,rfl⟩
  exact .inr ⟨(FY v).2 λi hi=>he i (by omega),rfl⟩)
 (by
  rintro s ae ⟨v,rfl,h1,h2,h3⟩;refine⟨v,0,rfl,⟨h1,by omega,by omega,λi hi=>by omega⟩,?_⟩;rintro x (⟨h,rfl⟩| ⟨h,rfl⟩)
  ·exact h2 h
  exact h3 h)
theorem qf8:FD X 184 qdX:=FD.mk (by kernel_rfl) .nil (.cons qaY .nil) (by
 intro ps R ae hh;obtain⟨v,w,rfl,rfl,hv,hp⟩:=hh
 (rw[<-qi3];delta ZL ZM Z5 ZK Zi Zk Zj Z2 Z3 Zc)
 simp only[dP];refine Jh (λh=> ?_) λh=>⟨v,w,rfl,⟨by omega,hv⟩,λhn=> ?_,λhe=> ?_⟩
 ·exact gh hp (l0 λe=>h (by rw[e]))
 ·exact gh hp (l0 hn)
 exact gh hp (iz he))
theorem qi8:FD X 203 qZ:=FD.mk (by kernel_rfl) .nil (.cons qaZ .nil) (by intro ps R ae hh;obtain⟨v,rfl,rfl,hv,hp⟩:=hh;rw[<-qi4];exact⟨v,rfl,hv,hp⟩)
theorem qa7:FD X 149 qZ:=FD.mk (by kernel_rfl) (.cons qi8 .nil) .nil (by intro ps R ae hh;obtain⟨v,rfl,rfl,hv,hp⟩:=hh;rw[<-qa3];exact⟨v,rfl,rfl,hv,hp⟩)
theorem U9:FD X 64 qZ:=FD.mk (by kernel_rfl) .nil (.cons qa0 .nil) (by
 intro ps R ae hh;obtain⟨v,rfl,rfl,hv,hp⟩:=hh
 (rw[<-qi5];delta Zt Zu Zc Zi Zj)
 simp only[dP];refine⟨v,_,rfl,⟨rfl,hv⟩,bh ?_ ?_⟩
 ·have:=tG v v.length;omega
 rw[Q9];exact hp)
theorem Oj g v w m:(Ji g v w m).length=m:=by simp[Ji]
theorem uQ{o m}(h:o.length=m):(bt o).take m=bt o:=by rw[zak (by simp[h])]
theorem Va:FD X 38 U7:=FD.mk (by kernel_rfl) (.cons U9 .nil) (.cons qa1 .nil) (by
 intro ps R ae hh;obtain⟨v,w,rfl,rfl,h,hp⟩:=hh
 (rw[<-U8];delta Zx Zi ZR ZQ ZS ZO ZN Zk Zj ZP)
 refine⟨v,w,_,rfl,⟨rfl,h⟩,Ji max v w (max v.length w.length),by rw[uQ (Oj ..)],rfl,?_,hp⟩;unfold j7 at*;rw[Oj];omega)
theorem qi9:FD X 105 qi2:=FD.mk (by kernel_rfl) (.cons qa7 .nil) (.cons qa5 .nil) (by
 intro ps R ae hh;obtain⟨v,rfl,rfl,hv,hp⟩:=hh
 (rw[<-qi6];delta Zx Zi ZR Z2 Z3 ZX Zt ZI Z5 ZW Zc Zj)
 simp only[dP];refine⟨v,_,rfl,⟨rfl,hv⟩,λh=>gh hp (l0 λhh=>h hh.1),λh=>aW (λh'=>⟨v,rfl,rfl,hv,?_⟩) λh'=> ?_⟩
 ·refine gh hp ?_;rw[cT,zaG];simp only[zah,za1];constructor
  ·rintro⟨_,_,h3⟩;omega
  intro h3;exact⟨h,by omega,by omega⟩
 exact gh hp (l0 λhh=>h' (by omega)))
theorem qja:FD X 140 qi2:=FD.mk (by kernel_rfl) (.cons U9 (.cons qf8 .nil)) (.cons qa6 .nil) (by
 intro ps R ae hh;obtain⟨v,rfl,rfl,hv,hp⟩:=hh
 (rw[<-qi7];delta Zi Zx ZR Zc Z2 Z3 ZX Z5 Zj ZY)
 simp only[dP];refine⟨v,rfl,hv,λh=>gh hp (l0 λhh=>h hh.1),λh=>aW (λh'=>⟨v,rfl,rfl,hv,v,bx v,rfl,rfl,hv,?_⟩) λh'=> ?_⟩
 ·refine gh hp ?_;rw[cT,zaG];simp only[zah];constructor
  ·rintro⟨_,_,h3⟩;have hl:=tG v v.length;rw[tH] at h3;rw[bx,h3,zai]
  intro h3;exact⟨h,by omega,by rw[<-h3]⟩
 exact gh hp (l0 λhh=>h' (by omega)))
theorem qa8:FD X 42 qi1:=FD.mk (by kernel_rfl) (.cons U9 .nil) (.cons qa2 .nil) (by
 intro ps R ae hh;obtain⟨v,r,n,rfl,rfl,hv,bI,dV⟩:=hh
 (rw[<-qa4];delta Z5 ZV Zx Zi ZR Ze ZQ ZS ZO ZN Zt ZF Zj ZU ZT)
 have Qh:=hv;unfold j7 at Qh;have hl:(il v r n).length=max v.length r.toNat:=by simp[il]
 refine aW (λh=>bI (by omega)) λh=>aW (λh'=>bI (by omega)) λh'=>⟨v,r,n,_,rfl,⟨rfl,hv,by omega,by omega⟩,il v r n,by rw[uQ hl],rfl,by unfold j7;rw[hl];omega,dV (by omega)⟩)
def qdY:a8:=λps R ae=> ∃n,ps=[.d (.int .i64 n)]/\R=[]/\(-9223372036854775808<=n/\n<=9223372036854775807)/\ae (.d (.str (Lib.itoa n)),[])
def gi t r i:=Lib.itoa t++[46]++Lib.itoa r++[46]++Lib.itoa i
def iL t r i:=if bf t r i=true then gi t r i else []
def Ol:a8:=λps R ae=> ∃t r i,ps=[.d (Mk t r i)]/\R=[]/\ae (.d (.str (iL t r i)),[])
def SE:=[(46:UInt8)]
def Z15 n iC:=Lib.itoa n++SE++Lib.itoa iC++SE
def Z16 n iC Vb (ae:P×List (Nat×En)->Prop):=ob (decide (List.length (Z15 n iC)+List.length (Lib.itoa Vb)<=Zy)) (ae (P.d (D.str (Z15 n iC++Lib.itoa Vb)),[]))
def Z14 n iC:=decide (List.length (Lib.itoa n++SE++Lib.itoa iC)+1<=Zy)
def Z13 n iC:=decide (List.length (Lib.itoa n++SE)+List.length (Lib.itoa iC)<=Zy)
def Z11 n:=decide (List.length (Lib.itoa n)+1<=Zy)
def oP:=D.str []
def ZZ js fK bg:=[P.d (D.agg (Zt js::Zt fK::ZE bg))]
theorem qf9 t r i ae:(∃js fK bg,ZZ t r i=ZZ js fK bg/\Zx/\bif !bf js fK bg then ae (P.d oP,[]) else∃n,Zv t=Zv n/\Zx/\(Z7<=n/\n<=Z8)/\ob (Z11 n) (∃iC,Zv r=Zv iC/\Zx/\(Z7<=iC/\iC<=Z8)/\ob (Z13 n iC) (ob (Z14 n iC) (∃Vb,Zv i=Zv Vb/\Zx/\(Z7<=Vb/\Vb<=Z8)/\Z16 n iC Vb ae))))=(aI [(124,ou),(233,qdY)] [] 168 [.d (Mk t r i)] []) ae:=by kernel_rfl
variable{X:XF}
theorem qga:FD X 233 qdY:=FD.rZ Tryz.func233 (by kernel_rfl) (by kernel_rfl) (by intro ps R ae hh;obtain⟨n,rfl,rfl,hc,hp⟩:=hh;refine⟨_,?_,hp⟩;show Od [.d (.int .i64 n)] []=_;exact zap hc)
theorem CL: ∀u,(Lib.decDigits u).length<=u+1:=by
 intro u
 induction u using Nat.strongRecOn with
 |_ u ih=>
  rw[Lib.decDigits];split
  ·simp
  have:=ih (u/10) (by omega);simp only[zaj,zao,zav];omega
theorem ow{n}(h0:0<=n)(h1:n<=1099511627776):(Lib.itoa n).length<=1099511627777:=by unfold Lib.itoa;rw[zan (by omega)];have:=CL n.toNat;omega
theorem qgb:FD X 168 Ol:=FD.mk (by kernel_rfl) (.cons wk (.cons qga .nil)) .nil (by
 intro ps R ae hh;obtain⟨t,r,i,rfl,rfl,hp⟩:=hh
 (rw[<-qf9];delta Zy SE Z15 Z16 Z14 Z13 Z11 Z8 Z7 Zt Zv oP Zx ZE ZZ)
 refine⟨_,_,_,rfl,rfl,ay (λh=> ?_) λh=> ?_⟩
 ·have h:bf t r i=false:=by simpa using h
  rw[iL,zan (by simp[h])] at hp;exact hp
 have h:bf t r i=true:=by simpa using h
 rw[iL,zap h] at hp;simp only[bf,zah] at h;have l1:=ow (n:=t) (by omega) (by omega);have l2:=ow (n:=r) (by omega) (by omega);have l3:=ow (n:=i) (by omega) (by omega);refine⟨_,rfl,rfl,⟨by omega,by omega⟩,aq (by simp;omega) ⟨_,rfl,rfl,⟨by omega,by omega⟩,aq (by simp;omega) (aq (by simp;omega) ⟨_,rfl,rfl,⟨by omega,by omega⟩,aq (by simp;omega) hp⟩)⟩⟩)
def AO(s:List UInt8):Option (Int×Int×Int):=match Lib.split s [46] with
 | [a,b,c]=>if bf (qW a) (qW b) (qW c)=true/\gi (qW a) (qW b) (qW c)=s then some (qW a,qW b,qW c) else none
 |_=>none
structure qm6(s:List UInt8):Prop where
 len:s.length<4294967281
 cnt:(Lib.split s [46]).length=Lib.count s [46]+1
 lim:Lib.count s [46]<=4294967281
 each: ∀x∈Lib.split s [46],x.length<=281474976710656
def splitBy(c:UInt8):List UInt8->List (List UInt8)
 | []=>[[]]
 |b::l=>if b=c then []::splitBy c l else match splitBy c l with |h::t=>(b::h)::t | []=>[[b]]
theorem DZ c: ∀s,Lib.splitK [c] 0 (s.count c) s=splitBy c s
 | []=>rfl
 |b::l=>by
  have ih:=DZ c l;by_cases h:b=c
  ·subst h;rw[zbP,splitBy,zap rfl,Lib.splitK];have hix:Lib.index (b::l) [b]=0:=by rw[Lib.index];simp[List.isPrefixOf]
   rw[zan (by rw[hix];decide),hix];simp[ih]
  have hp:([c]:List UInt8).isPrefixOf (b::l)=false:=by simp[List.isPrefixOf,zbx h]
  have hix:Lib.index (b::l) [c]=if Lib.index l [c]== -1 then-1 else Lib.index l [c]+1:=by rw[Lib.index,hp];simp
  rw[zcY (by simpa using h),splitBy,zan h];cases hk:l.count c with
  |zero=>rw[hk] at ih;rw[<-ih];rfl
  |succ m=>
   rw[hk] at ih;have hc1:Lib.count l [c]=m+1:=by rw[Lib.count_one,hk]
   by_cases hm:Lib.index l [c]= -1
   ·rw[Lib.count_miss hm] at hc1;omega
   have hge:=Lib.index_ge l [c];obtain⟨j,hj⟩: ∃j:Nat,Lib.index l [c]=j:=⟨(Lib.index l [c]).toNat,by omega⟩
   rw[Lib.splitK,zan (by rw[hj];simp),hj] at ih;rw[Lib.splitK,hix,hj];have e1:((j:Int)== -1)=false:=by rw[zcc];omega
   have e2:(((j:Int)+1)== -1)=false:=by rw[zcc];omega
   simp only[e1,zaE,zbn,e2];rw[<-ih];simp only[zbM,zbR,zb1];rw[show((j:Int)+1).toNat=j+1 by omega];simp
theorem Vc c s:Lib.split s [c]=splitBy c s:=by rw[Lib.split,Lib.count_one,DZ]
theorem AP c: ∀s,c∉s->splitBy c s=[s]
 | [],_=>rfl
 |b::l,h=>by simp at h;unfold splitBy;rw[zan (zbx h.1),AP c l h.2]
theorem q4 c t: ∀s,c∉s->splitBy c (s++c::t)=s::splitBy c t
 | [],_=>by simp[splitBy]
 |b::l,h=>by simp at h;rw[zdr,splitBy,zan (zbx h.1),q4 c t l h.2]
def xD(b:UInt8):=decide (48<=b.toNat/\b.toNat<=57)
def oz a (b:UInt8):=a*10+(b.toNat-48)
def wo(l:List UInt8):=l.foldl oz 0
def kx k:=UInt8.ofNat (48+k)
theorem tJ{k}(h:k<10):(kx k).toNat=48+k:=by unfold kx;rw[UInt8.toNat_ofNat'];omega
theorem AQ{k}(h:k<10):xD (kx k)=true:=by unfold xD;rw[tJ h];simp;omega
theorem lj{u}(h:u<10):Lib.decDigits u=[kx u]:=by rw[Lib.decDigits,dif_pos h];rfl
theorem uR{u}(h: ¬u<10):Lib.decDigits u=Lib.decDigits (u/10)++[kx (u%10)]:=by rw[Lib.decDigits,dif_neg h];rfl
theorem Mn l b:wo (l++[b])=oz (wo l) b:=by simp[wo]
theorem yQ: ∀u,∀b∈Lib.decDigits u,xD b=true:=by
 intro u
 induction u using Nat.strongRecOn with
 |_ u ih=>
  intro b hb;by_cases h:u<10
  ·rw[lj h] at hb;simp at hb;subst hb;exact AQ h
  rw[uR h] at hb;rcases zaz.1 hb with hb |hb
  ·exact ih (u/10) (by omega) b hb
  simp at hb;subst hb;exact AQ (by omega)
theorem qa9: ∀u,wo (Lib.decDigits u)=u:=by
 intro u
 induction u using Nat.strongRecOn with
 |_ u ih=>
  by_cases h:u<10
  ·rw[lj h];simp[wo,oz,tJ h]
  rw[uR h,Mn,ih (u/10) (by omega),oz,tJ (by omega)];omega
theorem qgc u:Lib.decDigits u≠[]:=by
 by_cases h:u<10
 ·rw[lj h];simp
 rw[uR h];simp
theorem Om: ∀k u,u<10^(k+1)->(Lib.decDigits u).length<=k+1
 |0,u,h=>by rw[lj (by simpa using h)];simp
 |k+1,u,h=>by
  by_cases hu:u<10
  ·rw[lj hu];simp
  rw[uR hu];have:=Om k (u/10) (by rw[zcV (by omega)];rw[Nat.pow_succ] at h;exact h);simp;omega
theorem D0: ∀(l:List UInt8) (a:Nat),a<=l.foldl oz a
 | [],a=>zal _
 |b::l,a=>by have:=D0 l (oz a b);simp only[zaO];unfold oz at this⊢;omega
theorem Vd: ∀l a,(∀b∈l,xD b=true)->l.foldl oz a<18446744073709551616->Lib.parseUint10 a l= .ok (l.foldl oz a)
 | [],a,_,_=>rfl
 |b::l,a,hd,bK=>by
  have hb:=hd b (by simp);unfold xD at hb;simp only[zah] at hb;simp only[zaO] at bK⊢;have h1:=D0 l (oz a b);have h2:oz a b<18446744073709551616:=by omega
  have e:a*10+(b.toNat-48)=oz a b:=rfl;rw[Lib.parseUint10,zap hb,zan (by unfold oz at h2;omega),e,zan (by omega)];exact Vd l _ (λb hb=>hd b (by simp[hb])) bK
theorem AR{u}(h:u<9223372036854775808):qW (Lib.decDigits u)=u:=by
 have hv:=qa9 u;unfold wo at hv;have hp:=Vd (Lib.decDigits u) 0 (yQ u) (by rw[hv];omega);rw[hv] at hp;unfold qW Lib.atoiAll;cases hd:Lib.decDigits u with
 |nil=>exact absurd hd (qgc u)
 |cons c r=>
  have hc:=yQ u c (by rw[hd];simp);unfold xD at hc;simp only[zah] at hc;have e1: ¬(c.toNat=43\/c.toNat=45):=by omega
  have e2: ¬c.toNat=45:=by omega
  rw[hd] at hp;have hm:Lib.parseMag (c::r)= .ok u:=by rw[Lib.parseMag,zan (by simp),hp]
  have e3: ¬(¬c.toNat=45/\9223372036854775808<=u):=by omega
  have e4: ¬(c.toNat=45/\9223372036854775808<u):=by omega
  dsimp only;rw[zan e1,hm];dsimp only;rw[zan e3,zan e4,zan e2]
theorem Ve(a:Nat):Lib.itoa (a:Int)=Lib.decDigits a:=by unfold Lib.itoa;rw[zan (by omega)];rfl
theorem qgd a:(46:UInt8)∉Lib.decDigits a:=λh=>by have:=yQ a 46 h;simp[xD] at this
theorem Mp a b c:splitBy 46 (Lib.decDigits a++46::(Lib.decDigits b++46::Lib.decDigits c))=[Lib.decDigits a,Lib.decDigits b,Lib.decDigits c]:=by rw[q4 _ _ _ (qgd a),q4 _ _ _ (qgd b),AP _ _ (qgd c)]
abbrev sD(s:List UInt8):P:= .d (.str s)
abbrev qge(n:Int)(s:List UInt8):S:=⟨37,[(0,iD n),(3,sD s)],[]⟩
def qjb:S->K (PX×S):=λs ae=> ∃n,s=qge n []/\(0<=n/\n<=9223372036854775807)/\ ∀n' s',(0<=n'/\n'<=9/\s'.length<=9223372036854775807/\Lib.decDigits n.toNat=kx n'.toNat::s')->ae (.exit 0,⟨37,[(0,iD n'),(3,sD s')],[]⟩)
def On:a8:=λps R ae=> ∃n,ps=[iD n]/\R=[]/\(0<=n/\n<=9223372036854775807)/\ae (sD (Lib.itoa n),[])
def sI(s:List UInt8):=List.length s
def Z17(n:Int):=[UInt8.ofNat (Int.toNat (D.aj (D.int .u8 (IntKind.wrap IntKind.u8 ((48:Int)+Int.tmod n (10:Int))))))]
theorem qgf n s ae:(bif decide (n>(9:Int)) then ob (decide (Z7<=(48:Int)+Int.tmod n (10:Int)/\(48:Int)+Int.tmod n (10:Int)<=Z8)) (ob (decide (List.length (Z17 n)+sI s<=Zy)) (ob (decide (Z7<=Int.tdiv n (10:Int)/\Int.tdiv n (10:Int)<=Z8)) (ae (PX.normal,S.mk 37 [(0,P.d (D.int .i64 (Int.tdiv n (10:Int)))),(3,P.d (D.str (Z17 n++s)))] [])))) else ae (PX.exit 0,S.mk 37 [(0,P.d (Zt n)),(3,P.d (D.str s))] []))=(aD [] [] 278 4 (qge n s)) ae:=by kernel_rfl
def Z1c n':=[UInt8.ofNat (Int.toNat (D.aj (D.int .u8 (IntKind.wrap IntKind.u8 ((48:Int)+n')))))]
def Z1b iC:=(0:Int)<=iC/\iC<=Z8
def Z1a iC:=S.mk 37 [(0,P.d (Zt iC)),(3,P.d oP)] []
def Rb n:=decide (n<(0:Int))
theorem qjc n ae:(bif Rb n then ob (decide (Z7<=(0:Int)-n/\(0:Int)-n<=Z8)) False else∃iC,Z1a n=Z1a iC/\Z1b iC/\ ∀n' s',(0:Int)<=n'/\n'<=(9:Int)/\sI s'<=Zy/\Lib.decDigits (Ze iC)=kx (Ze n')::s'->ob (decide (Z7<=(48:Int)+n'/\(48:Int)+n'<=Z8)) (ob (decide (List.length (Z1c n')+sI s'<=Zy)) (ae (P.d (D.str (Z1c n'++s')),[]))))=(aI [(278,λ_ _ _=>False)] [(4,ah (aR 278 4) qjb)] 278 [iD n] []) ae:=by kernel_rfl
theorem qba t r i ae:(∃js fK bg,ZZ t r i=ZZ js fK bg/\Zx/\bif !bf js fK bg then ae (P.d oP,[]) else∃n,Zv t=Zv n/\Zx/\Z1b n/\ob (Z11 n) (∃iC,Zv r=Zv iC/\Zx/\Z1b iC/\ob (Z13 n iC) (ob (Z14 n iC) (∃Vb,Zv i=Zv Vb/\Zx/\Z1b Vb/\Z16 n iC Vb ae))))=(aI [(278,On),(192,ou)] [] 249 [.d (Mk t r i)] []) ae:=by kernel_rfl
variable{X:XF}
theorem AT{k}(h0:0<=k)(h1:k<=9):UInt8.ofNat (Int.toNat (D.aj (D.int .u8 (IntKind.wrap .u8 (48+k)))))=kx k.toNat:=by have:IntKind.wrap .u8 (48+k)=48+k:=IntWalk.u8_in (48+k) ⟨by omega,by omega⟩;simp only[D.aj,this,kx];congr 1;omega
theorem qbb:LD X 278 4 (ah (aR 278 4) qjb):=LD.par (by kernel_rfl) (by kernel_rfl) .nil .nil
 (A:=Int) (B:=Int×List UInt8) (λ_ b=>qge b.1 b.2)
 (λa b=>0<=b.1/\b.1<=9223372036854775807/\b.1.toNat+b.2.length<=9223372036854775807/\Lib.decDigits a.toNat=Lib.decDigits b.1.toNat++b.2)
 (λ_ b=>b.1.toNat)
 (λa x=> ∃n' s',(0<=n'/\n'<=9/\s'.length<=9223372036854775807/\Lib.decDigits a.toNat=kx n'.toNat::s')/\x=(.exit 0,⟨37,[(0,iD n'),(3,sD s')],[]⟩))
 (by
  rintro a ⟨n,s⟩ ⟨h0,h1,hl,he⟩;dsimp only at*
  (rw[<-qgf];delta Zt Zy sI Z17 Z8 Z7)
  refine aW (λh=> ?_) λh=> ?_
  ·have ed:Int.tdiv n 10=((n.toNat/10:Nat):Int):=by rw[Int.tdiv_eq_ediv_of_nonneg (by omega)];omega
   have em:Int.tmod n 10=((n.toNat%10:Nat):Int):=by rw[Int.tmod_eq_emod_of_nonneg (by omega)];omega
   rw[ed,em,AT (by omega) (by omega)];refine bh (by omega) (bh (by simp;omega) (bh (by omega) ?_));refine⟨_,?_,(((n.toNat/10:Nat):Int),kx (n.toNat%10)::s),rfl,⟨by omega,by dsimp only;omega,by simp;omega,?_⟩,rfl⟩
   ·dsimp only;omega
   rw[he,uR (by omega: ¬n.toNat<10)];simp only[zbR,zaK,zcp]
  rw[lj (u:=n.toNat) (by omega)] at he;exact⟨n,s,⟨h0,by omega,by omega,he⟩,rfl⟩)
 (by rintro s ae ⟨n,rfl,⟨h1,h2⟩,h3⟩;refine⟨n,(n,[]),rfl,⟨h1,h2,by simp;omega,by simp⟩,?_⟩;rintro x ⟨n',s',h,rfl⟩;exact h3 n' s' h)
theorem hQ{n}(h0:0<=n)(h1:n<=9223372036854775807):(Lib.itoa n).length<=21:=by
 have h:=Om 20 n.toNat (by
  have:(10:Nat)^21=1000000000000000000000:=by decide
  omega)
 unfold Lib.itoa;rw[zan (by omega)];exact h
theorem Vf:FD X 278 On:=FD.mk (H:=[(278,λ_ _ _=>False)]) (by kernel_rfl) (.cons (λ_ _ _ h=>h.elim) .nil) (.cons qbb .nil) (by
 intro ps R ae hh;obtain⟨n,rfl,rfl,⟨h0,h1⟩,hp⟩:=hh
 (rw[<-qjc];delta Z1c Ze Zy sI Z8 Z1b oP Zt Z1a Z7 Rb)
 refine aW (λh=>by omega) λh=>⟨n,rfl,⟨h0,h1⟩,?_⟩
 rintro n' s' ⟨a0,a1,a2,a3⟩;have hs:Lib.itoa n=kx n'.toNat::s':=by rw[<-a3];unfold Lib.itoa;rw[zan (by omega)]
 rw[AT a0 a1];have hl:(Lib.itoa n).length<=21:=hQ h0 h1;rw[hs] at hl hp;simp at hl;exact bh (by omega) (bh (by simp;omega) hp))
theorem q5{α:Type} p: ∀(l:List α),(l.takeWhile p).length<l.length-> ∃x,l[(l.takeWhile p).length]?=some x/\p x=false
 | [],h=>by simp at h
 |x::l,h=>by
  cases hx:p x with
  |false=>refine⟨x,?_,hx⟩;simp[List.takeWhile,hx]
  |true=>simp only[List.takeWhile,hx,zao] at h⊢;obtain⟨y,h1,h2⟩:=q5 p l (by omega);exact⟨y,by simpa using h1,h2⟩
theorem qbc:FD X 249 Ol:=FD.mk (by kernel_rfl) (.cons Vf (.cons tI .nil)) .nil (by
 intro ps R ae hh;obtain⟨t,r,i,rfl,rfl,hp⟩:=hh
 (rw[<-qba];delta Zy SE Z15 Z16 Z14 Z13 Z11 Z8 Z1b Zt Zv oP Zx ZE ZZ)
 refine⟨_,_,_,rfl,rfl,ay (λh=> ?_) λh=> ?_⟩
 ·have h:bf t r i=false:=by simpa using h
  rw[iL,zan (by simp[h])] at hp;exact hp
 have h:bf t r i=true:=by simpa using h
 rw[iL,zap h] at hp;simp only[bf,zah] at h;have l1:=ow (n:=t) (by omega) (by omega);have l2:=ow (n:=r) (by omega) (by omega);have l3:=ow (n:=i) (by omega) (by omega);exact⟨_,rfl,rfl,⟨by omega,by omega⟩,aq (by simp;omega) ⟨_,rfl,rfl,⟨by omega,by omega⟩,aq (by simp;omega) (aq (by simp;omega) ⟨_,rfl,rfl,⟨by omega,by omega⟩,aq (by simp;omega) hp⟩)⟩⟩)
theorem Mq{a b c:Nat}(h:bf a b c=true):a<10^15/\b<10^15/\c<10^15:=by
 simp only[bf,zah] at h;have:(10:Nat)^15=1000000000000000:=by decide
 omega
theorem wq(a b c:Nat):gi a b c=Lib.decDigits a++46::(Lib.decDigits b++46::Lib.decDigits c):=by simp[gi,Ve]
theorem q6{a b c:Nat}(h:bf a b c=true):AO (gi a b c)=some ((a:Int),(b:Int),(c:Int)):=by
 obtain⟨h1,h2,h3⟩:=Mq h;have p15:(10:Nat)^15=1000000000000000:=by decide
 unfold AO;rw[Vc,wq,Mp];simp only[AR (u:=a) (by omega),AR (u:=b) (by omega),AR (u:=c) (by omega)];rw[zap ⟨h,by rw[wq]⟩]
theorem Jj{s t r i}(h:AO s=some (t,r,i)):bf t r i=true/\gi t r i=s:=by
 unfold AO at h;split at h
 ·split at h
  next hc=>simp only[zam,zbt] at h;obtain⟨rfl,rfl,rfl⟩:=h;exact hc
  cases h
 cases h
theorem qbd{t r i}(h:bf t r i=true): ∃a b c:Nat,t=a/\r=b/\i=c:=by simp only[bf,zah] at h;exact⟨t.toNat,r.toNat,i.toNat,by omega,by omega,by omega⟩
def Mr:List UInt8:=[48,49,50,51,52,53,54,55,56,57,65,66,67,68,69,70,71,72,73,74,75,76,77,78,79,80,81,82,83,84,85,86,87,88,89,90,97,98,99,100,101,102,103,104,105,106,107,108,109,110,111,112,113,114,115,116,117,118,119,120,121,122,46,45,95]
def iM(b:UInt8):=decide ((48<=b.toNat/\b.toNat<=57)\/(65<=b.toNat/\b.toNat<=90)\/(97<=b.toNat/\b.toNat<=122)\/b.toNat=46\/b.toNat=45\/b.toNat=95)
theorem Rc: ∀n:Fin 256,Mr.contains (UInt8.ofNat n.val)=iM (UInt8.ofNat n.val):=by decide+kernel
theorem Ms b:Mr.contains b=iM b:=by have:=Rc ⟨b.toNat,b.toNat_lt⟩;simpa using this
def bX s:=decide (s≠[]/\s.length<=32/\s≠[46]/\s≠[46,46]/\ ∀b∈s,iM b=true)
theorem dropWhile_nil{α:Type} p: ∀l:List α,l.dropWhile p=[]↔ ∀b∈l,p b=true
 | []=>by simp
 |x::l=>by
  cases h:p x with
  |true=>simp[List.dropWhile,h,dropWhile_nil p l]
  |false=>simp[List.dropWhile,h]
theorem Vg s cs:Lib.trimS s cs=[]↔ ∀b∈s,cs.contains b=true:=by
 unfold Lib.trimS Lib.trimLeftS Lib.trimRightS;rw[dropWhile_nil];constructor
 ·intro h b hb;have hr:b∈s.reverse:=by simpa using hb
  rw[<-List.takeWhile_append_dropWhile (p:=(cs.contains ·)) (l:=s.reverse)] at hr;rcases zaz.1 hr with h1 |h1
  ·exact zbj.1 (List.all_takeWhile (p:=(cs.contains ·)) (l:=s.reverse)) b h1
  exact h b (by simpa using h1)
 intro h b hb;have hb:b∈s.reverse.dropWhile (cs.contains ·):=by simpa using hb
 exact h b (by simpa using(List.dropWhile_sublist _).subset hb)
def pre c (s:List UInt8):=s.takeWhile (· !=c)
theorem Vh c s:(pre c s).length<=s.length:=(List.takeWhile_prefix _).length_le
theorem AU c s:s.take (pre c s).length=pre c s:=(List.prefix_iff_eq_take.1 (List.takeWhile_prefix _)).symm
theorem qgg c s:c∉pre c s:=λh=>by have:=zbj.1 (List.all_takeWhile (p:=(· !=c)) (l:=s)) c h;simp at this
theorem Jk{c s}(h:(pre c s).length<s.length):s.getD (pre c s).length 0=c:=by obtain⟨x,h1,h2⟩:=q5 (· !=c) s h;have h1:s[(pre c s).length]?=some x:=h1;simp only[zab,h1,zca];simpa using h2
theorem Jl{c s}:(pre c s).length=s.length↔c∉s:=by
 constructor
 ·intro h hc;have:=AU c s;rw[h,zai] at this;exact qgg c s (this▸hc)
 intro h;have:=Vh c s;refine zaZ λhc=>h ?_;have h1:=Jk (c:=c) (s:=s) (by omega);rw[zab,zad (by omega)] at h1;exact h1▸zas (by omega)
theorem FZ{c s}(h:c∉s):pre c s=s:=by have:=AU c s;rw[Jl.2 h,zai] at this;exact this.symm
theorem Oo{c} t: ∀{s:List UInt8},c∉s->pre c (s++c::t)=s
 | [],_=>by simp[pre]
 |b::l,h=>by
  simp at h;have hb:(b !=c)=true:=by simpa using zbx h.1
  have ih:=Oo t h.2;unfold pre at ih⊢;simp[hb,ih]
def q7 s:=bX (pre 126 s)&&(decide (126∉s)|| (AO (s.drop ((pre 126 s).length+1))).isSome)
def sJ l:=47::Lib.join l [47]
theorem Mt x y l:Lib.join (x::y::l) [47]=x++47::Lib.join (y::l) [47]:=by simp[Lib.join,List.intercalate]
theorem join_one x:Lib.join [x] [47]=x:=by simp[Lib.join,List.intercalate]
theorem yR{s c}(h:bX s=true)(hc:iM c=false):c∉s:=λhm=>by simp only[bX,zah] at h;rw[h.2.2.2.2 c hm] at hc;cases hc
theorem qbe{t r i}(h:bf t r i=true){c}(hc:xD c=false)(hd:c≠46):c∉gi t r i:=by
 obtain⟨a,b,d,rfl,rfl,rfl⟩:=qbd h;rw[wq];have no: ∀u,c∉Lib.decDigits u:=λu hm=>by rw[yQ u c hm] at hc;cases hc
 simp[no,hd]
theorem Oq{s}(h:q7 s=true):(47:UInt8)∉s:=by
 simp only[q7,zac,za8,zah] at h;obtain⟨h1,h2⟩:=h;have hn:(47:UInt8)∉pre 126 s:=yR h1 rfl;rcases h2 with h2 |h2
 ·rwa [FZ h2] at hn
 by_cases hm:(126:UInt8)∈s
 ·obtain⟨x,hx⟩:=Option.isSome_iff_exists.1 h2;obtain⟨t,r,i⟩:=x;obtain⟨h3,h4⟩:=Jj hx;have hd:(47:UInt8)∉s.drop ((pre 126 s).length+1):=by rw[<-h4];exact qbe h3 rfl (by decide)
  intro dB;have bK:(pre 126 s).length<s.length:=by have:=Vh 126 s;refine zda this λe=>Jl.1 e hm
  rw[<-zbJ (pre 126 s).length s,AU,za5 bK] at dB;have kH:=Jk bK;rw[zab,zad bK,zca] at kH;rcases zaz.1 dB with hh |hh
  ·exact hn hh
  rw[kH] at hh;rcases zat.1 hh with hh |hh
  ·exact absurd hh (by decide)
  exact hd hh
 rwa [FZ hm] at hn
def gw(s:List UInt8)(t r i:Int):List UInt8×Int:=if bX s=true then(if bf t r i=true then(s++126::gi t r i,0) else([],1)) else([],70)
theorem wu{s t r i}(h:bX s=true):pre 126 (s++126::gi t r i)=s:=Oo _ (yR h rfl)
theorem Mu{s t r i}(h:bX s=true)(h':bf t r i=true):q7 (s++126::gi t r i)=true:=by
 have hd:(s++126::gi t r i).drop (s.length+1)=gi t r i:=by simp
 simp only[q7,wu h,h,hd,zaW];obtain⟨a,b,c,rfl,rfl,rfl⟩:=qbd h';rw[q6 h'];simp
theorem AV{s t r i}:bX (s++126::gi t r i)=false:=by
 cases h:bX (s++126::gi t r i) with
 |false=>rfl
 |true=>exact absurd (by simp) (yR h (c:=126) rfl)
theorem Re{s s' t r i t' r' i'}(h:bX s=true)(h1:bf t r i=true)(h':bX s'=true)(LC:bf t' r' i'=true)(e:s++126::gi t r i=s'++126::gi t' r' i'):s=s'/\t=t'/\r=r'/\i=i':=by
 have hp:=congrArg (pre 126) e;rw[wu h,wu h'] at hp;subst hp;have ht:gi t r i=gi t' r' i':=by simpa using e
 obtain⟨a,b,c,rfl,rfl,rfl⟩:=qbd h1;obtain⟨a',b',c',rfl,rfl,rfl⟩:=qbd LC;have:=q6 h1;rw[ht,q6 LC] at this;simp only[zam,zbt] at this;exact⟨rfl,this.1.symm,this.2.1.symm,this.2.2.symm⟩
section
variable{X:XF}
theorem AW t r i:(iL t r i).length<=2000000:=by
 unfold iL;split
 next h=>simp only[bf,zah] at h;have l1:=hQ (n:=t) (by omega) (by omega);have l2:=hQ (n:=r) (by omega) (by omega);have l3:=hQ (n:=i) (by omega) (by omega);simp[gi];omega
 simp
end
abbrev tD(l:List (List UInt8)):P:= .d (.sl 1 (l.map D.str))
abbrev mB(b:Bool):P:= .d (.bool b)
def qdZ:a8:=λps R ae=> ∃s c,ps=[sD s,sD c]/\R=[]/\(s.length<=9223372036854775807/\c.length<4294967281/\c.all (λb=>decide (b.toNat<128))=true)/\ae (sD (Lib.trimS s c),[])
def Vi:a8:=λps R ae=> ∃l c,ps=[tD l,sD c]/\R=[]/\(l.length<=140737488355328/\(Lib.join l c).length<=140737488355328)/\ae (sD (Lib.join l c),[])
def D1:a8:=λps R ae=> ∃s,ps=[sD s]/\R=[]/\ae (mB (bX s),[])
def F4:a8:=λps R ae=> ∃s t r i,ps=[sD s,.d (Mk t r i)]/\R=[]/\ae (.dz [sD (gw s t r i).1,iD (gw s t r i).2],[])
abbrev nmH(s:List UInt8)(k:Int):S:=⟨64,[(0,sD s),(3,iD k)],[]⟩
def pU c:=[P.d (D.str c)]
def F5 s:=(↑(sI s):Int)
theorem qgh s ae:(bif !s==[] then bif decide (F5 s<=(32:Int)) then bif !s==SE then bif !s==(46:UInt8)::SE then∃iW c,[P.d (D.str s),P.d (D.str (have y:List UInt8:=have y:List UInt8:=have y:List UInt8:=have y:List UInt8:=[(121:UInt8),(122:UInt8),(46:UInt8),(45:UInt8),(95:UInt8)];(117:UInt8)::(118:UInt8)::(119:UInt8)::(120:UInt8)::y;have y:List UInt8:=(113:UInt8)::(114:UInt8)::(115:UInt8)::(116:UInt8)::y;(109:UInt8)::(110:UInt8)::(111:UInt8)::(112:UInt8)::y;have y:List UInt8:=have y:List UInt8:=(105:UInt8)::(106:UInt8)::(107:UInt8)::(108:UInt8)::y;(101:UInt8)::(102:UInt8)::(103:UInt8)::(104:UInt8)::y;have y:List UInt8:=(97:UInt8)::(98:UInt8)::(99:UInt8)::(100:UInt8)::y;(87:UInt8)::(88:UInt8)::(89:UInt8)::(90:UInt8)::y;have y:List UInt8:=have y:List UInt8:=have y:List UInt8:=(83:UInt8)::(84:UInt8)::(85:UInt8)::(86:UInt8)::y;(79:UInt8)::(80:UInt8)::(81:UInt8)::(82:UInt8)::y;have y:List UInt8:=(75:UInt8)::(76:UInt8)::(77:UInt8)::(78:UInt8)::y;(71:UInt8)::(72:UInt8)::(73:UInt8)::(74:UInt8)::y;have y:List UInt8:=have y:List UInt8:=(67:UInt8)::(68:UInt8)::(69:UInt8)::(70:UInt8)::y;(56:UInt8)::(57:UInt8)::(65:UInt8)::(66:UInt8)::y;have y:List UInt8:=(52:UInt8)::(53:UInt8)::(54:UInt8)::(55:UInt8)::y;(48:UInt8)::(49:UInt8)::(50:UInt8)::(51:UInt8)::y))]=P.d (D.str iW)::pU c/\Zx/\(sI iW<=Zy/\sI c<4294967281/\(List.all c λb=>decide (UInt8.toNat b<128))=true)/\ae (P.d (D.bool (Lib.trimS iW c==[])),[]) else Z3 ae else Z3 ae else Z3 ae else Z3 ae)=(aI [(153,qdZ)] [] 112 [sD s] []) ae:=by kernel_rfl
def Z1g k (ae:PX×S->Prop) s:=ob (Zh k) (ae (PX.normal,S.mk 64 [(0,P.d (D.str s)),(3,Zm k)] []))
def Z1f s k:=(↑(UInt8.toNat (List.getD s (Ze k) (0:UInt8))):Int)
def Z1h s k ae:=bif Z1f s k==(46:Int) then Z1g k ae s else bif Z1f s k==(45:Int) then Z1g k ae s else bif !Z1f s k==(95:Int) then ae (PX.ret,S.mk 64 [(2,P.d Z2)] []) else Z1g k ae s
def Z1i s k ae:=bif decide (Z1f s k>=(97:Int)) then bif decide (Z1f s k<=(122:Int)) then Z1g k ae s else Z1h s k ae else Z1h s k ae
def Z1j s k ae:=bif decide (Z1f s k>=(65:Int)) then bif decide (Z1f s k<=(90:Int)) then Z1g k ae s else Z1i s k ae else Z1i s k ae
theorem qjd s k ae:(bif decide (k<F5 s) then ob (decide ((0:Int)<=k/\k<F5 s)) (bif decide (Z1f s k>=(48:Int)) then bif decide (Z1f s k<=(57:Int)) then Z1g k ae s else Z1j s k ae else Z1j s k ae) else ae (PX.exit 0,S.mk 64 [] []))=(aD [] [] 186 4 (nmH s k)) ae:=by kernel_rfl
def Z1l js fK bg (ae:P×List (Nat×En)->Prop) s:=bif iL js fK bg==[] then ae (P.dz [P.d oP,P.d ZO],[]) else ob (decide (sI s+1<=Zy)) (ob (decide (List.length (s++[(126:UInt8)])+List.length (iL js fK bg)<=Zy)) (ae (P.dz (P.d (D.str (s++[(126:UInt8)]++iL js fK bg))::ZV),[])))
def Z1k(ae:P×List (Nat×En)->Prop):=ae (P.dz [P.d oP,P.d (D.int .i64 (70:Int))],[])
theorem qbf s t r i ae:(∃js fK bg,ZZ t r i=ZZ js fK bg/\Zx/\ ∃iW,pU s=pU iW/\Zx/\bif !bX iW then Z1k ae else Z1l js fK bg ae s)=(aI [(112,D1),(168,Ol)] [] 127 [sD s,.d (Mk t r i)] []) ae:=by kernel_rfl
theorem Vj s t r i ae:(∃iW,pU s=pU iW/\Zx/\bif !bX iW then Z1k ae else∃js fK bg,ZZ t r i=ZZ js fK bg/\Zx/\Z1l js fK bg ae s)=(aI [(186,D1),(249,Ol)] [] 193 [sD s,.d (Mk t r i)] []) ae:=by kernel_rfl
def Z1n:=[(47:UInt8)]
def Z1m av:=P.d (D.sl 1 (List.map D.str av))
theorem qgi l ae:(∃av c,[Z1m l,P.d (D.str Z1n)]=Z1m av::pU c/\Zx/\(List.length av<=140737488355328/\List.length (Lib.join av c)<=140737488355328)/\ob (decide (1+List.length (Lib.join av c)<=Zy)) (ae (P.d (D.str (Z1n++Lib.join av c)),[])))=(aI [(169,Vi)] [] 128 [tD l] []) ae:=by kernel_rfl
section
variable{X:XF}
theorem qgj:FD X 153 qdZ:=FD.rZ Tryz.func153 (by kernel_rfl) (by kernel_rfl) (by intro ps R ae hh;obtain⟨s,c,rfl,rfl,hc,hp⟩:=hh;refine⟨_,?_,hp⟩;show Oe [.d (.str s),.d (.str c)] []=_;exact zap hc)
theorem AX: ∀l,qX (l.map D.str)=some l
 | []=>rfl
 |x::l=>by simp[qX,AX l]
theorem qbg:FD X 169 Vi:=FD.rZ Tryz.func169 (by kernel_rfl) (by kernel_rfl) (by intro ps R ae hh;obtain⟨l,c,rfl,rfl,hc,hp⟩:=hh;refine⟨_,?_,hp⟩;show I8 [.d (.sl 1 (l.map D.str)),.d (.str c)] []=_;unfold I8;simp only[AX];exact zap hc)
theorem Mv:FD X 112 D1:=FD.mk (by kernel_rfl) (.cons qgj .nil) .nil (by
 intro ps R ae hh;obtain⟨s,rfl,rfl,hp⟩:=hh
 (rw[<-qgh];delta Z2 Z3 Zy sI Zx pU SE F5)
 refine ay (λh1=>aW (λh2=>ay (λh3=>ay (λh4=>⟨s,Mr,rfl,rfl,⟨by omega,by decide,by decide⟩,?_⟩) λh4=> ?_) λh3=> ?_) λh2=> ?_) λh1=> ?_
 ·refine gh hp ?_;rw[zaG,bX,za1,Vg];simp only[Ms,zah];constructor
  ·intro h;exact h.2.2.2.2
  intro h;exact⟨by simpa using h1,by omega,by simpa using h3,by simpa using h4,h⟩
 ·exact gh hp (l0 λh=>by simp at h4;exact h.2.2.2.1 h4)
 ·exact gh hp (l0 λh=>by simp at h3;exact h.2.2.1 h3)
 ·exact gh hp (l0 λh=>by omega)
 exact gh hp (l0 λh=>by simp at h1;exact h.1 h1))
theorem Rf b:iM b=true↔((48<=(b.toNat:Int)/\(b.toNat:Int)<=57)\/(65<=(b.toNat:Int)/\(b.toNat:Int)<=90)\/(97<=(b.toNat:Int)/\(b.toNat:Int)<=122)\/(b.toNat:Int)=46\/(b.toNat:Int)=45\/(b.toNat:Int)=95):=by unfold iM;simp only[zah];omega
theorem Jm(p:UInt8->Bool)(s:List UInt8):(∀b∈s,p b=true)↔ ∀i,i<s.length->p (s.getD i 0)=true:=by
 constructor
 ·intro h i hi;have:=h s[i] (zas hi);simpa [zab,hi] using this
 intro h x hx;obtain⟨i,hi,rfl⟩:=zaQ hx;have:=h i hi;simpa [zab,hi] using this
def gNm:S->K (PX×S):=λs ae=> ∃l,s=nmH l 0/\l.length<=32/\(¬(∀b∈l,iM b=true)->ae (.ret,⟨64,[(2,mB false)],[]⟩))/\((∀b∈l,iM b=true)->ae (.exit 0,⟨64,[],[]⟩))
theorem qgk:LD X 186 4 (ah (aR 186 4) gNm):=LD.par (by kernel_rfl) (by kernel_rfl) .nil .nil
 (A:=List UInt8) (B:=Int) (λa k=>nmH a k)
 (λa k=>a.length<=32/\0<=k/\k<=a.length/\ ∀i:Nat,(i:Int)<k->iM (a.getD i 0)=true)
 (λa k=>(a.length-k).toNat)
 (λa x=>((¬ ∀b∈a,iM b=true)/\x=(.ret,⟨64,[(2,mB false)],[]⟩))\/((∀b∈a,iM b=true)/\x=(.exit 0,⟨64,[],[]⟩)))
 (by
  rintro l k ⟨hs,h0,h1,he⟩
  (rw[<-qjd];delta Z2 Zl Zm Z8 Z7 Zh Z1g Ze Z1f Z1h Z1i Z1j sI F5)
  have hb:=Rf (l.getD k.toNat 0);have bI: ¬iM (l.getD k.toNat 0)=true->k<l.length-> ¬ ∀b∈l,iM b=true:=λh hk hh=>h ((Jm _ l).1 hh k.toNat (by omega));have dV:iM (l.getD k.toNat 0)=true->k<l.length->roundPost (l.length-k).toNat (λm s=> ∃b',s=nmH l b'/\(l.length<=32/\0<=b'/\b'<=(l.length:Int)/\ ∀i:Nat,(i:Int)<b'->iM (l.getD i 0)=true)/\m=(l.length-b').toNat) (λx=>((¬ ∀b∈l,iM b=true)/\x=(.ret,⟨64,[(2,mB false)],[]⟩))\/((∀b∈l,iM b=true)/\x=(.exit 0,⟨64,[],[]⟩))) (PX.normal,nmH l (k+1)):=λh hk=>
   ⟨_,by omega,k+1,rfl,⟨hs,by omega,by omega,λi hi=>by
    by_cases e:(i:Int)=k
    ·have:i=k.toNat:=by omega
     rw[this];exact h
    exact he i (by omega)⟩,rfl⟩
  generalize (((l.getD k.toNat 0).toNat:Nat):Int)=b at*
  refine aW (λh=>bh (by omega) ?_) λh=> .inr ⟨(Jm _ l).2 λi hi=>he i (by omega),rfl⟩
  repeat' (first |refine aW (λ_=> ?_) (λ_=> ?_)|refine iK (λ_=> ?_) (λ_=> ?_)|refine Jh (λ_=> ?_) (λ_=> ?_))
  all_goals first
   |exact absurd (iZ (k:=k) (by omega) (by omega)) (by simp;omega)
   |exact dV (hb.2 (by omega)) h
   |exact .inl ⟨bI (λhh=>by have:=hb.1 hh;omega) h,rfl⟩)
 (by
  rintro s ae ⟨l,rfl,h1,h2,h3⟩;refine⟨l,0,rfl,⟨h1,by omega,by omega,λi hi=>by omega⟩,?_⟩;rintro x (⟨h,rfl⟩| ⟨h,rfl⟩)
  ·exact h2 h
  exact h3 h)
end
section
variable{X:XF}
theorem qje x:bO PR 9 (.str x)=true:=by kernel_rfl
theorem Vk{l:List (List UInt8)}{i}(h:i<l.length):D.nth (l.map D.str) i= .str (l.getD i []):=by simp[D.nth,h]
end
def dm(l:List (List UInt8)):=l.flatMap λx=>47::x
def ye l:=(dm l).length
def Mw:a8:=λps R ae=> ∃l,ps=[tD l]/\R=[]/\ye l<=2000000/\ae (sD (sJ l),[])
def Z1p l:=S.mk 64 [(0,P.d (D.str l)),(3,P.d Z5)] []
theorem qbh s ae:(bif s==[] then Z3 ae else bif decide (F5 s>(32:Int)) then Z3 ae else bif s==SE then Z3 ae else bif s==(46:UInt8)::SE then Z3 ae else∃l,Z1p s=Z1p l/\sI l<=32/\((¬∀b,b∈l->iM b=true)->Z3 ae)/\((∀b,b∈l->iM b=true)->ZM ae))=(aI [] [(4,ah (aR 186 4) gNm)] 186 [sD s] []) ae:=by kernel_rfl
section
variable{X:XF}
theorem F6:FD X 186 D1:=FD.mk (by kernel_rfl) .nil (.cons qgk .nil) (by
 intro ps R ae hh;obtain⟨s,rfl,rfl,hp⟩:=hh
 (rw[<-qbh];delta ZL ZM sI Z5 Z1p SE F5 Z2 Z3)
 refine ay (λh1=> ?_) λh1=>aW (λh2=> ?_) λh2=>ay (λh3=> ?_) λh3=>ay (λh4=> ?_) λh4=>⟨s,rfl,by omega,λbI=> ?_,λdV=> ?_⟩
 ·exact gh hp (l0 λh=>h.1 (by simpa using h1))
 ·exact gh hp (l0 λh=>by omega)
 ·exact gh hp (l0 λh=>h.2.2.1 (by simpa using h3))
 ·exact gh hp (l0 λh=>h.2.2.2.1 (by simpa using h4))
 ·exact gh hp (l0 λh=>bI h.2.2.2.2)
 exact gh hp (iz ⟨by simpa using h1,by omega,by simpa using h3,by simpa using h4,dV⟩))
theorem qbi l:l.length<=ye l:=by
 induction l with
 |nil=>simp
 |cons x l ih=>simp[ye,dm] at ih⊢;omega
theorem F7: ∀l,l≠[]->dm l=sJ l
 | [],h=>absurd rfl h
 | [x],_=>by simp[dm,sJ,join_one]
 |x::y::l,_=>by have ih:=F7 (y::l) (by simp);rw[sJ,Mt];rw[sJ] at ih;rw[<-ih];simp[dm]
theorem Rg l:(sJ l).length<=ye l+1:=by
 cases l with
 |nil=>simp[sJ,Lib.join,List.intercalate]
 |cons x l=>rw[<-F7 (x::l) (by simp)];unfold ye;omega
theorem qgl:FD X 128 Mw:=FD.mk (by kernel_rfl) (.cons qbg .nil) .nil (by
 intro ps R ae hh;obtain⟨l,rfl,rfl,hl,hp⟩:=hh
 (rw[<-qgi];delta Zy Zx pU Z1n Z1m)
 have h1:=qbi l;have h2:=Rg l;simp[sJ] at h2;exact⟨l,[47],rfl,rfl,⟨by omega,by omega⟩,bh (by omega) hp⟩)
theorem pA{t r i}:iL t r i=[]↔bf t r i=false:=by
 unfold iL;split
 next h=>simp[h,gi]
 rename_i h;simpa using h
theorem qbj:FD X 127 F4:=FD.mk (by kernel_rfl) (.cons Mv (.cons qgb .nil)) .nil (by
 intro ps R ae hh;obtain⟨s,t,r,i,rfl,rfl,hp⟩:=hh
 (rw[<-qbf];delta Z5 ZV Zy sI ZO oP Z1l Z1k pU Zx Zt ZE ZZ)
 unfold gw at hp;refine⟨t,r,i,rfl,rfl,s,rfl,rfl,ay (λh=> ?_) λh=>ay (λh2=> ?_) λh2=> ?_⟩
 ·rw[zan (by simpa using h)] at hp;exact hp
 ·have h2:bf t r i=false:=pA.1 (by simpa using h2);rw[zap (by simpa using h),zan (by simp[h2])] at hp;exact hp
 have hn:bX s=true:=by simpa using h
 have hi:bf t r i=true:=by
  cases hi:bf t r i with
  |true=>rfl
  |false=>rw[pA.2 hi] at h2;simp at h2
 rw[zap hn,zap hi] at hp;have hl:=AW t r i;simp only[bX,zah] at hn;refine bh (by omega) (bh (by simp;omega) ?_);rw[iL,zap hi];simpa using hp)
theorem Vl:FD X 193 F4:=FD.mk (by kernel_rfl) (.cons F6 (.cons qbc .nil)) .nil (by
 intro ps R ae hh;obtain⟨s,t,r,i,rfl,rfl,hp⟩:=hh
 (rw[<-Vj];delta Z5 ZV Zy sI ZO oP Z1l Zt ZE ZZ Z1k Zx pU)
 unfold gw at hp;refine⟨s,rfl,rfl,ay (λh=> ?_) λh=>⟨t,r,i,rfl,rfl,ay (λh2=> ?_) λh2=> ?_⟩⟩
 ·rw[zan (by simpa using h)] at hp;exact hp
 ·have h2:bf t r i=false:=pA.1 (by simpa using h2);rw[zap (by simpa using h),zan (by simp[h2])] at hp;exact hp
 have hn:bX s=true:=by simpa using h
 have hi:bf t r i=true:=by
  cases hi:bf t r i with
  |true=>rfl
  |false=>rw[pA.2 hi] at h2;simp at h2
 rw[zap hn,zap hi] at hp;have hl:=AW t r i;simp only[bX,zah] at hn;refine bh (by omega) (bh (by simp;omega) ?_);rw[iL,zap hi];simpa using hp)
end
def Vm:a8:=λps R ae=> ∃s,ps=[sD s]/\R=[]/\s.length<=2000000/\ae (mB (Lib.validD s),[])
def Vn:a8:=λps R ae=> ∃s,ps=[sD s]/\R=[]/\s.length<=2000000/\ae (iD (Lib.runeCount ⟨⟨s⟩⟩),[])
def Z1r:=[P.d (D.int .i64 (60:Int))]
def KV iW:=sI iW<=2000000
theorem qjf s ae:(∃iW,pU s=pU iW/\Zx/\KV iW/\bif !Lib.validD iW then ae (P.dz (P.d Z5::Z1r),[]) else∃s_2,pU s=pU s_2/\Zx/\KV s_2/\ae (P.dz (P.d (D.int .i64 (↑(Lib.runeCount (ByteArray.mk (Array.mk s_2))):Int))::ZV),[]))=(aI [(154,Vm),(155,Vn)] [] 115 [sD s] []) ae:=by kernel_rfl
section
variable{X:XF}
theorem qbk:FD X 154 Vm:=FD.rZ Tryz.func154 (by kernel_rfl) (by kernel_rfl) (by rintro ps R ae ⟨s,rfl,rfl,hs,hp⟩;exact⟨_,zap (by omega),hp⟩)
theorem qbl:FD X 155 Vn:=FD.rZ Tryz.func155 (by kernel_rfl) (by kernel_rfl) (by rintro ps R ae ⟨s,rfl,rfl,hs,hp⟩;exact⟨_,zap (by omega),hp⟩)
end
abbrev En3:=List UInt8×Bool×List UInt8
def enD(e:En3):D:= .agg [.str e.1,.bool e.2.1,.str e.2.2]
def SmE(l:List En3):=l.length<=2000000/\ ∀e∈l,e.1.length<=2000000/\e.2.2.length<=2000000
def b9:=P.ref 0 0 0
def tK:=[b9]
def SmX(l:List En3):=l.length<=2000/\ ∀e∈l,e.1.length<=10000/\e.2.2.length<=10000
section
variable{X:XF}
theorem SmX.e{l}(h:SmX l):SmE l:=⟨by have:=h.1;omega,λe he=>by have:=h.2 e he;omega⟩
end
def Mx s:=(Lib.decodeL s).1=65533/\(Lib.decodeL s).2=1
def Vo:a8:=λps R ae=> ∃s,ps=[sD s]/\R=[]/\(s≠[]/\s.length<=2000000)/\(Mx s-> ∀c n,ae (.dz [iD c,iD n,mB false],[]))/\(¬Mx s-> ∀(c:Int) (n:Int),n=(Lib.decodeL s).2->1<=n->n.toNat<=s.length->ae (.dz [iD c,iD n,mB true],[]))
def Ot:=[ZL]
def Z1S s:=(↑(UInt8.toNat (List.getD s 3 (0:UInt8))):Int)
def Jn s:=(↑(UInt8.toNat (List.getD s 2 (0:UInt8))):Int)
def Hl s:=(↑(UInt8.toNat (List.getD s 1 (0:UInt8))):Int)
def D2 s:=(↑(UInt8.toNat (List.getD s 0 (0:UInt8))):Int)
def Z1Q s:=(D2 s-(240:Int))*(64:Int)
def Z1R s:=(Z1Q s+Hl s-(128:Int))*(64:Int)
def Z1T s:=(Z1R s+Jn s-(128:Int))*(64:Int)
def Z1U s:=Z1T s+Z1S s-(128:Int)
def Z1V(ae:P×List (Nat×En)->Prop) s:=ae (P.dz (P.d (D.int .i64 (Z1U s))::P.d (D.int .i64 (4:Int))::Ot),[])
def Z1L s:=decide ((0:Int)<=(1:Int)+(1:Int)/\(1:Int)+(1:Int)<F5 s)
def Z1F s:=decide (Hl s>=(192:Int))
def Z1E s:=decide (Hl s<(128:Int))
def Z1D s:=decide (Z7<=Hl s/\Hl s<=Z8)
def Z1B s:=decide ((0:Int)<=(1:Int)/\(1:Int)<F5 s)
def Rh:=[P.d Z2]
def xE(ae:P×List (Nat×En)->Prop):=ae (P.dz (P.d Z5::P.d Z5::Rh),[])
def Z1W s ae:=bif decide (D2 s>=(240:Int)) then bif decide (D2 s<(245:Int)) then ob (decide (Z7<=D2 s-(240:Int)/\D2 s-(240:Int)<=Z8)) (bif decide (F5 s<(4:Int)) then xE ae else ob (Z1B s) (ob (Z1D s) (bif Z1E s then xE ae else bif Z1F s then xE ae else ob (decide (Z7<=Z1Q s/\Z1Q s<=Z8)) (ob (decide (Z7<=Z1Q s+Hl s/\Z1Q s+Hl s<=Z8)) (ob (decide (Z7<=Z1Q s+Hl s-(128:Int)/\Z1Q s+Hl s-(128:Int)<=Z8)) (ob (Z1L s) (ob (decide (Z7<=Jn s/\Jn s<=Z8)) (bif decide (Jn s<(128:Int)) then xE ae else bif decide (Jn s>=(192:Int)) then xE ae else ob (decide (Z7<=Z1R s/\Z1R s<=Z8)) (ob (decide (Z7<=Z1R s+Jn s/\Z1R s+Jn s<=Z8)) (ob (decide (Z7<=Z1R s+Jn s-(128:Int)/\Z1R s+Jn s-(128:Int)<=Z8)) (ob (decide ((0:Int)<=(1:Int)+(1:Int)+(1:Int)/\(1:Int)+(1:Int)+(1:Int)<F5 s)) (ob (decide (Z7<=Z1S s/\Z1S s<=Z8)) (bif decide (Z1S s<(128:Int)) then xE ae else bif decide (Z1S s>=(192:Int)) then xE ae else ob (decide (Z7<=Z1T s/\Z1T s<=Z8)) (ob (decide (Z7<=Z1T s+Z1S s/\Z1T s+Z1S s<=Z8)) (ob (decide (Z7<=Z1U s/\Z1U s<=Z8)) (bif decide (Z1U s<(65536:Int)) then xE ae else bif decide (Z1U s>(1114111:Int)) then xE ae else bif decide (Z1U s>=(55296:Int)) then bif decide (Z1U s<(57344:Int)) then xE ae else Z1V ae s else Z1V ae s)))))))))))))))) else xE ae else xE ae
def Z1K s:=(D2 s-(224:Int))*(64:Int)
def Z1N s:=(Z1K s+Hl s-(128:Int))*(64:Int)
def Z1O s:=Z1N s+Jn s-(128:Int)
def Z1P(ae:P×List (Nat×En)->Prop) s:=ae (P.dz (P.d (D.int .i64 (Z1O s))::P.d (D.int .i64 (3:Int))::Ot),[])
def Z1X s ae:=bif decide (D2 s>=(224:Int)) then bif decide (D2 s<(240:Int)) then ob (decide (Z7<=D2 s-(224:Int)/\D2 s-(224:Int)<=Z8)) (bif decide (F5 s<(3:Int)) then xE ae else ob (Z1B s) (ob (Z1D s) (bif Z1E s then xE ae else bif Z1F s then xE ae else ob (decide (Z7<=Z1K s/\Z1K s<=Z8)) (ob (decide (Z7<=Z1K s+Hl s/\Z1K s+Hl s<=Z8)) (ob (decide (Z7<=Z1K s+Hl s-(128:Int)/\Z1K s+Hl s-(128:Int)<=Z8)) (ob (Z1L s) (ob (decide (Z7<=Jn s/\Jn s<=Z8)) (bif decide (Jn s<(128:Int)) then xE ae else bif decide (Jn s>=(192:Int)) then xE ae else ob (decide (Z7<=Z1N s/\Z1N s<=Z8)) (ob (decide (Z7<=Z1N s+Jn s/\Z1N s+Jn s<=Z8)) (ob (decide (Z7<=Z1O s/\Z1O s<=Z8)) (bif decide (Z1O s<(2048:Int)) then xE ae else bif decide (Z1O s>(1114111:Int)) then xE ae else bif decide (Z1O s>=(55296:Int)) then bif decide (Z1O s<(57344:Int)) then xE ae else Z1P ae s else Z1P ae s))))))))))) else Z1W s ae else Z1W s ae
def Z1I:=D.int .i64 (2:Int)
def Z1G s:=(D2 s-(192:Int))*(64:Int)
def Z1H s:=Z1G s+Hl s-(128:Int)
def Z1J(ae:P×List (Nat×En)->Prop) s:=ae (P.dz (P.d (D.int .i64 (Z1H s))::P.d Z1I::Ot),[])
theorem qbm s ae:(ob (decide ((0:Int)<=(0:Int)/\(0:Int)<F5 s)) (ob (decide (Z7<=D2 s/\D2 s<=Z8)) (bif decide (D2 s<(128:Int)) then ae (P.dz (P.d (D.int .i64 (D2 s))::P.d ZO::Ot),[]) else bif decide (D2 s>=(194:Int)) then bif decide (D2 s<(224:Int)) then ob (decide (Z7<=D2 s-(192:Int)/\D2 s-(192:Int)<=Z8)) (bif decide (F5 s<(2:Int)) then xE ae else ob (Z1B s) (ob (Z1D s) (bif Z1E s then xE ae else bif Z1F s then xE ae else ob (decide (Z7<=Z1G s/\Z1G s<=Z8)) (ob (decide (Z7<=Z1G s+Hl s/\Z1G s+Hl s<=Z8)) (ob (decide (Z7<=Z1H s/\Z1H s<=Z8)) (bif decide (Z1H s>(1114111:Int)) then xE ae else bif decide (Z1H s>=(55296:Int)) then bif decide (Z1H s<(57344:Int)) then xE ae else Z1J ae s else Z1J ae s)))))) else Z1X s ae else Z1X s ae)))=(aI [] [] 202 [sD s] []) ae:=by kernel_rfl
abbrev rsH(s:List UInt8)(o:List (List UInt8)):S:=⟨29,[(0,sD s),(4,.sl 0 0 o.length)],[(0,⟨0,none,.arr 9 false (o.map D.str)⟩)]⟩
def Vp o:=En.mk 0 none (Obj.arr (9:TypeId) false (List.map D.str o))
def Z24(ae:P×List (Nat×En)->Prop) o:=ae (P.dz (P.sl 0 0 (List.length o)::ZV),[(0,Vp o)])
def Vq iW:=Lib.validD iW=true
def Z1Y:=En.mk 0 none (Obj.arr (9:TypeId) false [])
def Vr iW:=Lib.validD iW=false
def Z21 iW (ae:P×List (Nat×En)->Prop):=Vr iW-> ∀(_:List (List UInt8)),ae (P.dz (ZN::Z1r),[(0,Z1Y)])
def Z1Z iW:=S.mk 29 [(0,P.d (D.str iW)),(4,ZN)] [(0,Z1Y)]
def Z25(ae:P×List (Nat×En)->Prop)(o:List (List UInt8)):=ae (P.dz (P.d (D.int .i64 (↑(List.length o):Int))::ZV),[])
def Z27(o:List (List UInt8)) n s:=List.length o+List.length [D.str (List.drop 0 (List.take (Ze n) s))]
def Ou o:=(1,Vp o)
theorem qjg s o ae:(bif decide (F5 s>(0:Int)) then∃iW,pU s=pU iW/\Zx/\(iW≠[]/\KV iW)/\(Mx iW-> ∀(_ _:Int),ae (PX.ret,S.mk 29 [(2,ZN),(3,P.d (D.int .i64 (60:Int))),(4,P.sl 1 0 (List.length o))] [(0,Z1Y),Ou o]))/\(¬Mx iW-> ∀(_ n:Int),n=(↑(Prod.snd (Lib.decodeL iW)):Int)->(1:Int)<=n->Ze n<=sI iW->ob (decide ((0:Int)<=n/\n<=F5 s)) (ob (Nat.ble (List.length o) (List.length (List.map D.str o))&&aG (Z27 o n s) 16) (ob (decide ((0:Int)<=n/\n<=F5 s)) (ae (PX.normal,S.mk 29 [(0,P.d (D.str (List.drop (Ze n) (List.take (sI s) s)))),(4,P.sl 0 0 (Z27 o n s))] [(0,En.mk 0 none (Obj.arr (9:TypeId) false (List.take (List.length o) (List.map D.str o)++[D.str (List.drop 0 (List.take (Ze n) s))])))]))))) else ae (PX.exit 0,S.mk 29 [(4,P.sl 0 0 (List.length o))] [(0,Vp o)]))=(aD [(202,Vo)] [] 148 2 (rsH s o)) ae:=by kernel_rfl
def Jo n b0 b1 b2 b3:=
 if b0<128 then(b0,1) else
 if b0/32=6/\1<n/\b1/64=2 then(if 128<=(b0%32)*64+b1%64 then((b0%32)*64+b1%64,2) else(65533,1)) else
 if b0/16=14/\(1<n/\b1/64=2)/\2<n/\b2/64=2 then(if 2048<=(b0%16)*4096+(b1%64)*64+b2%64/\((b0%16)*4096+(b1%64)*64+b2%64<55296\/57344<=(b0%16)*4096+(b1%64)*64+b2%64/\(b0%16)*4096+(b1%64)*64+b2%64<=1114111) then((b0%16)*4096+(b1%64)*64+b2%64,3) else(65533,1)) else
 if b0/8=30/\(1<n/\b1/64=2)/\(2<n/\b2/64=2)/\3<n/\b3/64=2 then(if 65536<=(b0%8)*262144+(b1%64)*4096+(b2%64)*64+b3%64/\((b0%8)*262144+(b1%64)*4096+(b2%64)*64+b3%64<55296\/57344<=(b0%8)*262144+(b1%64)*4096+(b2%64)*64+b3%64/\(b0%8)*262144+(b1%64)*4096+(b2%64)*64+b3%64<=1114111) then((b0%8)*262144+(b1%64)*4096+(b2%64)*64+b3%64,4) else(65533,1)) else(65533,1)
theorem Vs(s:List UInt8)(k:Nat):(ByteArray.mk s.toArray).get! k=s.getD k 0:=by
 show s.toArray.getD k 0=_;simp[Array.getD,zab];split
 next h=>simp[h]
 rename_i h;simp[zbw (by omega:s.length<=k)]
theorem Ri s:Lib.decodeL s=Jo s.length (s.getD 0 0).toNat (s.getD 1 0).toNat (s.getD 2 0).toNat (s.getD 3 0).toNat:=by
 have hs:(ByteArray.mk s.toArray).size=s.length:=rfl;have hv: ∀c:Nat,Utf8.valid (c:Int)=decide (c<55296\/57344<=c/\c<=1114111):=λc=>by unfold Utf8.valid;rw[zaG];simp only[za8,zac,zah];omega
 unfold Lib.decodeL Utf8.decode Jo;simp only[Vs,zaD,hs,hv,zac,za1,zah,ge_iff_le,Utf8.runeError,zdb]
section
variable{X:XF}
theorem qbn:FD X 202 Vo:=FD.mk (by kernel_rfl) .nil .nil (by
 intro ps R ae hh;obtain⟨s,rfl,rfl,⟨cO,hs⟩,h1,h2⟩:=hh
 (rw[<-qbm];delta ZL Ot Z1S Jn Hl D2 Z1Q Z1R Z1T Z1U Z1V sI F5 Z1L Z1F Z1E Z8 Z7 Z1D Z1B Z2 Rh Z5 xE Z1W Z1K Z1N Z1O Z1P Z1X Z1I Z1G Z1H Z1J ZO)
 have Vt:0<s.length:=zbV.2 cO;unfold Mx at h1 h2;rw[Ri] at h1 h2;have Cr:=(s.getD 0 0).toNat_lt;have la:=(s.getD 1 0).toNat_lt;have cP:=(s.getD 2 0).toNat_lt;have tL:=(s.getD 3 0).toNat_lt;generalize (s.getD 0 0).toNat=b0 at Cr h1 h2;generalize (s.getD 1 0).toNat=b1 at la h1 h2;generalize (s.getD 2 0).toNat=b2 at cP h1 h2;generalize (s.getD 3 0).toNat=b3 at tL h1 h2;generalize s.length=n at Vt hs h1 h2;have bad:Jo n b0 b1 b2 b3=(65533,1)->ae (.dz [iD 0,iD 0,mB false],[]):=λh=>h1 (by rw[h];exact⟨rfl,rfl⟩) 0 0;have qjh:b0<128-> ∀c,ae (.dz [iD c,iD 1,mB true],[]):=λh c=>by
  have e:Jo n b0 b1 b2 b3=(b0,1):=by unfold Jo;rw[zap h]
  rw[e] at h2;exact h2 (λh=>by have:=h.1;simp only at this;omega) c 1 rfl (by omega) (by omega)
 have qgm: ∀c (k:Int),(Jo n b0 b1 b2 b3).2=k.toNat->2<=k->k.toNat<=n->ae (.dz [iD c,iD k,mB true],[]):=λc k h3 h4 h5=>h2 (λh=>by rw[h3] at h;omega) c k (by omega) (by omega) h5;clear h1 h2
 repeat' (first |refine bh (by omega) ?_ |refine aW (λh=> ?_) (λh=> ?_))
 all_goals first
  | (refine bad ?_;unfold Jo;(repeat' split);all_goals first |rfl | (exfalso;omega))
  |exact qjh (by omega) _
  | (refine qgm _ _ ?_ (by omega) (by omega);unfold Jo;(repeat' split);all_goals first |rfl | (exfalso;omega)))
end
def r1(x y:Int):=if x<y then-1 else if x>y then 1 else 0
def Rj(x y:Int):=if x≠0 then x else y
def uS t r t' r':=Rj (r1 t t') (r1 r r')
def mY t r i t' r' i':=Rj (uS t r t' r') (r1 i i')
def tM(t r t' r':Int):=decide (t<t'\/t=t'/\r<r')
abbrev itD(t r i:Int)(p:List UInt8)(d b:Bool):D:= .agg [.int .i64 t,.int .i64 r,.int .i64 i,.str p,.bool d,.bool b]
def Vu(ae:P×List (Nat×En)->Prop):=ae (P.d ZO,[])
def My:=P.d (D.int .i64 (-1:Int))
def q8(ae:P×List (Nat×En)->Prop):=ae (My,[])
def Z2b x y ae:=bif ZH x y then q8 ae else bif decide (x>y) then Vu ae else Z6 ae
theorem Rk x y ae:(bif x !=x then bif y !=y then Z6 ae else q8 ae else bif y !=y then Vu ae else Z2b x y ae)=(aI [] [] 108 [.d (.int .i64 x),.d (.int .i64 y)] []) ae:=by kernel_rfl
theorem Mz x y ae:(bif !x==x then bif !y==y then Z6 ae else q8 ae else bif !y==y then Vu ae else bif Op.bytesLess x y then q8 ae else bif !(Op.bytesLess x y ||x==y) then Vu ae else Z6 ae)=(aI [] [] 86 [.d (.str x),.d (.str y)] []) ae:=by kernel_rfl
theorem qnC x y ae:(bif D.aj (D.nth (Zt x::ZE y) 0) !=(0:Int) then ae (P.d (D.int .i64 (D.aj (D.nth (Zt x::ZE y) 0))),[]) else bif D.aj (D.nth (Zt x::ZE y) 1) !=(0:Int) then ae (P.d (D.int .i64 (D.aj (D.nth (Zt x::ZE y) 1))),[]) else Z6 ae)=(aI [] [] 107 [.d (.sl 1 [.int .i64 x,.int .i64 y])] []) ae:=by kernel_rfl
theorem Vv t r t' r' ae:(bif decide (t<t') then ae (P.d (D.bool true),[]) else bif t==t' then ae (P.d (D.bool (decide (r<r'))),[]) else ae (P.d (D.bool false),[]))=(aI [] [] 53 [.d (stD t r),.d (stD t' r')] []) ae:=by kernel_rfl
def l4:a8:=λps R ae=> ∃x y,ps=[.d (.int .i64 x),.d (.int .i64 y)]/\R=[]/\ae (.d (.int .i64 (r1 x y)),[])
def hOr:a8:=λps R ae=> ∃x y,ps=[.d (.sl 1 [.int .i64 x,.int .i64 y])]/\R=[]/\ae (.d (.int .i64 (Rj x y)),[])
def F8:a8:=λps R ae=> ∃t r t' r',ps=[.d (stD t r),.d (stD t' r')]/\R=[]/\ae (.d (.bool (tM t r t' r')),[])
def Jp:a8:=λps R ae=> ∃t r t' r',ps=[.d (stD t r),.d (stD t' r')]/\R=[]/\ae (.d (.int .i64 (uS t r t' r')),[])
def l5:a8:=λps R ae=> ∃t r i t' r' i',ps=[.d (Mk t r i),.d (Mk t' r' i')]/\R=[]/\ae (.d (.int .i64 (mY t r i t' r' i')),[])
def Z2c(ae:P×List (Nat×En)->Prop):=λs0=> ∃x_2 y_2,s0=[P.d (D.sl 1 (Zt x_2::ZE y_2))]/\Zx/\ae (P.d (D.int .i64 (Rj x_2 y_2)),[])
theorem qji t r t' r' ae:(∃x y,P.d (Zt t)::Zv t'=P.d (Zt x)::Zv y/\Zx/\ ∃bm Ov,P.d (Zt r)::Zv r'=P.d (Zt bm)::Zv Ov/\Zx/\Z2c ae [P.d (D.sl 1 [D.int .i64 (r1 x y),D.int .i64 (r1 bm Ov)])])=(aI [(108,l4),(107,hOr)] [] 69 [.d (stD t r),.d (stD t' r')] []) ae:=by kernel_rfl
def Rl js fK AY AZ:=[P.d (D.agg (Zt js::ZE fK)),P.d (D.agg (Zt AY::ZE AZ))]
theorem qgn t r t' r' ae:(∃js fK AY AZ,Rl t r t' r'=Rl js fK AY AZ/\Zx/\bif tM js fK AY AZ then q8 ae else∃t_2 Jq qjj qjk,Rl t' r' t r=Rl t_2 Jq qjj qjk/\Zx/\bif tM t_2 Jq qjj qjk then Vu ae else Z6 ae)=(aI [(53,F8)] [] 142 [.d (stD t r),.d (stD t' r')] []) ae:=by kernel_rfl
theorem qbo t r i t' r' i' ae:(∃js fK AY AZ,Rl t r t' r'=Rl js fK AY AZ/\Zx/\ ∃x y,P.d (Zt i)::Zv i'=P.d (Zt x)::Zv y/\Zx/\Z2c ae [P.d (D.sl 1 [D.int .i64 (uS js fK AY AZ),D.int .i64 (r1 x y)])])=(aI [(108,l4),(107,hOr),(69,Jp)] [] 78 [.d (Mk t r i),.d (Mk t' r' i')] []) ae:=by kernel_rfl
theorem Vw t r i t' r' i' ae:(∃js fK AY AZ,Rl t r t' r'=Rl js fK AY AZ/\Zx/\bif uS js fK AY AZ !=(0:Int) then ae (P.d (D.int .i64 (uS js fK AY AZ)),[]) else Z2b i i' ae)=(aI [(142,Jp)] [] 98 [.d (Mk t r i),.d (Mk t' r' i')] []) ae:=by kernel_rfl
theorem l6{ae:P×List (Nat×En)->Prop}{k a b R}(hp:ae (P.d (D.int k a),R))(h:a=b):ae (P.d (D.int k b),R):=h▸hp
theorem A0{ae:P×List (Nat×En)->Prop}{a b R}(hp:ae (P.d (D.bool a),R))(h:a=b):ae (P.d (D.bool b),R):=h▸hp
theorem A1(x:Int):(x !=x)=false:=by simp
theorem Jr: ∀ps R ae,l4 ps R ae->aI [] [] 108 ps R ae:=by
 intro ps R ae hh;obtain⟨x,y,rfl,rfl,hp⟩:=hh
 (rw[<-Rk];delta Z5 Z6 ZO Vu My q8 ZH Z2b)
 refine fJ (A1 x) (fJ (A1 y) ?_);refine ay (λh=> ?_) λh=>ay (λh'=> ?_) λh'=> ?_
 ·exact l6 hp (by
   have h:x<y:=by simpa using h
   simp[r1,h])
 ·exact l6 hp (by
   have h: ¬x<y:=by simpa using h
   have h':x>y:=by simpa using h'
   simp[r1,h,h'])
 exact l6 hp (by
  have h: ¬x<y:=by simpa using h
  have h': ¬x>y:=by simpa using h'
  simp[r1,h,h'])
def CM x y:=if Op.bytesLess x y=true then-1 else if x=y then 0 else 1
def wv:a8:=λps R ae=> ∃x y,ps=[.d (.str x),.d (.str y)]/\R=[]/\ae (.d (.int .i64 (CM x y)),[])
theorem Rm: ∀ps R ae,wv ps R ae->aI [] [] 86 ps R ae:=by
 intro ps R ae hh;obtain⟨x,y,rfl,rfl,hp⟩:=hh
 (rw[<-Mz];delta ZO Vu My q8 Z5 Z6)
 refine fJ (by simp) (fJ (by simp) ?_);refine ay (λh=> ?_) λh=>ay (λh'=> ?_) λh'=> ?_
 ·exact l6 hp (by simp[CM,h])
 ·exact l6 hp (by
   have h': ¬x=y:=by simp[h] at h';simpa using h'
   simp[CM,h,h'])
 exact l6 hp (by
  have h':x=y:=by simp[h] at h';simpa using h'
  subst h';simp[CM,h])
theorem bOr: ∀ps R ae,hOr ps R ae->aI [] [] 107 ps R ae:=by
 intro ps R ae hh;obtain⟨x,y,rfl,rfl,hp⟩:=hh
 (rw[<-qnC];delta Z5 Z6 Zt ZE)
 refine ay (λh=> ?_) λh=>ay (λh'=> ?_) λh'=> ?_
 ·exact l6 hp (by
   have h:x≠0:=by simpa [D.nth,D.aj] using h
   simp[Rj,h,D.nth,D.aj])
 ·exact l6 hp (by
   have h:x=0:=by simpa [D.nth,D.aj] using h
   simp[Rj,h,D.nth,D.aj])
 exact l6 hp (by
  have h:x=0:=by simpa [D.nth,D.aj] using h
  have h':y=0:=by simpa [D.nth,D.aj] using h'
  simp[Rj,h,h'])
theorem qbp: ∀ps R ae,F8 ps R ae->aI [] [] 53 ps R ae:=by
 intro ps R ae hh;obtain⟨t,r,t',r',rfl,rfl,hp⟩:=hh;rw[<-Vv];refine ay (λh=> ?_) λh=>ay (λh'=> ?_) λh'=> ?_
 ·exact A0 hp (by
   have h:t<t':=by simpa using h
   simp[tM,h])
 ·exact A0 hp (by
   have h':t=t':=by simpa using h'
   simp[tM,h'])
 exact A0 hp (by
  have h: ¬t<t':=by simpa using h
  have h': ¬t=t':=by simpa using h'
  simp[tM,h'];omega)
theorem qjl: ∀ps R ae,Jp ps R ae->aI [(108,l4),(107,hOr)] [] 69 ps R ae:=by
 intro ps R ae hh;obtain⟨t,r,t',r',rfl,rfl,hp⟩:=hh
 (rw[<-qji];delta Zx Zt ZE Z2c Zv)
 exact⟨_,_,rfl,rfl,_,_,rfl,rfl,_,_,rfl,rfl,hp⟩
theorem Vx: ∀ps R ae,l5 ps R ae->aI [(108,l4),(107,hOr),(69,Jp)] [] 78 ps R ae:=by
 intro ps R ae hh;obtain⟨t,r,i,t',r',i',rfl,rfl,hp⟩:=hh
 (rw[<-qbo];delta Zx Zt ZE Z2c Zv Rl)
 exact⟨_,_,_,_,rfl,rfl,_,_,rfl,rfl,_,_,rfl,rfl,hp⟩
section
variable{X:XF}
theorem Js:FD X 53 F8:=FD.mk (by kernel_rfl) .nil .nil qbp
theorem qgo:FD X 142 Jp:=FD.mk (by kernel_rfl) (.cons Js .nil) .nil (by
 intro ps R ae hh;obtain⟨t,r,t',r',rfl,rfl,hp⟩:=hh
 (rw[<-qgn];delta Z5 Z6 ZO Vu My q8 Zx Zt ZE Rl)
 refine⟨_,_,_,_,rfl,rfl,ay (λh=> ?_) λh=>⟨_,_,_,_,rfl,rfl,ay (λh'=> ?_) λh'=> ?_⟩⟩
 all_goals exact l6 hp (by simp only[tM,zah,zaP] at*;simp only[uS,Rj,r1];(repeat' split)<;>omega))
theorem oA:FD X 98 l5:=FD.mk (by kernel_rfl) (.cons qgo .nil) .nil (by
 intro ps R ae hh;obtain⟨t,r,i,t',r',i',rfl,rfl,hp⟩:=hh
 (rw[<-Vw];delta Z5 Z6 ZO Vu My q8 ZH Z2b Zx Zt ZE Rl)
 refine⟨_,_,_,_,rfl,rfl,ay (λh=> ?_) λh=>ay (λh'=> ?_) λh'=>ay (λh''=> ?_) λh''=> ?_⟩
 all_goals exact l6 hp (by simp only[bne_iff_ne,bne_eq_false_iff_eq,ne_eq,zah,zaP] at*;simp only[mY,Rj,r1];(repeat' split)<;>omega))
theorem D3:FD X 108 l4:=FD.mk (by kernel_rfl) .nil .nil Jr
theorem qjm:FD X 107 hOr:=FD.mk (by kernel_rfl) .nil .nil bOr
theorem qd0:FD X 69 Jp:=FD.mk (by kernel_rfl) (.cons D3 (.cons qjm .nil)) .nil qjl
theorem qbq:FD X 78 l5:=FD.mk (by kernel_rfl) (.cons D3 (.cons qjm (.cons qd0 .nil))) .nil Vx
end
theorem D4:FC 108 l4:=FC.mk (by kernel_rfl) .nil Jr
theorem MA:FC 86 wv:=FC.mk (by kernel_rfl) .nil Rm
theorem qjn:FC 107 hOr:=FC.mk (by kernel_rfl) .nil bOr
theorem qd1:FC 69 Jp:=FC.mk (by kernel_rfl) (.cons D4 (.cons qjn .nil)) qjl
theorem F9:FC 78 l5:=FC.mk (by kernel_rfl) (.cons D4 (.cons qjn (.cons qd1 .nil))) Vx
theorem FC.Vy{g h}(hf:FC g h){x y i}(hp:h [.d x,.d y] [] (λz=>z=(.d (.int .i64 i),[]))):CH PR sH g x y i:=by obtain⟨z,h1,h2⟩:=hf _ _ _ hp;subst h2;exact h1
def Ow:=D.sl 1 []
abbrev ao:=Int×Int×Int
def aL(x:ao):D:= .agg [.int .i64 x.1,.int .i64 x.2.1,.int .i64 x.2.2]
abbrev ct(l:List ao):P:= .d (.sl 3 (l.map aL))
abbrev Pl:=ao×ao×List UInt8×Bool
def bn(p:Pl):D:= .agg [.int .i64 p.1.1,.int .i64 p.1.2.1,.int .i64 p.1.2.2,.int .i64 p.2.1.1,.int .i64 p.2.1.2.1,.int .i64 p.2.1.2.2,.str p.2.2.1,.bool p.2.2.2]
abbrev dD(l:List Pl):P:= .d (.sl 8 (l.map bn))
abbrev Jt(f1 f2 f3 f4:D->Option D)(c1 c2 c3 c4:Int):List (Nat×En):=
 [(0,⟨0,none,.box 163 [.mp 1 0,.mp 2 0,.mp 3 0,.mp 4 0]⟩),(1,⟨0,none,.map 49 f1 c1 false⟩),(2,⟨0,none,.map 49 f2 c2 false⟩),(3,⟨0,none,.map 49 f3 c3 false⟩),(4,⟨0,none,.map 49 f4 c4 false⟩)]
abbrev tk3(l:List Pl)(live:List ao)(k:Int)(f1:D->Option D)(c1:Int):S:=
 ⟨68,[(1,ct live),(5,.ref 0 0 0),(18,dD l),(19,.d (.int .i64 (l.length:Int))),(20,.d (.int .i64 k))],Jt f1 (λ_=>none) (λ_=>none) (λ_=>none) c1 0 0 0⟩
abbrev qbr(live:List ao)(k:Int)(f1 f2:D->Option D)(c1 c2:Int):S:=
 ⟨68,[(5,.ref 0 0 0),(54,ct live),(55,.d (.int .i64 (live.length:Int))),(56,.d (.int .i64 k))],Jt f1 f2 (λ_=>none) (λ_=>none) c1 c2 0 0⟩
def xF{α:Type}(enc:α->D)(m:ao->Option α):D->Option D
 | .agg [.int .i64 a,.int .i64 b,.int .i64 c]=>(m (a,b,c)).map enc
 |_=>none
def pB(p:Pl):=bf p.1.1 p.1.2.1 p.1.2.2&&bX p.2.2.1
def a7(T:List Pl) x:=T.find? λp=>p.1==x
def BT T p:=if(a7 T p.1).isSome then T else if pB p then T++[p] else T
def fP(l:List Pl):=l.foldl BT []
def Ga(V:List ao) x:=if x∈V then V else V++[x]
def sK(l:List ao):=l.foldl Ga []
abbrev cF T:=xF bn (a7 T)
abbrev cU(V:List ao):=xF (λ_=> .agg []) (λx=>if x∈V then some () else none)
abbrev uT:D->Option D:=λ_=>none
def qjo:S->K (PX×S):=λs ae=> ∃l live,s=tk3 l live 0 uT 0/\l.length<=1000000/\ae (.exit 0,⟨68,[(1,ct live),(5,.ref 0 0 0)],Jt (cF (fP l)) uT uT uT ((fP l).length:Int) 0 0 0⟩)
def qd2:S->K (PX×S):=λs ae=> ∃live f1 c1,s=qbr live 0 f1 uT c1 0/\live.length<=1000000/\ae (.exit 2,⟨68,[(5,.ref 0 0 0)],Jt f1 (cU (sK live)) uT uT c1 ((sK live).length:Int) 0 0⟩)
def Ju:=Obj.map 49 (λ_=>none) (0:Int) false
def CN:=En.mk 0 none Ju
def Z2t:=[(3,CN),(4,CN)]
def jd:=D.agg []
def nP f1 c1:=Obj.map 49 f1 c1 false
def D5 f1 c1:=En.mk 0 none (nP f1 c1)
def dH(live:List ao):=List.length live
def j8 live:=dH live<=1000000
def Z2u:=(2,CN)::Z2t
def mZ:=P.mp 3 0
def D6:=Obj.box (163:TypeId) [P.mp 1 0,P.mp 2 0,mZ,P.mp 4 0]
def KX:=(0,En.mk 0 none D6)
def Z2B f1 c1:=KX::(1,D5 f1 c1)::Z2u
def ky live:=(↑(dH live):Int)
def Z2y live:=P.d (D.int .i64 (ky live))
def dW fb:=List.map aL fb
def kU fb:=List.length (dW fb)
def uU fb:=(↑(kU fb):Int)
def gR fb:=P.d (D.sl 3 (dW fb))
def fo(av:List Pl):=List.length av
def gx av:=fo av<=1000000
def pV av:=(↑(fo av):Int)
def Z2n av:=[(19,P.d (D.int .i64 (pV av))),(20,P.d Z5)]
def eu av:=List.map bn av
def nQ l:=List.length (eu l)
def im av:=P.d (D.sl 8 (eu av))
def wx:=(5,b9)
def l7 fb:=(1,gR fb)
theorem qnD l live ae:(∃av fb,S.mk 68 [l7 live,wx,(18,im l),(19,P.d (D.int .i64 (↑(nQ l):Int))),(20,P.d Z5)] (KX::(1,CN)::Z2u)=S.mk 68 (l7 fb::wx::(18,im av)::Z2n av) (KX::(1,CN)::Z2u)/\gx av/\ ∃live f1 c1,S.mk 68 [wx,(54,gR fb),(55,P.d (D.int .i64 (uU fb))),(56,P.d Z5)] (KX::(1,En.mk 0 none (Obj.map 49 (λx=>match x with |D.agg [D.int .i64 a,D.int .i64 b,D.int .i64 c]=>Option.map bn (a7 (fP av) (a,b,c))|_=>none) (↑(List.length (fP av)):Int) false))::Z2u)=S.mk 68 [wx,(54,gR live),(55,Z2y live),(56,P.d Z5)] (Z2B f1 c1)/\j8 live/\ae (b9,KX::(1,D5 f1 c1)::(2,En.mk 0 none (Obj.map 49 (λx=>match x with |D.agg [D.int .i64 a,D.int .i64 b,D.int .i64 c]=>Option.map (λ_=>jd) ((λx=>if x∈sK live then some () else none) (a,b,c))|_=>none) (↑(List.length (sK live)):Int) false))::Z2t))=(aI [] [(3,ah (aR 80 3) qjo),(10,ah (aR 80 10) qd2)] 80 [dD l,ct live] []) ae:=by kernel_rfl
def Vz:a8:=λps R ae=> ∃l live,ps=[dD l,ct live]/\R=[]/\(l.length<=1000000/\live.length<=1000000)/\ae (.ref 0 0 0,Jt (cF (fP l)) (cU (sK live)) uT uT ((fP l).length:Int) ((sK live).length:Int) 0 0)
def mC:=0+1
def A2:=mC+1+1
def KY:=A2+1+1
def MB:=KY+1+1
def Z2O live l k:=[l7 live,wx,(18,im l),(19,P.d (D.int .i64 (pV l))),(20,Zm k)]
def jG l k:=D.nth (eu l) (Ze k)
def CO l k:=D.int .i64 (D.aj (D.au (jG l k) 2))
def CP l k:=D.int .i64 (D.aj (D.au (jG l k) 1))
def A3 l k:=D.int .i64 (D.aj (D.au (jG l k) 0))
def VA l k:=P.d (D.agg [A3 l k,CP l k,CO l k])
def VB l k:=[VA l k]
def Z2N(f1:D->Option D) l k:=Option.isSome (f1 (D.agg [A3 l k,CP l k,CO l k]))
def xG:=D.agg [Z5,Z5,Z5,Z5,Z5,Z5,oP,Z2]
noncomputable def nb l k:=bO PR (108:TypeId) (jG l k)
def BU k l:=decide ((0:Int)<=k/\k<(↑(nQ l):Int))
theorem qjp l live k f1 c1 ae:(bif decide (k<pV l) then ob (BU k l) (ob (nb l k) (ob (bO PR (108:TypeId) (aQ (f1 (D.agg [A3 l k,CP l k,CO l k])) xG)) (bif !Z2N f1 l k then∃t r i,VB l k=ZZ t r i/\Zx/\bif bf t r i then∃s,[P.d (D.str (D.cJ (D.au (jG l k) 6)))]=pU s/\Zx/\bif bX s then ob (Zh k) (ae (PX.normal,S.mk 68 (Z2O live l k) (KX::(1,En.mk 0 none (Obj.map 49 (λk'=>bif D.gH (D.agg [A3 l k,D.int .i64 (D.aj (D.au (jG l k) mC)),D.int .i64 (D.aj (D.au (jG l k) (mC+1)))]) k' then some (D.agg [A3 l k,D.int .i64 (D.aj (D.au (jG l k) mC)),D.int .i64 (D.aj (D.au (jG l k) (mC+1))),D.int .i64 (D.aj (D.au (jG l k) A2)),D.int .i64 (D.aj (D.au (jG l k) (A2+1))),D.int .i64 (D.aj (D.au (jG l k) KY)),D.str (D.cJ (D.au (jG l k) (KY+1))),D.bool (D.dp (D.au (jG l k) MB))]) else f1 k') (bif Z2N f1 l k then c1 else c1+(1:Int)) false))::Z2u))) else ob (Zh k) (ae (PX.normal,S.mk 68 (Z2O live l k) (Z2B f1 c1))) else ob (Zh k) (ae (PX.normal,S.mk 68 (Z2O live l k) (Z2B f1 c1))) else ob (Zh k) (ae (PX.normal,S.mk 68 (Z2O live l k) (Z2B f1 c1)))))) else ae (PX.exit 0,S.mk 68 [l7 live,wx] (Z2B f1 c1)))=(aD [(124,ou),(112,D1)] [] 80 3 (tk3 l live k f1 c1)) ae:=by kernel_rfl
def BV live k:=D.aj (D.au (D.nth (dW live) (Ze k)) 2)
def BW live k:=D.aj (D.au (D.nth (dW live) (Ze k)) 1)
def A4 live k:=D.aj (D.au (D.nth (dW live) (Ze k)) 0)
def xH live k:=[D.int .i64 (A4 live k),D.int .i64 (BW live k),D.int .i64 (BV live k)]
def Z33(f2:D->Option D) live k c2:=bif Option.isSome (f2 (D.agg (xH live k))) then c2 else c2+(1:Int)
def Ox live k:=D.agg [D.int .i64 (A4 live k),D.int .i64 (D.aj (D.au (D.nth (dW live) (Ze k)) mC)),D.int .i64 (D.aj (D.au (D.nth (dW live) (Ze k)) (mC+1)))]
noncomputable def q9 live k:=bO PR (49:TypeId) (D.nth (dW live) (Ze k))
def Hm k live:=decide ((0:Int)<=k/\k<uU live)
theorem qgp live k f1 f2 c1 c2 ae:(bif decide (k<ky live) then ob (Hm k live) (ob (q9 live k) (ob (Zh k) (ae (PX.normal,S.mk 68 [wx,(54,gR live),(55,Z2y live),(56,Zm k)] (KX::(1,D5 f1 c1)::(2,En.mk 0 none (Obj.map 49 (λk'=>bif D.gH (Ox live k) k' then some jd else f2 k') (Z33 f2 live k c2) false))::Z2t))))) else ae (PX.exit 2,S.mk 68 [wx] (KX::(1,D5 f1 c1)::(2,D5 f2 c2)::Z2t)))=(aD [] [] 80 10 (qbr live k f1 f2 c1 c2)) ae:=by kernel_rfl
theorem qgq{α:Type}(enc:α->D) m x:xF enc m (aL x)=(m x).map enc:=rfl
theorem yS{α:Type}(enc:α->D) m m' x v (h1:m' x=some v)(h2: ∀y,y≠x->m' y=m y):aX (aL x) (enc v) (xF enc m)=xF enc m':=by
 funext d;unfold aX;cases hd:D.gH (aL x) d with
 |true=>have:=(D.bS _ _).1 hd;subst this;rw[qgq enc m' x,h1];rfl
 |false=>
  have cO:aL x≠d:=λe=>by rw[(D.bS _ _).2 e] at hd;cases hd
  simp only[zbl];unfold xF;split
  next a b c=>rw[h2 (a,b,c) (λe=>cO (by rw[<-e];rfl))]
  rfl
theorem Jv{T p}(h:(a7 T p.1).isSome=false):aX (aL p.1) (bn p) (cF T)=cF (T++[p]):=by
 have hn:T.find? (λq=>q.1==p.1)=none:=by
  unfold a7 at h;cases e:T.find? (λq=>q.1==p.1) with
  |none=>rfl
  |some q=>rw[e] at h;cases h
 refine yS _ _ _ _ _ ?_ λy hy=> ?_
 ·unfold a7;rw[List.find?_append,hn];simp
 unfold a7;rw[List.find?_append];have:([p]:List Pl).find? (λq=>q.1==y)=none:=by simp;intro e;exact hy (by rw[<-e])
 rw[this,Option.or_none]
theorem Gb{V x}:aX (aL x) (.agg []) (cU V)=cU (Ga V x):=by
 refine yS (λ_=> .agg []) _ _ x () ?_ λy hy=> ?_
 ·unfold Ga;split<;>simp_all
 unfold Ga;split
 ·rfl
 simp[hy]
theorem ra V x:cU V (aL x)=(if x∈V then some () else none).map (λ_=> .agg []):=rfl
theorem Oy V x:(bif (cU V (aL x)).isSome then(V.length:Int) else(V.length:Int)+1)=((Ga V x).length:Int):=by rw[ra];unfold Ga;by_cases h:x∈V<;>simp[h]
theorem nK T x:cF T (aL x)=(a7 T x).map bn:=rfl
theorem dX p:bO PR 108 (bn p)=true:=by obtain⟨⟨a,b,c⟩,⟨d,e,f⟩,g,h⟩:=p;kernel_rfl
theorem ga x:bO PR 49 (aL x)=true:=by obtain⟨a,b,c⟩:=x;kernel_rfl
def qa:Pl:=((0,0,0),(0,0,0),[],false)
theorem iN{l:List Pl}{i}(h:i<l.length):D.nth (l.map bn) i=bn (l.getD i qa):=by rw[az bn l i h];simp[zab,h]
theorem A5{l:List ao}{i}(h:i<l.length):D.nth (l.map aL) i=aL (l.getD i (0,0,0)):=by rw[az aL l i h];simp[zab,h]
theorem tN{α β:Type}(f:β->α->β) b (l:List α) d k (h:k<l.length):(l.take (k+1)).foldl f b=f ((l.take k).foldl f b) (l.getD k d):=by rw[zbS,zad h,zaY];simp[zab,h]
section
variable{X:XF}
theorem VC:LD X 80 10 (ah (aR 80 10) qd2):=LD.par (by kernel_rfl) (by kernel_rfl) .nil .nil
 (A:=List ao×(D->Option D)×Int) (B:=Int) (λa k=>qbr a.1 k a.2.1 (cU (sK (a.1.take k.toNat))) a.2.2 (sK (a.1.take k.toNat)).length)
 (λa k=>a.1.length<=1000000/\0<=k/\k.toNat<=a.1.length)
 (λa k=>(a.1.length-k).toNat)
 (λa x=>x=(.exit 2,⟨68,[(5,.ref 0 0 0)],Jt a.2.1 (cU (sK a.1)) uT uT a.2.2 (sK a.1).length 0 0⟩))
 (by
  rintro⟨l,f1,c1⟩ k ⟨hm,h0,h1⟩;dsimp only at*
  (rw[<-qgp];delta Ju CN Z2t Ze dW BV BW A4 xH Z33 jd mC Ox nP D5 mZ D6 KX Zl Zm dH ky Z2y gR b9 wx Z8 Z7 Zh q9 kU uU Hm)
  simp only[zaa];refine aW (λh=> ?_) λh=> ?_
  ·have hk:k.toNat<l.length:=by omega
   rw[A5 hk];refine bh ⟨h0,by omega⟩ (aq (ga _) (aq (iZ (by omega) (by omega)) ⟨_,?_,k+1,?_,⟨hm,by omega,by omega⟩,rfl⟩))
   ·omega
   have e:sK (l.take (k+1).toNat)=Ga (sK (l.take k.toNat)) (l.getD k.toNat (0,0,0)):=by rw[show(k+1).toNat=k.toNat+1 by omega];exact tN Ga [] l _ k.toNat hk
   rw[e,<-Gb,<-Oy];rfl
  rw[zak (by omega)];rfl)
 (by
  rintro s ae ⟨l,f1,c1,rfl,hm,hp⟩;refine⟨(l,f1,c1),0,?_,⟨hm,by decide,by simp⟩,?_⟩
  ·have:cU (sK [])=uT:=by funext d;show xF _ _ d=none;unfold xF;split<;>rfl
   show _=qbr l 0 f1 (cU (sK [])) c1 0;rw[this]
  rintro x rfl;exact hp)
theorem qbs:LD X 80 3 (ah (aR 80 3) qjo):=LD.par (by kernel_rfl) (by kernel_rfl) (.cons wk (.cons Mv .nil)) .nil
 (A:=List Pl×List ao) (B:=Int) (λa k=>tk3 a.1 a.2 k (cF (fP (a.1.take k.toNat))) (fP (a.1.take k.toNat)).length)
 (λa k=>a.1.length<=1000000/\0<=k/\k.toNat<=a.1.length)
 (λa k=>(a.1.length-k).toNat)
 (λa x=>x=(.exit 0,⟨68,[(1,ct a.2),(5,.ref 0 0 0)],Jt (cF (fP a.1)) uT uT uT (fP a.1).length 0 0 0⟩))
 (by
  rintro⟨l,live⟩ k ⟨hm,h0,h1⟩;dsimp only at*
  (rw[<-qjp];delta b9 wx dW gR l7 Ju CN Z2t Z2u nP D5 mZ D6 KX Z2B mC A2 KY MB Zl Zm fo pV eu im Z2O Z8 Z7 Zh pU Ze jG Zx Zt ZE ZZ CO CP A3 VA VB Z2N Z2 oP Z5 xG nb nQ BU)
  simp only[zaa];refine aW (λh=> ?_) λh=> ?_
  ·have hk:k.toNat<l.length:=by omega
   rw[iN hk];have e:fP (l.take (k+1).toNat)=BT (fP (l.take k.toNat)) (l.getD k.toNat qa):=by rw[show(k+1).toNat=k.toNat+1 by omega];exact tN BT [] l _ k.toNat hk
   generalize l.getD k.toNat qa=p at e;generalize fP (l.take k.toNat)=T at e;have go: ∀T',BT T p=T'-> ∃m,m<((l.length:Int)-k).toNat/\ ∃b,(⟨68,[(1,ct live),(5,.ref 0 0 0),(18,dD l),(19,.d (.int .i64 (l.length:Int))),(20,.d (.int .i64 (k+1)))],Jt (cF T') uT uT uT T'.length 0 0 0⟩:S)=tk3 l live b (cF (fP (l.take b.toNat))) (fP (l.take b.toNat)).length/\(l.length<=1000000/\0<=b/\b.toNat<=l.length)/\m=((l.length:Int)-b).toNat:=λT' hT=>⟨((l.length:Int)-(k+1)).toNat,by omega,k+1,by rw[e,hT],⟨hm,by omega,by omega⟩,rfl⟩
   refine bh ⟨h0,by omega⟩ (aq (dX _) (aq ?_ (ay (λhh=> ?_) λhh=>aq (iZ (by omega) (by omega)) ?_)))
   ·show bO PR 108 (aQ (cF T (aL p.1)) _)=true;rw[nK];cases a7 T p.1 with
    |none=>kernel_rfl
    |some q=>exact dX q
   ·have bI:(a7 T p.1).isSome=false:=by
     have hh':(!(cF T (aL p.1)).isSome)=true:=hh;have:(cF T (aL p.1)).isSome=false:=by simpa using hh'
     rw[nK,zdj] at this;exact this
    refine⟨p.1.1,p.1.2.1,p.1.2.2,rfl,rfl,ay (λh3=>⟨p.2.2.1,rfl,rfl,ay (λh4=>aq (iZ (by omega) (by omega)) ?_) λh4=>aq (iZ (by omega) (by omega)) ?_⟩) λh3=>aq (iZ (by omega) (by omega)) ?_⟩
    ·have:=go (T++[p]) (by unfold BT;simp[bI,pB,h3,h4]);rw[<-Jv bI] at this;have el:((T++[p]).length:Int)=(bif Option.isSome (cF T (aL p.1)) then(T.length:Int) else(T.length:Int)+1):=by rw[nK];simp[bI]
     rw[el] at this;exact this
    ·exact go T (by unfold BT;simp[bI,pB,h4])
    exact go T (by unfold BT;simp[bI,pB,h3])
   have dV:(a7 T p.1).isSome=true:=by
    have hh':(!(cF T (aL p.1)).isSome)=false:=hh;have:(cF T (aL p.1)).isSome=true:=by simpa using hh'
    rw[nK,zdj] at this;exact this
   exact go T (by unfold BT;simp[dV])
  rw[zak (by omega)];rfl)
 (by
  rintro s ae ⟨l,live,rfl,hm,hp⟩;refine⟨(l,live),0,?_,⟨hm,by decide,by simp⟩,?_⟩
  ·have:cF (fP [])=uT:=by funext d;show xF _ _ d=none;unfold xF;split<;>rfl
   show _=tk3 l live 0 (cF (fP [])) 0;rw[this]
  rintro x rfl;exact hp)
theorem qbt:FD X 80 Vz:=FD.mk (by kernel_rfl) .nil (.cons qbs (.cons VC .nil)) (by
 intro ps R ae hh;obtain⟨l,live,rfl,rfl,⟨h1,h2⟩,hp⟩:=hh
 (rw[<-qnD];delta Ju CN Z2t jd nP D5 b9 dH j8 Z2u mZ D6 KX Z2B ky Z2y dW kU uU gR fo gx Z5 pV Z2n eu nQ im wx l7)
 simp only[zaa];exact⟨l,live,rfl,h1,live,_,_,rfl,h2,hp⟩)
end
abbrev fL(f1 f2 f3 f4:D->Option D)(c1 c2 c3 c4:Int)(z2 z3:Bool):List (Nat×En):=
 [(0,⟨0,some 0,.box 163 [.mp 1 0,.mp 2 0,.mp 3 0,.mp 4 0]⟩),(1,⟨0,some 1,.map 49 f1 c1 false⟩),(2,⟨0,some 2,.map 49 f2 c2 z2⟩),(3,⟨0,some 3,.map 49 f3 c3 z3⟩),(4,⟨0,some 4,.map 49 f4 c4 false⟩)]
abbrev wyR(x:ao)(out:List ao) f1 f2 f3 f4 c1 c2 c3 c4 z2 z3:=
 fL f1 f2 f3 f4 c1 c2 c3 c4 z2 z3++[(5,⟨0,none,.box 49 [.d (.int .i64 x.1),.d (.int .i64 x.2.1),.d (.int .i64 x.2.2)]⟩),(6,⟨0,none,.arr 49 false (out.map aL)⟩)]
abbrev wyH(x:ao)(out:List ao)(m k:Int)(f1 f2 f3 f4:D->Option D)(c1 c2 c3 c4:Int)(z2 z3:Bool):S:=
 ⟨50,[(0,.ref 0 0 0),(3,.ref 5 0 0),(6,.sl 6 0 out.length),(15,.d (.int .i64 m)),(16,.d (.int .i64 k))],wyR x out f1 f2 f3 f4 c1 c2 c3 c4 z2 z3⟩
def nR f4 c4:=(4,En.mk 0 (some 4) (nP f4 c4))
def A6 f4 c4:=[nR f4 c4]
def gD:=(0,b9)
def Z3o:=[gD]
def gj(x:ao):=Prod.snd (Prod.snd x)
def gk x:=D.int .i64 (gj x)
def gy(x:ao):=Prod.fst (Prod.snd x)
def fQ x:=D.int .i64 (gy x)
def fR(x:ao):=D.int .i64 (Prod.fst x)
def gS x:=D.agg [fR x,fQ x,gk x]
def Z3n(f1:D->Option D) x:=En.mk 0 none (Obj.box (49:TypeId) [P.d (D.int .i64 (D.aj (D.au (aQ (f1 (gS x)) xG) 3))),P.d (D.int .i64 (D.aj (D.au (aQ (f1 (gS x)) xG) 4))),P.d (D.int .i64 (D.aj (D.au (aQ (f1 (gS x)) xG) 5)))])
def Z3m:=(3,P.ref 5 0 0)
def SF out:=List.take (dH out) (dW out)
def Z3l out x:=En.mk 0 none (Obj.arr (49:TypeId) false (SF out++[gS x]))
def ud f3 c3 z3:=(3,En.mk 0 (some 3) (Obj.map 49 f3 c3 z3))
def l8 f2 c2 z2:=(2,En.mk 0 (some 2) (Obj.map 49 f2 c2 z2))
def Gc f1 c1:=(1,En.mk 0 (some 1) (nP f1 c1))
def hY:=(0,En.mk 0 (some 0) D6)
def Z3j out x:=dH out+List.length [gS x]
def tO:=En.mk 0 none (Obj.arr (49:TypeId) false [])
def vN:=P.sl 5 0 0
def Z3i(ae:PX×S->Prop) f1 c1 f2 c2 z2 f3 c3 z3 f4 c4:=ae (PX.ret,S.mk 50 [gD,(4,vN),(5,P.d Z2)] [hY,Gc f1 c1,l8 f2 c2 z2,ud f3 c3 z3,nR f4 c4,(5,tO)])
theorem qjq x out m k f1 f2 f3 f4 c1 c2 c3 c4 z2 z3 ae:(bif ZH k m then ob (bO PR (108:TypeId) (aQ (f1 (gS x)) xG)) (bif !Option.isSome (f1 (gS x)) then Z3i ae f1 c1 f2 c2 z2 f3 c3 z3 f4 c4 else bif decide (ky out>(0:Int)) then bif !D.dp (D.au (aQ (f1 (gS x)) xG) 7) then Z3i ae f1 c1 f2 c2 z2 f3 c3 z3 f4 c4 else ob (Nat.ble (dH out) (kU out)&&aG (Z3j out x) 24) (bif D.aj (D.au (aQ (f1 (gS x)) xG) 3)==(0:Int)&&(D.aj (D.au (aQ (f1 (gS x)) xG) 4)==(0:Int)&&true)&&(D.aj (D.au (aQ (f1 (gS x)) xG) 5)==(0:Int)&&true) then ae (PX.ret,S.mk 50 [gD,(4,P.sl 5 0 (Z3j out x)),(5,ZL)] [hY,Gc f1 c1,l8 f2 c2 z2,ud f3 c3 z3,nR f4 c4,(5,Z3l out x)]) else ob (Zh k) (ae (PX.normal,S.mk 50 [gD,Z3m,(6,P.sl 6 0 (Z3j out x)),(15,P.d (Zt m)),(16,Zm k)] [hY,Gc f1 c1,l8 f2 c2 z2,ud f3 c3 z3,nR f4 c4,(5,Z3n f1 x),(6,Z3l out x)]))) else ob (Nat.ble (dH out) (kU out)&&aG (Z3j out x) 24) (bif D.aj (D.au (aQ (f1 (gS x)) xG) 3)==(0:Int)&&(D.aj (D.au (aQ (f1 (gS x)) xG) 4)==(0:Int)&&true)&&(D.aj (D.au (aQ (f1 (gS x)) xG) 5)==(0:Int)&&true) then ae (PX.ret,S.mk 50 [gD,(4,P.sl 5 0 (Z3j out x)),(5,ZL)] [hY,Gc f1 c1,l8 f2 c2 z2,ud f3 c3 z3,nR f4 c4,(5,Z3l out x)]) else ob (Zh k) (ae (PX.normal,S.mk 50 [gD,Z3m,(6,P.sl 6 0 (Z3j out x)),(15,P.d (Zt m)),(16,Zm k)] [hY,Gc f1 c1,l8 f2 c2 z2,ud f3 c3 z3,nR f4 c4,(5,Z3n f1 x),(6,Z3l out x)])))) else ae (PX.exit 0,S.mk 50 Z3o (hY::Gc f1 c1::l8 f2 c2 z2::ud f3 c3 z3::A6 f4 c4)))=(aD [] [] 125 3 (wyH x out m k f1 f2 f3 f4 c1 c2 c3 c4 z2 z3)) ae:=by kernel_rfl
def SG(T:List Pl):Nat->ao->List ao->Option (List ao)
 |0,_,_=>none
 |n+1,x,out=>match a7 T x with
  |none=>none
  |some p=>if 0<out.length/\p.2.2.2=false then none else if p.2.1=(0,0,0) then some (out++[x]) else SG T n p.2.1 (out++[x])
def wy T x:=SG T (T.length+1) x []
abbrev wyO(l:List ao)(b:Bool)(f1 f2 f3 f4:D->Option D)(c1 c2 c3 c4:Int)(z2 z3:Bool):S:=
 ⟨50,[(0,.ref 0 0 0),(4,.sl 5 0 l.length),(5,.d (.bool b))],fL f1 f2 f3 f4 c1 c2 c3 c4 z2 z3++[(5,⟨0,none,.arr 49 false (l.map aL)⟩)]⟩
def gWy:S->K (PX×S):=λs ae=> ∃T x f2 f3 f4 c2 c3 c4 z2 z3,s=wyH x [] ((T.length:Int)+1) 0 (cF T) f2 f3 f4 T.length c2 c3 c4 z2 z3/\T.length<=1000000/\
 (∀l,wy T x=some l->ae (.ret,wyO l true (cF T) f2 f3 f4 T.length c2 c3 c4 z2 z3))/\(wy T x=none->ae (.ret,wyO [] false (cF T) f2 f3 f4 T.length c2 c3 c4 z2 z3)/\ae (.exit 0,⟨50,[(0,.ref 0 0 0)],fL (cF T) f2 f3 f4 T.length c2 c3 c4 z2 z3⟩))
def sL l:=En.mk 0 none (Obj.arr (49:TypeId) false (dW l))
def Z3r eR:=(1,En.mk 0 (some 1) (Obj.map 49 (λx=>match x with |D.agg [D.int .i64 a,D.int .i64 b,D.int .i64 c]=>Option.map bn (a7 eR (a,b,c))|_=>none) (pV eR) false))
def nS bm:=En.mk 0 none (Obj.box (49:TypeId) [P.d (fR bm),P.d (fQ bm),P.d (gk bm)])
def Z3q:=[(16,P.d Z5)]
theorem qnE T x f2 f3 f4 c1 c2 c3 c4 z2 z3 ae:(ob (Zh c1) (∃eR bm qb tQ kz l9 tR kV uV CQ,S.mk 50 (gD::Z3m::(6,P.sl 6 0 0)::(15,Zm c1)::Z3q) [hY,(1,En.mk 0 (some 1) (Obj.map 49 (λx=>match x with |D.agg [D.int .i64 a,D.int .i64 b,D.int .i64 c]=>Option.map bn (a7 T (a,b,c))|_=>none) c1 false)),l8 f2 c2 z2,ud f3 c3 z3,nR f4 c4,(5,nS x),(6,tO)]=S.mk 50 (gD::Z3m::(6,P.sl 6 0 0)::(15,P.d (D.int .i64 (pV eR+(1:Int))))::Z3q) [hY,Z3r eR,l8 qb l9 uV,ud tQ tR CQ,nR kz kV,(5,nS bm),(6,tO)]/\gx eR/\(∀l,wy eR bm=some l->ae (P.dz (P.sl 5 0 (dH l)::Ot),[hY,Z3r eR,l8 qb l9 uV,ud tQ tR CQ,nR kz kV,(5,sL l)]))/\(wy eR bm=none->ae (P.dz (vN::Rh),[hY,Z3r eR,l8 qb l9 uV,ud tQ tR CQ,nR kz kV,(5,tO)])/\ae (P.dz (vN::Rh),[hY,Z3r eR,l8 qb l9 uV,ud tQ tR CQ,nR kz kV,(5,tO)]))))=(aI [] [(3,ah (aR 125 3) gWy)] 125 [.ref 0 0 0,.d (aL x)] (fL (cF T) f2 f3 f4 c1 c2 c3 c4 z2 z3)) ae:=by kernel_rfl
def qbu:a8:=λps R ae=> ∃T x f2 f3 f4 c2 c3 c4 z2 z3,ps=[.ref 0 0 0,.d (aL x)]/\R=fL (cF T) f2 f3 f4 T.length c2 c3 c4 z2 z3/\T.length<=1000000/\
 (∀l,wy T x=some l->ae (.dz [.sl 5 0 l.length,.d (.bool true)],fL (cF T) f2 f3 f4 T.length c2 c3 c4 z2 z3++[(5,⟨0,none,.arr 49 false (l.map aL)⟩)]))/\
 (wy T x=none->ae (.dz [.sl 5 0 0,.d (.bool false)],fL (cF T) f2 f3 f4 T.length c2 c3 c4 z2 z3++[(5,⟨0,none,.arr 49 false []⟩)]))
theorem Oz(l:List ao):(l.map aL).take l.length=l.map aL:=zak (by simp)
section
variable{X:XF}
abbrev WyA:=List Pl×ao×(D->Option D)×(D->Option D)×(D->Option D)×Int×Int×Int×Bool×Bool
theorem qgr:LD X 125 3 (ah (aR 125 3) gWy):=LD.par (by kernel_rfl) (by kernel_rfl) .nil .nil
 (A:=WyA) (B:=ao×List ao×Int) (λa b=>wyH b.1 b.2.1 ((a.1.length:Int)+1) b.2.2 (cF a.1) a.2.2.1 a.2.2.2.1 a.2.2.2.2.1 a.1.length a.2.2.2.2.2.1 a.2.2.2.2.2.2.1 a.2.2.2.2.2.2.2.1 a.2.2.2.2.2.2.2.2.1 a.2.2.2.2.2.2.2.2.2)
 (λa b=>a.1.length<=1000000/\b.2.2=(b.2.1.length:Int)/\b.2.1.length<=a.1.length+1/\SG a.1 (a.1.length+1-b.2.1.length) b.1 b.2.1=wy a.1 a.2.1)
 (λa b=>a.1.length+1-b.2.1.length)
 (λa x=>(∃l,wy a.1 a.2.1=some l/\x=(.ret,wyO l true (cF a.1) a.2.2.1 a.2.2.2.1 a.2.2.2.2.1 a.1.length a.2.2.2.2.2.1 a.2.2.2.2.2.2.1 a.2.2.2.2.2.2.2.1 a.2.2.2.2.2.2.2.2.1 a.2.2.2.2.2.2.2.2.2))\/
  (wy a.1 a.2.1=none/\(x=(.ret,wyO [] false (cF a.1) a.2.2.1 a.2.2.2.1 a.2.2.2.2.1 a.1.length a.2.2.2.2.2.1 a.2.2.2.2.2.2.1 a.2.2.2.2.2.2.2.1 a.2.2.2.2.2.2.2.2.1 a.2.2.2.2.2.2.2.2.2)\/
   x=(.exit 0,⟨50,[(0,.ref 0 0 0)],fL (cF a.1) a.2.2.1 a.2.2.2.1 a.2.2.2.2.1 a.1.length a.2.2.2.2.2.1 a.2.2.2.2.2.2.1 a.2.2.2.2.2.2.2.1 a.2.2.2.2.2.2.2.2.1 a.2.2.2.2.2.2.2.2.2⟩))))
 (by
  rintro⟨T,x0,f2,f3,f4,c2,c3,c4,z2,z3⟩ ⟨x,out,k⟩ ⟨hm,fO,hle,hw⟩;dsimp only at*
  (rw[<-qjq];delta nP nR A6 b9 gD Z3o Z2 oP Z5 xG gj gk gy fQ fR gS Z3n Zl Zm Zt Z3m Z8 Z7 Zh dW dH SF Z3l ud l8 Gc mZ D6 hY ZL Z3j kU ky tO vN Z3i ZH)
  refine aW (λh=> ?_) λh=> ?_
  ·have hn:T.length+1-out.length=(T.length-out.length)+1:=by omega
   rw[hn] at hw;simp only[SG] at hw;have hf:cF T (D.agg [D.int IntKind.i64 (Prod.fst x),D.int IntKind.i64 (Prod.fst (Prod.snd x)),D.int IntKind.i64 (Prod.snd (Prod.snd x))])=(a7 T x).map bn:=rfl;simp only[hf];cases hp:a7 T x with
   |none=>rw[hp] at hw;exact aq (by kernel_rfl) (kJ rfl (.inr ⟨hw.symm,.inl rfl⟩))
   |some p=>
    rw[hp] at hw;simp only at hw;refine aq (dX p) (fJ rfl ?_);have fit:decide ((-9223372036854775808:Int)<=k+(1:Int)/\k+(1:Int)<=(9223372036854775807:Int))=true:=iZ (by omega) (by omega);have room:(Nat.ble (List.length out) (List.length (List.map aL out))&&aG (List.length out+List.length [D.agg [D.int IntKind.i64 (Prod.fst x),D.int IntKind.i64 (Prod.fst (Prod.snd x)),D.int IntKind.i64 (Prod.snd (Prod.snd x))]]) 24)=true:=by rw[zaa];simp[aG];omega
    have e1:(out++[x]).length=out.length+List.length [D.agg [D.int IntKind.i64 (Prod.fst x),D.int IntKind.i64 (Prod.fst (Prod.snd x)),D.int IntKind.i64 (Prod.snd (Prod.snd x))]]:=by simp
    have e2:(out++[x]).map aL=List.take out.length (out.map aL)++[D.agg [D.int IntKind.i64 (Prod.fst x),D.int IntKind.i64 (Prod.fst (Prod.snd x)),D.int IntKind.i64 (Prod.snd (Prod.snd x))]]:=by rw[Oz];simp[aL]
    have pz: ∀b:Bool,(p.2.1.1==0&&(p.2.1.2.1==0&&true)&&(p.2.1.2.2==0&&true))=b->(if p.2.1=(0,0,0) then true else false)=b:=λb hb=>by
     subst hb;by_cases h3:p.2.1=(0,0,0)
     ·rw[h3];rfl
     rw[zan h3];cases hb:(p.2.1.1==0&&(p.2.1.2.1==0&&true)&&(p.2.1.2.2==0&&true)) with
     |false=>rfl
     |true=>simp at hb;exact absurd (Prod.ext hb.1.1 (Prod.ext hb.1.2 hb.2)) h3
    have f1: ¬(0<out.length/\p.2.2.2=false)->(p.2.1.1==0&&(p.2.1.2.1==0&&true)&&(p.2.1.2.2==0&&true))=true->wy T x0=some (out++[x]):=λhg hz=>by
     have h3:p.2.1=(0,0,0):=by
      have:=pz _ hz;by_cases h3:p.2.1=(0,0,0)
      ·exact h3
      rw[zan h3] at this;cases this
     rw[zan hg,zap h3] at hw;exact hw.symm
    have f2': ¬(0<out.length/\p.2.2.2=false)->(p.2.1.1==0&&(p.2.1.2.1==0&&true)&&(p.2.1.2.2==0&&true))=false->SG T (T.length+1-(out++[x]).length) p.2.1 (out++[x])=wy T x0:=λhg hz=>by
     have h3: ¬p.2.1=(0,0,0):=λh3=>by have:=pz _ hz;rw[zap h3] at this;cases this
     rw[zan hg,zan h3] at hw;have en:T.length+1-(out++[x]).length=T.length-out.length:=by rw[zaj,zbM];omega
     rw[en];exact hw
    refine aW (λVt=>ay (λhd=> .inr ⟨?_,.inl rfl⟩) λhd=>aq room (ay (λhz=> .inl ⟨out++[x],?_,?_⟩) λhz=>aq fit ⟨T.length+1-(out++[x]).length,?_,(p.2.1,out++[x],k+1),?_,⟨hm,?_,?_,?_⟩,?_⟩))
     λVt=>aq room (ay (λhz=> .inl ⟨out++[x],?_,?_⟩) λhz=>aq fit ⟨T.length+1-(out++[x]).length,?_,(p.2.1,out++[x],k+1),?_,⟨hm,?_,?_,?_⟩,?_⟩)
    ·have Iu:(!p.2.2.2)=true:=hd;have j9:p.2.2.2=false:=by simpa using Iu
     rw[zap ⟨by omega,j9⟩] at hw;exact hw.symm
    ·exact f1 (λhg=>by have Iu:(!p.2.2.2)=false:=hd;rw[hg.2] at Iu;cases Iu) hz
    ·simp only[wyO,e1,e2];rfl
    ·simp;omega
    ·simp only[wyH,wyR,e1,e2];rfl
    ·show k+1=((out++[x]).length:Int)
     rw[fO,zaj,zbM];omega
    ·simp;omega
    ·exact f2' (λhg=>by have Iu:(!p.2.2.2)=false:=hd;rw[hg.2] at Iu;cases Iu) hz
    ·rfl
    ·exact f1 (λhg=>Vt (by have:=hg.1;omega)) hz
    ·simp only[wyO,e1,e2];rfl
    ·simp;omega
    ·simp only[wyH,wyR,e1,e2];rfl
    ·show k+1=((out++[x]).length:Int)
     rw[fO,zaj,zbM];omega
    ·simp;omega
    ·exact f2' (λhg=>Vt (by have:=hg.1;omega)) hz
    rfl
  have:T.length+1-out.length=0:=by omega
  rw[this] at hw;exact .inr ⟨hw.symm,.inr rfl⟩)
 (by
  rintro s ae ⟨T,x,f2,f3,f4,c2,c3,c4,z2,z3,rfl,hm,h1,h2⟩;refine⟨(T,x,f2,f3,f4,c2,c3,c4,z2,z3),(x,[],0),rfl,⟨hm,rfl,by simp,rfl⟩,?_⟩;rintro y (⟨l,h3,rfl⟩| ⟨h3,rfl |rfl⟩)
  ·exact h1 l h3
  ·exact(h2 h3).1
  exact(h2 h3).2)
theorem qd3:FD X 125 qbu:=FD.mk (by kernel_rfl) .nil (.cons qgr .nil) (by
 intro ps R ae hh;obtain⟨T,x,f2,f3,f4,c2,c3,c4,z2,z3,h01,h02,hm,h1,h2⟩:=hh;subst h01;have key: ∀c1:Int,c1=(T.length:Int)->aI [] [(3,ah (aR 125 3) gWy)] 125 [.ref 0 0 0,.d (aL x)] (fL (cF T) f2 f3 f4 c1 c2 c3 c4 z2 z3) ae:=by
  intro c1 hc
  (rw[<-qnE];delta Z2 Rh vN dW sL ZL Ot dH fo gx pV Z3r tO gj gk gy fQ fR nS nP nR ud l8 mZ D6 hY Z5 Z3q Zl Zm Z3m b9 gD Z8 Z7 Zh)
  refine aq (iZ (by omega) (by omega)) ⟨T,x,f2,f3,f4,c2,c3,c4,z2,z3,?_,hm,λl hl=>h1 l hl,λh=>⟨h2 h,h2 h⟩⟩;rw[hc]
 rw[h02];clear h1 h2 h02;generalize hc:(T.length:Int)=c1;exact key c1 hc.symm)
end
def fc(x y:ao):=decide (x.1<y.1\/x.1=y.1/\(x.2.1<y.2.1\/x.2.1=y.2.1/\x.2.2<y.2.2))
theorem ff x y:mY x.1 x.2.1 x.2.2 y.1 y.2.1 y.2.2<0↔fc x y=true:=by
 unfold fc;simp only[zah,mY,uS,Rj,r1]
 (repeat' split)<;>omega
structure Jw{α:Type}(lt:α->α->Bool):Prop where
 IV: ∀x,lt x x=false
 tr: ∀x y z,lt x y=true->lt y z=true->lt x z=true
 rU: ∀x y,lt x y=false->lt y x=false->x=y
theorem iq:Jw fc where
 IV x:=by simp[fc]
 tr x y z:=by simp only[fc,zah];omega
 rU x y:=by
  simp only[fc,zaP];intro h1 h2;obtain⟨a,b,c⟩:=x;obtain⟨d,e,f⟩:=y;simp only at h1 h2;have:a=d:=by omega
  have:b=e:=by omega
  have:c=f:=by omega
  subst_vars
  rfl
theorem Jw.asymm{α:Type}{lt:α->α->Bool}(h:Jw lt){x y}(h1:lt x y=true):lt y x=false:=by
 cases h2:lt y x with
 |false=>rfl
 |true=>have:=h.tr _ _ _ h1 h2;rw[h.IV] at this;cases this
theorem Jw.ntr{α:Type}{lt:α->α->Bool}(h:Jw lt){x y z}(h1:lt x y=false)(h2:lt y z=false):lt x z=false:=by
 cases h3:lt x z with
 |false=>rfl
 |true=>
  cases h4:lt y x with
  |true=>rw[h.tr _ _ _ h4 h3] at h2;cases h2
  |false=>have:=h.rU _ _ h1 h4;subst this;rw[h3] at h2;cases h2
theorem sM: ∀x,Op.bytesLess x []=false
 | []=>rfl
 |_::_=>rfl
theorem mc a b r s:Op.bytesLess (a::r) (b::s)=(decide (a<b)||a==b&&Op.bytesLess r s):=rfl
theorem sN: ∀x,Op.bytesLess x x=false
 | []=>rfl
 |a::r=>by rw[mc,sN r];simp[UInt8.lt_irrefl]
theorem sO: ∀x y,Op.bytesLess x y=false->Op.bytesLess y x=false->x=y
 | [],[],_,_=>rfl
 | [],_::_,h,_=>by cases h
 |_::_,[],_,h=>by cases h
 |a::r,b::s,h1,h2=>by rw[mc] at h1 h2;simp only[zc1,zaP,Bool.and_eq_false_imp,za1] at h1 h2;have:a=b:=UInt8.le_antisymm (UInt8.not_lt.1 h2.1) (UInt8.not_lt.1 h1.1);subst this;rw[sO r s (h1.2 rfl) (h2.2 rfl)]
theorem uW: ∀x y z,Op.bytesLess x y=true->Op.bytesLess y z=true->Op.bytesLess x z=true
 |_,y,[],_,h=>by rw[sM] at h;cases h
 |x,[],_::_,h,_=>by rw[sM] at h;cases h
 | [],_::_,_::_,_,_=>rfl
 |a::r,b::s,c::t,h1,h2=>by
  rw[mc] at h1 h2⊢;simp only[za8,zah,zac,za1] at h1 h2⊢;rcases h1 with h1 | ⟨rfl,h1⟩
  ·rcases h2 with h2 | ⟨rfl,h2⟩
   ·exact .inl (UInt8.lt_trans h1 h2)
   exact .inl h1
  rcases h2 with h2 | ⟨rfl,h2⟩
  ·exact .inl h2
  exact .inr ⟨rfl,uW r s t h1 h2⟩
theorem Jx:Jw Op.bytesLess:=⟨sN,uW,sO⟩
theorem qbv x y:CM x y<0↔Op.bytesLess x y=true:=by
 unfold CM;split
 ·simp_all
 split<;>simp_all
section
variable{α:Type}(lt:α->α->Bool)
def pC(a:α):List α->List α
 | []=>[a]
 |b::r=>if lt a b then b::pC a r else a::b::r
def cq(o:List α) a:=(pC lt a o.reverse).reverse
def bT(l:List α):=l.foldl (cq lt) []
variable{lt}
theorem wz a: ∀l,(pC lt a l).Perm (a::l)
 | []=> .refl _
 |b::r=>by
  unfold pC;split
  ·exact((wz a r).cons b).trans (.swap a b r)
  exact .refl _
theorem dI o a:(cq lt o a).Perm (o++[a]):=by unfold cq;refine(zdk _).trans ((wz a _).trans ?_);exact((zdk o).cons a).trans (List.perm_append_comm (l₁:=[a]) (l₂:=o))
theorem A7: ∀(l o:List α),(l.foldl (cq lt) o).Perm (o++l)
 | [],o=>by simp
 |a::r,o=>by refine(A7 r _).trans ?_;exact((dI o a).append_right r).trans (by simp)
theorem bR l:(bT lt l).Perm l:=by simpa [bT] using A7 (lt:=lt) l []
theorem OA(h:Jw lt) a: ∀l,l.Pairwise (λx y=>lt x y=false)->(pC lt a l).Pairwise (λx y=>lt x y=false)
 | [],_=>by simp[pC]
 |b::r,hp=>by
  unfold pC;have SB:=zcy.1 hp;split
  next hl=>
   refine zcy.2 ⟨λy hy=> ?_,OA h a r SB.2⟩;rcases zat.1 ((wz a r).mem_iff.1 hy) with rfl |hy
   ·exact h.asymm hl
   exact SB.1 _ hy
  rename_i hl;have hl:lt a b=false:=by simpa using hl
  refine zcy.2 ⟨λy hy=> ?_,hp⟩;rcases zat.1 hy with rfl |hy
  ·exact hl
  exact h.ntr hl (SB.1 _ hy)
theorem uX(h:Jw lt){o} a (hp:o.Pairwise (λx y=>lt y x=false)):(cq lt o a).Pairwise (λx y=>lt y x=false):=by unfold cq;rw[zcq];exact OA h a _ (by rw[zcq];exact hp)
theorem Jy(h:Jw lt): ∀(l o:List α),o.Pairwise (λx y=>lt y x=false)->(l.foldl (cq lt) o).Pairwise (λx y=>lt y x=false)
 | [],_,hp=>hp
 |a::r,_,hp=>Jy h r _ (uX h a hp)
theorem uY(h:Jw lt) l:(bT lt l).Pairwise (λx y=>lt y x=false):=Jy h l [] .nil
theorem MC(h:Jw lt){a b:List α}(hp:a.Perm b)(ha:a.Pairwise (λx y=>lt y x=false))(hb:b.Pairwise (λx y=>lt y x=false)):a=b:=
 zdA (λ_ _ _ _ h1 h2=>h.rU _ _ h2 h1) ha hb hp
theorem A8(h:Jw lt){a b}(hp:a.Perm b)(ha:a.Pairwise (λx y=>lt y x=false)):a=bT lt b:=
 MC h (hp.trans (bR b).symm) ha (uY h b)
end
theorem pD{α β:Type}{lt}(h:Jw lt)(key:α->β){a b:List α}(hk: ∀x∈a,∀y∈a,key x=key y->x=y)(hp:a.Perm b)
  (ha:a.Pairwise (λx y=>lt (key y) (key x)=false)) (hb:b.Pairwise (λx y=>lt (key y) (key x)=false)):a=b:=
 zdA (le:=λx y=>lt (key y) (key x)=false) (λx y hx hy h1 h2=>hk x hx y (hp.mem_iff.2 hy) (h.rU _ _ h2 h1)) ha hb hp
theorem uZ{α β:Type}{lt}(key:α->β) a: ∀l,(pC (λx y=>lt (key x) (key y)) a l).map key=pC lt (key a) (l.map key)
 | []=>rfl
 |b::r=>by
  simp only[pC,za4];split
  ·simp[uZ key a r]
  simp
theorem VD{α β:Type}{lt}(key:α->β) o a:(cq (λx y=>lt (key x) (key y)) o a).map key=cq lt (o.map key) (key a):=by unfold cq;rw[zbH,uZ,zbH]
theorem D7{α β:Type}{lt:β->β->Bool} key: ∀l o:List α,(l.foldl (cq (λx y=>lt (key x) (key y))) o).map key=(l.map key).foldl (cq lt) (o.map key)
 | [],_=>rfl
 |a::r,o=>by simp only[zaO,za4];rw[D7 key r,VD]
theorem rG{α β:Type}{lt}(h:Jw lt)(key:α->β) l:(bT (λx y=>lt (key x) (key y)) l).Pairwise (λx y=>lt (key y) (key x)=false):=by have e:(bT (λx y=>lt (key x) (key y)) l).map key=bT lt (l.map key):=D7 key l [];have:=uY h (l.map key);rw[<-e,zbe] at this;exact this
abbrev aA:ao:=(0,0,0)
inductive Up(T:List Pl):ao->List ao->Prop
 |top {x:ao} {p:Pl} (h:a7 T x=some p) (h0:p.2.1=aA):Up T x [x]
 |step {x:ao} {p q:Pl} {w:List ao} (h:a7 T x=some p) (h0:p.2.1≠aA) (hq:a7 T p.2.1=some q) (hd:q.2.2.2=true) (hw:Up T p.2.1 w):Up T x (x::w)
section
variable{T:List Pl}
theorem bN{x p}(h:a7 T x=some p):p∈T/\p.1=x:=by unfold a7 at h;exact⟨List.mem_of_find?_eq_some h,by simpa using List.find?_some h⟩
theorem Up.one{x w}(h:Up T x w): ∀{w'},Up T x w'->w=w':=by
 induction h with
 |top h h0=>
  intro w' h';cases h' with
  |top=>rfl
  |step h1 h2=>rw[h] at h1;cases h1;exact absurd h0 h2
 |step h h0 hq hd hw ih=>
  intro w' h';cases h' with
  |top h1 h2=>rw[h] at h1;cases h1;exact absurd h2 h0
  |step h1 h2 _ _ h5=>rw[h] at h1;cases h1;rw[ih h5]
theorem Up.hd{x w}(h:Up T x w): ∃r,w=x::r:=by
 cases h with
 |top=>exact⟨_,rfl⟩
 |step=>exact⟨_,rfl⟩
theorem Up.at{x w}(h:Up T x w): ∃p,a7 T x=some p:=by
 cases h with
 |top h=>exact⟨_,h⟩
 |step h=>exact⟨_,h⟩
theorem Up.sub{x w}(h:Up T x w): ∀u∈w,∃w',Up T u w'/\w'.length<=w.length/\ ∃v,w=v++w':=by
 induction h with
 |top h h0=>intro u hu;simp at hu;subst hu;exact⟨_,.top h h0,by simp,[],rfl⟩
 | @step x p q w h h0 hq hd hw ih=>
  intro u hu;rcases zat.1 hu with rfl |hu
  ·exact⟨_,.step h h0 hq hd hw,zal _,[],rfl⟩
  obtain⟨w',h1,h2,v,h3⟩:=ih u hu;exact⟨w',h1,by simp;omega,x::v,by rw[h3];rfl⟩
theorem Up.nodup{x w}(h:Up T x w):w.Nodup:=by
 induction h with
 |top=>simp
 | @step x p q w h h0 hq hd hw ih=>refine za9.2 ⟨λhx=> ?_,ih⟩;obtain⟨w',h1,h2,_⟩:=hw.sub x hx;have:=h1.one (.step h h0 hq hd hw);rw[this] at h2;simp at h2;omega
theorem Up.len{x w}(h:Up T x w):w.length<=T.length:=by
 have:w⊆T.map (·.1):=λu hu=>by obtain⟨w',h1,_⟩:=h.sub u hu;obtain⟨p,hp⟩:=h1.at;obtain⟨h2,h3⟩:=bN hp;exact zaq.2 ⟨p,h2,h3⟩
 simpa using h.nodup.length_le_of_subset this
theorem VE: ∀n x out l,SG T n x out=some l->(∀p,0<out.length->a7 T x=some p->p.2.2.2=true)-> ∃w,l=out++w/\Up T x w
 |0,_,_,_,h,_=>by cases h
 |n+1,x,out,l,h,hd=>by
  unfold SG at h;cases hp:a7 T x with
  |none=>rw[hp] at h;cases h
  |some p=>
   rw[hp] at h;simp only at h;split at h
   ·cases h
   split at h
   ·cases h;exact⟨[x],rfl,.top hp (by assumption)⟩
   rename_i h0 h1;cases hq:a7 T p.2.1 with
   |none=>
    cases n with
    |zero=>cases h
    |succ n=>unfold SG at h;rw[hq] at h;cases h
   |some q=>
    have qgs:q.2.2.2=true:=by
     cases n with
     |zero=>cases h
     |succ n=>
      unfold SG at h;rw[hq] at h;simp only at h;split at h
      ·cases h
      rename_i hh;cases hqd:q.2.2.2 with
      |true=>rfl
      |false=>exact absurd ⟨by simp,hqd⟩ hh
    obtain⟨w,e,hw⟩:=VE n p.2.1 (out++[x]) l h λp' _ SB=>by rw[hq] at SB;cases SB;exact qgs
    exact⟨x::w,by rw[e];simp,.step hp h1 hq qgs hw⟩
theorem qgt{x w}(h:Up T x w): ∀n out,w.length<=n->(∀p,0<out.length->a7 T x=some p->p.2.2.2=true)->SG T n x out=some (out++w):=by
 induction h with
 | @top x p h h0=>
  intro n out hn hd;cases n with
  |zero=>simp at hn
  |succ n=>unfold SG;simp only[h];rw[zan (λhh=>by have:=hd p hh.1 h;rw[hh.2] at this;cases this),zap h0]
 | @step x p q w h h0 hq Iu hw ih=>
  intro n out hn hd;cases n with
  |zero=>simp at hn
  |succ n=>unfold SG;simp only[h];rw[zan (λhh=>by have:=hd p hh.1 h;rw[hh.2] at this;cases this),zan h0];rw[ih n (out++[x]) (by simp at hn;omega) λp' _ SB=>by rw[hq] at SB;cases SB;exact Iu];simp
theorem pF{x w}:wy T x=some w↔Up T x w:=by
 constructor
 ·intro h;obtain⟨w',e,hw⟩:=VE _ _ _ _ h (λ_ h=>by simp at h);rw[e];exact hw
 intro h;have:=qgt h (T.length+1) [] (by have:=h.len;omega) (λ_ h=>by simp at h);rw[zbq] at this;exact this
def u4(T:List Pl):Nat->ao->Bool
 |0,_=>false
 |n+1,x=>match a7 T x with
  |none=>false
  |some p=>if p.2.1=aA then true else match a7 T p.2.1 with
   |none=>false
   |some q=>if q.2.2.2=false then false else u4 T n p.2.1
def me T x:=u4 T (T.length+1) x
theorem Jz: ∀n x,u4 T n x=true-> ∃w,Up T x w
 |0,_,h=>by cases h
 |n+1,x,h=>by
  unfold u4 at h;cases hp:a7 T x with
  |none=>rw[hp] at h;cases h
  |some p=>
   rw[hp] at h;simp only at h;split at h
   ·exact⟨_,.top hp (by assumption)⟩
   rename_i h0;cases hq:a7 T p.2.1 with
   |none=>rw[hq] at h;cases h
   |some q=>
    rw[hq] at h;simp only at h;split at h
    ·cases h
    rename_i hd;obtain⟨w,hw⟩:=Jz n _ h;exact⟨_,.step hp h0 hq (by simpa using hd) hw⟩
theorem VF{x w}(h:Up T x w): ∀n,w.length<=n->u4 T n x=true:=by
 induction h with
 | @top x p h h0=>
  intro n hn;cases n with
  |zero=>simp at hn
  |succ n=>unfold u4;simp only[h];rw[zap h0]
 | @step x p q w h h0 hq hd hw ih=>
  intro n hn;cases n with
  |zero=>simp at hn
  |succ n=>unfold u4;simp only[h,hq];rw[zan h0,zan (by rw[hd];simp)];exact ih n (by simp at hn;omega)
theorem A9{x}:me T x=true↔ ∃w,Up T x w:=
 ⟨Jz _ _,λ⟨_,h⟩=>VF h _ (by have:=h.len;omega)⟩
def cB(T:List Pl):Nat->ao->ao->Bool
 |0,_,_=>true
 |n+1,x,up=>if x=up then true else match a7 T x with
  |none=>false
  |some p=>cB T n p.2.1 up
def within T x up:=cB T (T.length+1) x up
theorem MD{x w}(h:Up T x w){up}(hu:up≠aA)(h00:a7 T aA=none): ∀n,w.length<n->cB T n x up=decide (up∈w):=by
 induction h with
 | @top x p h h0=>
  intro n hn
  match n,hn with
  |n+2,_=>
   unfold cB;simp only[h];split
   next e=>simp[e]
   rename_i e;unfold cB;rw[h0,zan (λh=>hu h.symm)];simp only[h00];simpa using λh:up=x=>e h.symm
  |1,hn=>simp at hn
 | @step x p q w h h0 hq hd hw ih=>
  intro n hn;cases n with
  |zero=>simp at hn
  |succ n=>
   unfold cB;simp only[h];split
   next e=>simp[e]
   rename_i e;rw[ih n (by simp at hn;omega)];have:up≠x:=λh=>e h.symm;simp[this]
theorem D8{V x}(h:V.Nodup):(Ga V x).Nodup:=by
 unfold Ga;split
 ·exact h
 rename_i hx;rw[zaR];exact⟨h,by simp,λa ha b hb=>by simp at hb;subst hb;exact λe=>hx (e▸ha)⟩
theorem qbw{V x z}:z∈Ga V x↔z∈V\/z=x:=by
 unfold Ga;split
 next hx=>exact⟨.inl,λh=>h.elim id λe=>e▸hx⟩
 simp
theorem D9: ∀(l V:List ao),V.Nodup->(l.foldl Ga V).Nodup
 | [],_,h=>h
 |_::r,_,h=>D9 r _ (D8 h)
theorem Rn l:(sK l).Nodup:=D9 l [] (by simp)
def marked T (live:List ao) z:=live.any λx=>match wy T x with |some w=>w.contains z |none=>false
theorem hZ{live z}:marked T live z=true↔ ∃x∈live,∃w,Up T x w/\z∈w:=by
 unfold marked;rw[za3];constructor
 ·rintro⟨x,hx,h⟩;cases hw:wy T x with
  |none=>rw[hw] at h;cases h
  |some w=>rw[hw] at h;exact⟨x,hx,w,pF.1 hw,by simpa using h⟩
 rintro⟨x,hx,w,hw,hz⟩;exact⟨x,hx,by rw[pF.2 hw];simpa using hz⟩
def aS(T:List Pl) live:=T.filter λp=>marked T live p.1
theorem ll{live z}(h:marked T live z=true): ∃w,Up T z w/\ ∀u∈w,marked T live u=true:=by obtain⟨x,hx,w,hw,hz⟩:=hZ.1 h;obtain⟨w',h1,_,v,h3⟩:=hw.sub z hz;exact⟨w',h1,λu hu=>hZ.2 ⟨x,hx,w,hw,by rw[h3];exact zba _ hu⟩⟩
theorem wA{live z}(h:marked T live z=true): ∃p,a7 T z=some p:=by obtain⟨w,hw,_⟩:=ll h;exact hw.at
def xI(S:List ao):List ao->List ao
 | []=>S
 |u::r=>if u∈S then S else xI (S++[u]) r
def UpC T (S:List ao):= ∀z∈S,∃w,Up T z w/\ ∀u∈w,u∈S
theorem qbx{x w}(h:Up T x w): ∀{S:List ao},(∀u∈w,u∈S-> ∀w',Up T u w'-> ∀z∈w',z∈S)-> ∀z,z∈xI S w↔z∈S\/z∈w:=by
 induction h with
 | @top x p h h0=>
  intro S hC z;unfold xI;split
  next hx=>exact⟨.inl,λh=>h.elim id λhz=>by simp at hz;exact hz▸hx⟩
  simp[xI]
 | @step x p q w h h0 hq hd hw ih=>
  intro S hC z;unfold xI;split
  next hx=>exact⟨.inl,λhz=>hz.elim id λhz=>hC x (by simp) hx _ (.step h h0 hq hd hw) z hz⟩
  rename_i hx;have hn:=(Up.step h h0 hq hd hw).nodup;have hxw:x∉w:=(za9.1 hn).1;rw[ih (λu hu hS w' FL z hz=>by
   have hS':u∈S:=by
    rcases zaz.1 hS with h |h
    ·exact h
    simp at h;subst h;exact absurd hu hxw
   exact zbg _ (hC u (by simp[hu]) hS' w' FL z hz))]
  simp[or_assoc]
theorem Ea: ∀(w:List ao) {S:List ao},S.Nodup->(xI S w).Nodup
 | [],_,h=>h
 |u::r,S,h=>by
  unfold xI;split
  ·exact h
  rename_i hu;refine Ea r ?_;rw[zaR];exact⟨h,by simp,λa ha b hb=>by simp at hb;subst hb;exact λe=>hu (e▸ha)⟩
theorem UpC.in{S}(h:UpC T S){z}(hz:z∈S){w}(hw:Up T z w): ∀u∈w,u∈S:=by obtain⟨w',h1,h2⟩:=h z hz;rw[hw.one h1];exact h2
theorem UpC.mk{x w}(h:Up T x w){S}(hS:UpC T S):UpC T (xI S w)/\ ∀z,z∈xI S w↔z∈S\/z∈w:=by
 have hm:=qbx h (S:=S) λu _ hu w' FL=>hS.in hu FL;refine⟨λz hz=> ?_,hm⟩;rcases(hm z).1 hz with hz |hz
 ·obtain⟨w',h1,h2⟩:=hS z hz;exact⟨w',h1,λu hu=>(hm u).2 (.inl (h2 u hu))⟩
 obtain⟨w',h1,_,v,h3⟩:=h.sub z hz;exact⟨w',h1,λu hu=>(hm u).2 (.inr (by rw[h3];exact zba _ hu))⟩
def Ba(T:List Pl)(S:List ao)(x:ao):List ao:=match wy T x with |some w=>xI S w |none=>S
theorem VG{S} x (h:UpC T S)(hn:S.Nodup):UpC T (Ba T S x)/\(Ba T S x).Nodup/\ ∀z,z∈Ba T S x↔z∈S\/ ∃w,Up T x w/\z∈w:=by
 unfold Ba;cases hw:wy T x with
 |none=>exact⟨h,hn,λz=>⟨.inl,λh=>h.elim id λ⟨w,h1,_⟩=>by rw[pF.2 h1] at hw;cases hw⟩⟩
 |some w=>have hw:=pF.1 hw;obtain⟨h1,h2⟩:=h.mk hw;exact⟨h1,Ea w hn,λz=>by rw[h2];exact or_congr Iff.rfl ⟨λh=>⟨w,hw,h⟩,λ⟨w',h3,h4⟩=>by rw[hw.one h3];exact h4⟩⟩
def aZ T live:=(aS T live).map (·.1)
def Uq(T:List Pl):=(T.map (·.1)).Nodup
theorem gT(hu:Uq T){p}(hp:p∈T):a7 T p.1=some p:=by
 unfold a7;unfold Uq at hu
 induction T with
 |nil=>cases hp
 |cons a r ih=>
  rw[za4,za9] at hu;rw[List.find?_cons];rcases zat.1 hp with rfl |hp
  ·simp
  have:(a.1==p.1)=false:=by simp only[zcc,ne_eq];exact λe=>hu.1 (e▸zaU hp)
  rw[this];exact ih hu.2 hp
theorem oB{live z}:z∈aZ T live↔marked T live z=true:=by
 unfold aZ aS;constructor
 ·intro h;obtain⟨p,hp,rfl⟩:=zaq.1 h;exact(zbT.1 hp).2
 intro h;obtain⟨p,hp⟩:=wA h;obtain⟨h1,h2⟩:=bN hp;exact zaq.2 ⟨p,zbT.2 ⟨h1,by rw[h2];exact h⟩,h2⟩
theorem jR(hu:Uq T) live:(aZ T live).Nodup:=
 zdc (zcd.map _) hu
theorem Ro(hu:Uq T){live S:List ao}(hn:S.Nodup)(h: ∀z,z∈S↔marked T live z=true):S.Perm (aZ T live):=
 (zdw hn (jR hu live)).2 λz=>by rw[h,oB]
theorem ME{live qd4}(h: ∀z,z∈live↔z∈qd4) z:marked T live z=marked T qd4 z:=by rw[zaG,hZ,hZ];exact⟨λ⟨x,hx,h'⟩=>⟨x,(h x).1 hx,h'⟩,λ⟨x,hx,h'⟩=>⟨x,(h x).2 hx,h'⟩⟩
end
abbrev aF:=Int×Int
structure bj where
 kind:Int
 node:ao
 parent:ao
 name:List UInt8
 dir:Bool
 cu:List aF
 after:ao
 elem:ao
 text:List UInt8
 elems:List ao
structure ar where
 s:aF
 n:Int
 deps:List Int
 dZ:aF
 ops:List bj
abbrev kA(a b:aF):=tM a.1 a.2 b.1 b.2
abbrev JA(a:aF):=AN a.1 a.2
abbrev rgX(x:ao):=bf x.1 x.2.1 x.2.2
abbrev JB(x:ao):aF:=(x.1,x.2.1)
def mf n f:=(List.range n).all f
theorem JC{n f}:mf n f=true↔ ∀i,i<n->f i=true:=by simp[mf]
theorem Gd{n i f}(hi:i<n)(h:f i=false):mf n f=false:=by
 cases hh:mf n f with
 |false=>rfl
 |true=>rw[JC.1 hh i hi] at h;cases h
theorem wB{n f}(h: ∀i,i<n->f i=true):mf n f=true:=JC.2 h
def de s k x:=rgX x&&(kA (JB x) s ||JB x==s&&decide (x.2.2<k))
def mJ s k x:=x==aA ||de s k x
def mK s (l:List aF) i:=JA (l.getD i (0,0))&& !kA s (l.getD i (0,0))&&(i==0 ||kA (l.getD (i-1) (0,0)) (l.getD i (0,0)))
def oC s l:=mf l.length (mK s l)&&decide (l.length<=200)
def Eb s k (l:List ao) i:=de s k (l.getD i aA)&&(i==0 ||fc (l.getD (i-1) aA) (l.getD i aA))
def u5 s k l:=mf l.length (Eb s k l)&&decide (1<=l.length/\l.length<=2000)
def nc(o:bj) place dir cu run elems:=
 (place ||o.parent==aA&&o.name==[])&&(dir || !o.dir)&&(cu ||o.cu.length==0)&&(run ||o.after==aA&&o.elem==aA&&o.text==[])&&(elems ||o.elems.length==0)
def fM o:=nc o (o.kind==0 ||o.kind==1) (o.kind==0) (o.kind==2) (o.kind==3) (o.kind==4)
def CR(s:List UInt8):Int:=Lib.runeCount ⟨⟨s⟩⟩
def oD s:=Lib.validD s&&decide (1<=CR s/\CR s<=2000)
def kW s k o:=
 if fM o=false then none
 else if o.kind=0 then(if o.node=(s.1,s.2,k)/\mJ s k o.parent=true/\bX o.name=true then some 1 else none)
 else if o.kind=1 then(if de s k o.node=true/\mJ s k o.parent=true/\bX o.name=true then some 0 else none)
 else if o.kind=2 then(if de s k o.node=true/\oC s o.cu=true then some 0 else none)
 else if o.kind=3 then(if de s k o.node=true/\mJ s k o.after=true/\o.elem=(s.1,s.2,k)/\oD o.text=true then some (CR o.text) else none)
 else if o.kind=4 then(if de s k o.node=true/\u5 s k o.elems=true then some 0 else none)
 else none
def jt(s:aF):Int->List bj->Bool
 |_,[]=>true
 |k,o::r=>match kW s k o with |some n=>jt s (k+n) r |none=>false
def hdG(g:ar):=JA g.s&&decide (1<=g.n/\g.n<=1099511627776)&&cT g.deps&&(eV g.deps g.s.2==g.n-1)
def cA g:=hdG g&&(if g.dZ≠(0,0) then JA g.dZ&&kA g.dZ g.s&&g.ops.length==0 else decide (1<=g.ops.length/\g.ops.length<=200)&&jt g.s 0 g.ops)
def VH:Nat->List UInt8->List (List UInt8)
 |0,_=>[]
 |n+1,s=>if s=[] then [] else s.take (Lib.decodeL s).2::VH n (s.drop (Lib.decodeL s).2)
def KZ s:=VH s.length s
theorem yT{s}(h:s≠[]):1<=(Lib.decodeL s).2:=by refine Lib.decode_width_pos ⟨s.toArray⟩ 0 ?_;exact zbV.2 h
theorem wC: ∀n m s,s.length<=n->s.length<=m->VH n s=VH m s
 |0,0,_,_,_=>rfl
 |0,m+1,s,h,_=>by have:s=[]:=zaB (by omega);subst this;rfl
 |n+1,0,s,_,h=>by have:s=[]:=zaB (by omega);subst this;rfl
 |n+1,m+1,s,h1,h2=>by
  unfold VH;split
  ·rfl
  rename_i cO;have:=yT cO;have hl:0<s.length:=zbV.2 cO;rw[wC n m _ (by rw[zbk];omega) (by rw[zbk];omega)]
theorem qby:KZ []=[]:=rfl
theorem JD{s}(h:s≠[]):KZ s=s.take (Lib.decodeL s).2::KZ (s.drop (Lib.decodeL s).2):=by have hl:0<s.length:=zbV.2 h;have:=yT h;unfold KZ;rw[wC s.length ((s.length-1)+1) s (zal _) (by omega)];show(if s=[] then [] else _)=_;rw[zan h];rw[wC (s.length-1) (s.drop (Lib.decodeL s).2).length _ (by rw[zbk];omega) (zal _)]
theorem qbz{s}(h:s≠[]):Lib.runeCount ⟨s.toArray⟩=1+Lib.runeCount ⟨(s.drop (Lib.decodeL s).2).toArray⟩:=by
 have hl:0<s.length:=zbV.2 h;have hp:=yT h;have hle:=Lib.decodeL_le s h;have hs:(ByteArray.mk s.toArray).size=s.length:=rfl;have e1:Lib.runeCount ⟨s.toArray⟩=Lib.runeCountFrom ⟨s.toArray⟩ ((s.length-1)+1) 0:=by unfold Lib.runeCount;exact Lib.fuel_enough _ _ _ _ (by omega) (by omega)
 rw[e1];unfold Lib.runeCountFrom;rw[zap (by rw[hs];exact hl)];have ex:(ByteArray.mk (s.drop (Lib.decodeL s).2).toArray)=(ByteArray.mk s.toArray).extract (Lib.decodeL s).2 (ByteArray.mk s.toArray).size:=by apply ByteArray.ext;simp[ByteArray.data_extract,hs];rw[<-zbk,zai]
 have e2:Lib.runeCount ⟨(s.drop (Lib.decodeL s).2).toArray⟩=Lib.runeCountFrom ⟨s.toArray⟩ (s.length-(Lib.decodeL s).2) (Lib.decodeL s).2:=by
  unfold Lib.runeCount;have hz:(ByteArray.mk (s.drop (Lib.decodeL s).2).toArray).size=s.length-(Lib.decodeL s).2:=by show(s.drop (Lib.decodeL s).2).toArray.size=_;simp
  rw[hz,ex,Lib.tail_count];rfl
 rw[e2];show 1+Lib.runeCountFrom _ (s.length-1) (0+(Lib.decodeL s).2)=_;rw[zaD];congr 1;exact Lib.fuel_enough _ _ _ _ (by omega) (by omega)
theorem MF: ∀n s,s.length<=n->Lib.runeCount ⟨s.toArray⟩=(KZ s).length
 |0,s,h=>by have:s=[]:=zaB (by omega);subst this;rfl
 |n+1,s,h=>by
  by_cases hs:s=[]
  ·subst hs;rfl
  have:=yT hs;have hl:0<s.length:=zbV.2 hs;rw[qbz hs,JD hs,zao,MF n _ (by rw[zbk];omega)];omega
theorem Bb s:CR s=((KZ s).length:Nat):=by unfold CR;rw[<-MF s.length s (zal _)]
theorem Ge s:(KZ s).length<=s.length:=by rw[<-MF s.length s (zal _)];exact Lib.runeCount_le _
def qjr:S->K (PX×S):=λst ae=> ∃s,st=rsH s []/\s.length<=2000000/\(Lib.validD s=false-> ∀o:List (List UInt8),ae (.ret,⟨29,[(2,.sl 0 0 0),(3,iD 60),(4,.sl 1 0 o.length)],[(0,⟨0,none,.arr 9 false []⟩),(1,⟨0,none,.arr 9 false (o.map D.str)⟩)]⟩))/\(Lib.validD s=true-> ∀o,o=KZ s->ae (.exit 0,⟨29,[(4,.sl 0 0 o.length)],[(0,⟨0,none,.arr 9 false (o.map D.str)⟩)]⟩))
def Gf:a8:=λps R ae=> ∃s,ps=[sD s]/\R=[]/\s.length<=2000000/\(Lib.validD s=false->ae (.dz [.sl 0 0 0,iD 60],[(0,⟨0,none,.arr 9 false []⟩)]))/\(Lib.validD s=true-> ∀o,o=KZ s->ae (.dz [.sl 0 0 o.length,iD 0],[(0,⟨0,none,.arr 9 false (o.map D.str)⟩)]))
def OB:a8:=λps R ae=> ∃s,ps=[sD s]/\R=[]/\s.length<=2000000/\(Lib.validD s=false->ae (.dz [iD 0,iD 60],[]))/\(Lib.validD s=true-> ∀n,n=CR s->ae (.dz [iD n,iD 0],[]))
theorem qjs s ae:(∃iW,Z1Z s=Z1Z iW/\KV iW/\Z21 iW ae/\(Vq iW-> ∀o,o=KZ iW->Z24 ae o))=(aI [] [(2,ah (aR 148 2) qjr)] 148 [sD s] []) ae:=by kernel_rfl
theorem qjt s ae:(∃iW,pU s=pU iW/\Zx/\KV iW/\(Vr iW->ae (P.dz (P.d Z5::Z1r),[]))/\(Vq iW-> ∀o,o=KZ iW->Z25 ae o))=(aI [(148,Gf)] [] 190 [sD s] []) ae:=by kernel_rfl
section
variable{X:XF}
theorem qbA:LD X 148 2 (ah (aR 148 2) qjr):=LD.par (by kernel_rfl) (by kernel_rfl) (.cons qbn .nil) .nil
 (A:=List UInt8) (B:=List UInt8×List (List UInt8)) (λ_ b=>rsH b.1 b.2)
 (λa b=>a.length<=2000000/\b.1.length+b.2.length<=a.length/\Lib.validD b.1=Lib.validD a/\b.2++KZ b.1=KZ a)
 (λ_ b=>b.1.length)
 (λa x=>(Lib.validD a=false/\ ∃o:List (List UInt8),x=(.ret,⟨29,[(2,.sl 0 0 0),(3,iD 60),(4,.sl 1 0 o.length)],[(0,⟨0,none,.arr 9 false []⟩),(1,⟨0,none,.arr 9 false (o.map D.str)⟩)]⟩))\/(Lib.validD a=true/\ ∃o:List (List UInt8),o=KZ a/\x=(.exit 0,⟨29,[(4,.sl 0 0 o.length)],[(0,⟨0,none,.arr 9 false (o.map D.str)⟩)]⟩)))
 (by
  rintro a ⟨s,o⟩ ⟨ha,hl,hv,hpc⟩;dsimp only at*
  (rw[<-qjg];delta Vp Ze Z27 sI Ou Z1Y ZN KV Zx pU F5)
  refine aW (λh=> ?_) λh=> ?_
  ·have cO:s≠[]:=λe=>by subst e;simp at h
   have kH:=Lib.validD_step s cO;refine⟨s,rfl,rfl,⟨cO,by omega⟩,λhb c n=> .inl ⟨?_,o,rfl⟩,λhb c n hn h1 hle=> ?_⟩
   ·unfold Mx at hb;rw[<-hv,kH,zap hb]
   unfold Mx at hb;rw[zan hb] at kH;refine bh (by omega) (aq (qiT (by simp;omega) (by simp;omega) _ (by simp)) (bh (by omega) ?_));refine⟨_,?_,(s.drop n.toNat,o++[s.take n.toNat]),?_,⟨ha,?_,?_,?_⟩,rfl⟩
   ·dsimp only;rw[zbk];omega
   ·rw[zai,zak (l:=List.map D.str o) (by simp),zcD];simp only[rsH,zaC,za4,zcz,zaj,zao,zav]
   ·dsimp only;rw[zbk,zaj];simp;omega
   ·dsimp only;rw[<-hv,kH,hn];rfl
   dsimp only;rw[<-hpc,JD cO,zaK,hn];rfl
  have:s=[]:=zaB (by omega);subst this;exact .inr ⟨hv.symm.trans Lib.validD_nil,o,by rw[<-hpc,qby,zbi],rfl⟩)
 (by
  rintro st ae ⟨s,rfl,hs,h1,h2⟩;refine⟨s,(s,[]),rfl,⟨hs,by simp,rfl,rfl⟩,?_⟩;rintro x (⟨h3,o,rfl⟩| ⟨h3,o,h4,rfl⟩)
  ·exact h1 h3 o
  exact h2 h3 o h4)
theorem JE:FD X 148 Gf:=FD.mk (by kernel_rfl) .nil (.cons qbA .nil) (by
 intro ps R ae hh;obtain⟨s,rfl,rfl,hs,h1,h2⟩:=hh
 (rw[<-qjs];delta Vp Z5 ZV Z24 Vq Z1Y Z1r ZN Vr Z21 sI KV Z1Z)
 exact⟨s,rfl,hs,λh o=>h1 h,λh o=>h2 h o⟩)
theorem qbB:FD X 190 OB:=FD.mk (by kernel_rfl) (.cons JE .nil) .nil (by
 intro ps R ae hh;obtain⟨s,rfl,rfl,hs,h1,h2⟩:=hh
 (rw[<-qjt];delta Z5 ZV Z25 Vq Z1r Vr sI KV Zx pU)
 refine⟨s,rfl,rfl,hs,λh=>h1 h,λh o ho=>h2 h _ ?_⟩;rw[ho,Bb])
theorem qgu:FD X 115 OB:=FD.mk (by kernel_rfl) (.cons qbk (.cons qbl .nil)) .nil (by
 intro ps R ae hh;obtain⟨s,rfl,rfl,hs,h1,h2⟩:=hh
 (rw[<-qjf];delta Z5 ZV Z1r sI KV Zx pU)
 refine⟨s,rfl,rfl,hs,ay (λh=>h1 (by simpa using h)) λh=>⟨s,rfl,rfl,hs,h2 (by simpa using h) _ rfl⟩⟩)
end
def yf{α:Type}(t:α->Bool)(l:List α):Int:=match l.findIdx? t with |some i=>(i:Int)|none=> -1
theorem JF{α:Type}{t}{l:List α}{i}(hi:i<l.length)(ht:t l[i]=true)(hb: ∀j (hj:j<i),t (l[j]'(by omega))=false):yf t l=(i:Int):=by unfold yf;rw[zbz.2 ⟨hi,ht,λj hj=>by rw[hb j hj];simp⟩]
theorem OC{α:Type}{t:α->Bool}{l}(h: ∀j (hj:j<l.length),t l[j]=false):yf t l= -1:=by unfold yf;rw[zbO.2 λx hx=>by obtain⟨j,hj,rfl⟩:=zaQ hx;exact h j hj]
theorem Bc{α:Type}(t:α->Bool) l:yf t l<0↔l.any t=false:=by
 unfold yf;split
 next i h=>
  obtain⟨hi,ht,_⟩:=zbz.1 h;constructor
  ·intro h;omega
  intro h2;rw[zcm] at h2;exact absurd ht (h2 _ (zas hi))
 rename_i h;refine⟨λ_=> ?_,λ_=>by omega⟩;rw[zcm];intro x hx;have:=(zbO.1 h) x hx;simp[this]
variable{X:XF}
theorem LD.idx{H hk}{f id:Nat}{g}(hu:uniq PR f=true)(hc:cj (rE f) (bA PR f id)=true)(hH:HD X H)(hl:U2 X f hk)
  {A B:Type} (hd:A->B->Int->S) (len:A->Nat) (Inv:A->Nat->B->Prop) (Out:A->PX×S->Prop)
  (hr: ∀a b (k:Int) ae,0<=k->k<len a->k.toNat<len a->Inv a k.toNat b->(∀b',Inv a (k.toNat+1) b'->ae (.normal,hd a b' (k+1)))->(∀x,x.1≠ .normal->Out a x->ae x)->aD H hk f id (hd a b k) ae)
  (hx: ∀a b (k:Int) ae,k=len a->Inv a (len a) b->(∀x,x.1≠ .normal->Out a x->ae x)->aD H hk f id (hd a b k) ae)
  (hg: ∀s ae,g s ae-> ∃a b,s=hd a b 0/\Inv a 0 b/\ ∀x,Out a x->ae x):LD X f id (ah (aR f id) g):=
 LD.par hu hc hH hl (A:=A) (B:=B×Int) (λa b=>hd a b.1 b.2) (λa b=>0<=b.2/\b.2.toNat<=len a/\Inv a b.2.toNat b.1) (λa b=>(len a-b.2).toNat) Out
  (by
   rintro a ⟨b,k⟩ ⟨h1,h2,h3⟩;dsimp only at*
   have bw: ∀x:PX×S,x.1≠ .normal->Out a x->roundPost ((len a-k).toNat) (λm s=> ∃b':B×Int,s=hd a b'.1 b'.2/\(0<=b'.2/\b'.2.toNat<=len a/\Inv a b'.2.toNat b'.1)/\m=(len a-b'.2).toNat) (Out a) x:=by
    rintro⟨e,s⟩ cO hx;cases e with
    |normal=>exact absurd rfl cO
    |exit i=>exact hx
    |ret=>exact hx
   by_cases hk:k<len a
   ·refine hr a b k _ h1 hk (by omega) h3 (λb' hb=> ?_) bw;exact⟨((len a:Int)-(k+1)).toNat,by omega,(b',k+1),rfl,⟨by show 0<=k+1;omega,by show(k+1).toNat<=len a;omega,by show Inv a (k+1).toNat b';rw[show(k+1).toNat=k.toNat+1 by omega];exact hb⟩,rfl⟩
   have e:k=len a:=by omega
   refine hx a b k _ e ?_ bw;have:k.toNat=len a:=by omega
   rwa [this] at h3)
  (by intro s ae hp;obtain⟨a,b,h1,h2,h3⟩:=hg s ae hp;exact⟨a,(b,0),h1,⟨zbF _,by simp,h2⟩,h3⟩)
theorem LD.find{H hk}{f id:Nat}{g}(hu:uniq PR f=true)(hc:cj (rE f) (bA PR f id)=true)(hH:HD X H)(hl:U2 X f hk)
  {A α:Type} (hd:A->Int->S) (qc:A->List α) (t:A->Nat->α->Bool) (C:A->Prop) (rt:A->Int->PX×S) (ex:A->PX×S) (qnF: ∀a k,(rt a k).1≠ .normal) (qnG: ∀a,(ex a).1≠ .normal)
  (hr: ∀a (k:Int) ae (eD:k.toNat<(qc a).length),C a->0<=k->k<(qc a).length->(t a k.toNat (qc a)[k.toNat]=true->ae (rt a k))->(t a k.toNat (qc a)[k.toNat]=false->ae (.normal,hd a (k+1)))->aD H hk f id (hd a k) ae)
  (hx: ∀a (k:Int) ae,C a->k=(qc a).length->ae (ex a)->aD H hk f id (hd a k) ae)
  (hg: ∀s ae,g s ae-> ∃a,s=hd a 0/\C a/\(∀i hi,0<=i->t a i.toNat (qc a)[i.toNat]=true->(∀j (hj:j<i.toNat),t a j ((qc a)[j]'(by omega))=false)->ae (rt a i))/\((∀j (hj:j<(qc a).length),t a j (qc a)[j]=false)->ae (ex a))):LD X f id (ah (aR f id) g):=
 LD.idx hu hc hH hl (A:=A) (B:=Unit) (λa _ k=>hd a k) (λa=>(qc a).length) (λa k _=>C a/\ ∀j (hj:j<(qc a).length),j<k->t a j (qc a)[j]=false)
  (λa x=>(∃(i:Int) (hi:i.toNat<(qc a).length),0<=i/\t a i.toNat (qc a)[i.toNat]=true/\(∀j (hj:j<i.toNat),t a j ((qc a)[j]'(by omega))=false)/\x=rt a i)\/((∀j (hj:j<(qc a).length),t a j (qc a)[j]=false)/\x=ex a))
  (by
   intro a _ k ae h0 hk eD ⟨hC,hI⟩ hn ho;refine hr a k ae eD hC h0 hk (λht=>ho _ (qnF a k) (.inl ⟨k,eD,h0,ht,λj hj=>hI j (by omega) hj,rfl⟩)) λht=>hn () ⟨hC,λj hj hjk=> ?_⟩;by_cases e:j=k.toNat
   ·subst e;exact ht
   exact hI j hj (by omega))
  (by intro a _ k ae hk ⟨hC,hI⟩ ho;exact hx a k ae hC hk (ho _ (qnG a) (.inr ⟨λj hj=>hI j hj hj,rfl⟩)))
  (by
   intro s ae hp;obtain⟨a,h1,h2,h3,h4⟩:=hg s ae hp;refine⟨a,(),h1,⟨h2,λj _ hj=>by omega⟩,?_⟩;rintro x (⟨i,hi,g1,g2,g3,rfl⟩| ⟨g1,rfl⟩)
   ·exact h3 i hi g1 g2 g3
   exact h4 g1)
abbrev iE(n:Int):D:= .int .i64 n
def bC(s:aF):D:= .agg [iE s.1,iE s.2]
def eT(o:bj):D:= .agg [iE o.kind,iE o.node.1,iE o.node.2.1,iE o.node.2.2,iE o.parent.1,iE o.parent.2.1,iE o.parent.2.2,.str o.name,.bool o.dir,.sl 2 (o.cu.map bC),
 iE o.after.1,iE o.after.2.1,iE o.after.2.2,iE o.elem.1,iE o.elem.2.1,iE o.elem.2.2,.str o.text,.sl 3 (o.elems.map aL)]
def bZ(g:ar):D:= .agg [iE g.s.1,iE g.s.2,iE g.n,.sl 1 (bt g.deps),iE g.dZ.1,iE g.dZ.2,.sl 18 (g.ops.map eT)]
abbrev dw(l:List ar):P:= .d (.sl 7 (l.map bZ))
abbrev qgv(l:List bj):P:= .d (.sl 18 (l.map eT))
abbrev kB(l:List aF):P:= .d (.sl 2 (l.map bC))
structure Rp(a b:aF)(c:Int):Prop where
 lt:c<0↔kA a b=true
 gt:c>0↔kA b a=true
structure OD(a b:ao)(c:Int):Prop where
 lt:c<0↔fc a b=true
 gt:c>0↔fc b a=true
def OE:a8:=λps R ae=> ∃a b,ps=[.d (bC a),.d (bC b)]/\R=[]/\ ∀c,Rp a b c->ae (iD c,[])
def yU:a8:=λps R ae=> ∃x y,ps=[.d (aL x),.d (aL y)]/\R=[]/\ ∀c,OD x y c->ae (iD c,[])
def MG:a8:=λps R ae=> ∃s,ps=[.d (bC s)]/\R=[]/\ ∀b,b=JA s->ae (mB b,[])
def qbC:a8:=λps R ae=> ∃x,ps=[.d (aL x)]/\R=[]/\ ∀b,b=rgX x->ae (mB b,[])
def Ec:a8:=λps R ae=> ∃a b,ps=[.d (bC a),.d (bC b)]/\R=[]/\ ∀r,r=kA a b->ae (mB r,[])
abbrev ckB(g:ar)(k:Int):Obj:= .box 136 [iD g.s.1,iD g.s.2,iD g.n,.d (.sl 1 (bt g.deps)),iD g.dZ.1,iD g.dZ.2,qgv g.ops,iD k]
abbrev xJ(g:ar)(k:Int):List (Nat×En):=[(0,⟨0,some 0,ckB g k⟩)]
theorem qju(s:aF) ae:(bif decide (Prod.fst s>=(1:Int)) then bif decide (Prod.fst s<=(1099511627776:Int)) then bif decide (Prod.snd s>=(1:Int)) then ae (P.d (D.bool (decide (Prod.snd s<=(16:Int)))),[]) else Z3 ae else Z3 ae else Z3 ae)=(aI [] [] 68 [.d (bC s)] []) ae:=by kernel_rfl
theorem qgw(s:aF) ae:(bif decide (Prod.fst s>=(1:Int)) then bif decide (Prod.fst s<=(1099511627776:Int)) then bif decide (Prod.snd s>=(1:Int)) then ae (P.d (D.bool (decide (Prod.snd s<=(16:Int)))),[]) else Z3 ae else Z3 ae else Z3 ae)=(aI [] [] 139 [.d (bC s)] []) ae:=by kernel_rfl
def rb g:=P.d (D.sl 18 (List.map eT (ar.ops g)))
def nL g:=D.int .i64 (Prod.snd (ar.dZ g))
def nM g:=D.int .i64 (Prod.fst (ar.dZ g))
def qd g:=P.d (D.sl 1 (bt (ar.deps g)))
def sP g:=P.d (D.int .i64 (ar.n g))
def kc g:=D.int .i64 (Prod.snd (ar.s g))
def kL g:=D.int .i64 (Prod.fst (ar.s g))
def Rq g k:=Obj.box (136:TypeId) (P.d (kL g)::P.d (kc g)::sP g::qd g::P.d (nM g)::P.d (nL g)::rb g::Zv k)
def iX g k:=[(0,En.mk 0 (some 0) (Rq g k))]
def MH(ae:P×List (Nat×En)->Prop) g k:=ae (P.d Z2,iX g k)
def Z3J(x:ao) g:=Prod.fst x==Prod.fst (ar.s g)&&(gy x==Prod.snd (ar.s g)&&true)
def nf(a:aF):=D.int .i64 (Prod.snd a)
def ni(a:aF):=D.int .i64 (Prod.fst a)
def oQ b:=[P.d (D.agg [ni b,nf b])]
def Rr g:=[P.d (D.agg [kL g,kc g])]
def gA bm:=[P.d (gS bm)]
theorem qbD g k x ae:(∃bm,gA x=gA bm/\Zx/\ ∀b,b=rgX bm->bif b then∃a b,P.d (D.agg [fR x,fQ x])::Rr g=P.d (D.agg [ni a,nf a])::oQ b/\Zx/\ ∀c,Rp a b c->bif Rb c then ae (ZL,iX g k) else bif Z3J x g then ae (P.d (D.bool (decide (gj x<k))),iX g k) else MH ae g k else MH ae g k)=(aI [(124,qbC),(69,OE)] [] 113 [.ref 0 0 0,.d (aL x)] (xJ g k)) ae:=by kernel_rfl
def Gg:a8:=λps R ae=> ∃g k x,ps=[.ref 0 0 0,.d (aL x)]/\R=xJ g k/\ ∀b,b=de g.s k x->ae (mB b,xJ g k)
def fk b:=P.d (D.bool b)
def BX b bp cd bm:=b=de (ar.s bp) cd bm
def Z3M(x:ao):=Prod.fst x==(0:Int)&&(gy x==(0:Int)&&true)&&(gj x==(0:Int)&&true)
theorem VI g k x ae:(bif Z3M x then ae (ZL,iX g k) else∃bp cd bm,b9::gA x=b9::gA bm/\iX g k=iX bp cd/\ ∀b,BX b bp cd bm->ae (fk b,iX bp cd))=(aI [(113,Gg)] [] 111 [.ref 0 0 0,.d (aL x)] (xJ g k)) ae:=by kernel_rfl
def OG:a8:=λps R ae=> ∃g k x,ps=[.ref 0 0 0,.d (aL x)]/\R=xJ g k/\ ∀b,b=mJ g.s k x->ae (mB b,xJ g k)
def plainO(o:bj):bj:=
 if o.kind=0 then⟨o.kind,o.node,o.parent,o.name,o.dir,[],aA,aA,[],[]⟩
 else if o.kind=1 then⟨o.kind,o.node,o.parent,o.name,false,[],aA,aA,[],[]⟩
 else if o.kind=2 then⟨o.kind,o.node,aA,[],false,o.cu,aA,aA,[],[]⟩
 else if o.kind=3 then⟨o.kind,o.node,aA,[],false,[],o.after,o.elem,o.text,[]⟩
 else if o.kind=4 then⟨o.kind,o.node,aA,[],false,[],aA,aA,[],o.elems⟩
 else⟨o.kind,o.node,aA,[],false,[],aA,aA,[],[]⟩
def OH:a8:=λps R ae=> ∃o,ps=[.d (eT o)]/\R=[]/\ ∀p,p=plainO o->ae (.d (eT p),[])
def Z40:=[D.sl 3 []]
def VJ:=Z5::Z5::Z5::Z5::Z5::Z5::oP::Z40
def Rs:=D.sl 2 []
def Z4c:=Z5::Z5::Z5::oP::Z2::Rs::VJ
def VK o:=[D.sl 3 (List.map aL (bj.elems o))]
def yg o:=Prod.snd (Prod.snd (bj.elem o))
def yh o:=Prod.fst (Prod.snd (bj.elem o))
def yi o:=Prod.fst (bj.elem o)
def BY o:=Prod.snd (Prod.snd (bj.after o))
def CS o:=D.int .i64 (BY o)
def BZ o:=Prod.fst (Prod.snd (bj.after o))
def CT o:=D.int .i64 (BZ o)
def CU o:=D.int .i64 (Prod.fst (bj.after o))
def yV o:=D.sl 2 (List.map bC (bj.cu o))
def B0 o:=Prod.snd (Prod.snd (bj.parent o))
def B1 o:=D.int .i64 (B0 o)
def B2 o:=Prod.fst (Prod.snd (bj.parent o))
def B3 o:=D.int .i64 (B2 o)
def B4 o:=D.int .i64 (Prod.fst (bj.parent o))
def wE o:=D.int .i64 (Prod.snd (Prod.snd (bj.node o)))
def wF o:=D.int .i64 (Prod.fst (Prod.snd (bj.node o)))
def wG o:=D.int .i64 (Prod.fst (bj.node o))
def yj o:=D.int .i64 (bj.kind o)
theorem VL o ae:(bif bj.kind o==(0:Int) then ae (P.d (D.agg (yj o::wG o::wF o::wE o::B4 o::B3 o::B1 o::D.str (bj.name o)::D.bool (bj.dir o)::Rs::VJ)),[]) else bif bj.kind o==(1:Int) then ae (P.d (D.agg (yj o::wG o::wF o::wE o::B4 o::B3 o::B1 o::D.str (bj.name o)::Z2::Rs::VJ)),[]) else bif bj.kind o==(2:Int) then ae (P.d (D.agg (yj o::wG o::wF o::wE o::Z5::Z5::Z5::oP::Z2::yV o::VJ)),[]) else bif bj.kind o==(3:Int) then ae (P.d (D.agg (yj o::wG o::wF o::wE o::Z5::Z5::Z5::oP::Z2::Rs::CU o::CT o::CS o::D.int .i64 (yi o)::D.int .i64 (yh o)::D.int .i64 (yg o)::D.str (bj.text o)::Z40)),[]) else bif bj.kind o==(4:Int) then ae (P.d (D.agg (yj o::wG o::wF o::wE o::Z5::Z5::Z5::oP::Z2::Rs::Z5::Z5::Z5::Z5::Z5::Z5::oP::VK o)),[]) else ae (P.d (D.agg (yj o::wG o::wF o::wE o::Z4c)),[]))=(aI [] [] 152 [.d (eT o)] []) ae:=by kernel_rfl
def Z4g p:=(↑(List.length (List.map aL (bj.elems p))):Int)
def JG p:=(↑(List.length (List.map bC (bj.cu p))):Int)
def Gh bq:=D.agg (yj bq::wG bq::wF bq::wE bq::B4 bq::B3 bq::B1 bq::D.str (bj.name bq)::D.bool (bj.dir bq)::yV bq::CU bq::CT bq::CS bq::D.int .i64 (yi bq)::D.int .i64 (yh bq)::D.int .i64 (yg bq)::D.str (bj.text bq)::VK bq)
def Z4e bq:=[P.d (Gh bq)]
theorem qgx o ae:(∃bq,Z4e o=Z4e bq/\Zx/\ ∀p,p=plainO bq->bif Prod.fst (bj.parent p)==Prod.fst (bj.parent o)&&(B2 p==B2 o&&true)&&(B0 p==B0 o&&true) then bif bj.name p==bj.name o then bif bj.dir p==bj.dir o then bif Prod.fst (bj.after p)==Prod.fst (bj.after o)&&(BZ p==BZ o&&true)&&(BY p==BY o&&true) then bif yi p==yi o&&(yh p==yh o&&true)&&(yg p==yg o&&true) then bif bj.text p==bj.text o then bif JG p==JG o then ae (P.d (D.bool (Z4g p==Z4g o)),[]) else Z3 ae else Z3 ae else Z3 ae else Z3 ae else Z3 ae else Z3 ae else Z3 ae)=(aI [(152,OH)] [] 109 [.d (eT o)] []) ae:=by kernel_rfl
def VM:a8:=λps R ae=> ∃o,ps=[.d (eT o)]/\R=[]/\ ∀b,b=fM o->ae (mB b,[])
abbrev dtH(g:ar)(k:Int)(l:List aF)(i:Int):S:=⟨45,[(0,.ref 0 0 0),(1,kB l),(7,kB l),(8,iD ((l.map bC).length:Int)),(9,iD i)],xJ g k⟩
def gb l:=List.map bC l
def Ed l:=P.d (D.sl 2 (gb l))
def B5 l:=(1,Ed l)
def qe l:=List.length (gb l)
def Z4r i (ae:PX×S->Prop) l g k:=ob (Zh i) (ae (PX.normal,S.mk 45 (gD::B5 l::(7,Ed l)::(8,P.d (D.int .i64 (↑(qe l):Int)))::ZG i) (iX g k)))
def Z4s l i:=[D.int .i64 (D.aj (D.au (D.nth (gb l) (Za i)) 0)),D.int .i64 (D.aj (D.au (D.nth (gb l) (Za i)) 1))]
noncomputable def Z4q l i:=bO PR (27:TypeId) (D.nth (gb l) (Za i))
def Z4p i l:=decide ((0:Int)<=i-(1:Int)/\i-(1:Int)<(↑(qe l):Int))
def Hn l i:=D.aj (D.au (D.nth (gb l) (Ze i)) 1)
def Gj l i:=D.aj (D.au (D.nth (gb l) (Ze i)) 0)
def Gk l i:=[D.int .i64 (Gj l i),D.int .i64 (Hn l i)]
def Z4o(ae:PX×S->Prop) l g k:=ae (PX.ret,S.mk 45 (gD::B5 l::Zg) (iX g k))
def Ru l i:=[P.d (D.agg (Gk l i))]
noncomputable def uf l i:=bO PR (27:TypeId) (D.nth (gb l) (Ze i))
def SH i l:=decide ((0:Int)<=i/\i<(↑(qe l):Int))
def Z4j i l:=decide (i<(↑(qe l):Int))
theorem OI g k l i ae:(bif Z4j i l then ob (SH i l) (ob (uf l i) (∃s,Ru l i=oQ s/\Zx/\ ∀b,b=JA s->bif !b then Z4o ae l g k else∃a b,P.d (D.agg (Gk l i))::Rr g=P.d (D.agg [ni a,nf a])::oQ b/\Zx/\ ∀c,Rp a b c->bif Zr c then Z4o ae l g k else bif Zr i then ob (Z9 i) (ob (Z4p i l) (ob (Z4q l i) (∃a b,P.d (D.agg (Z4s l i))::Ru l i=P.d (D.agg [ni a,nf a])::oQ b/\Zx/\ ∀c,Rp a b c->bif Z1 c then Z4o ae l g k else Z4r i ae l g k))) else Z4r i ae l g k)) else ae (PX.exit 0,S.mk 45 [gD,B5 l] (iX g k)))=(aD [(68,MG),(69,OE)] [] 114 2 (dtH g k l i)) ae:=by kernel_rfl
abbrev elH(g:ar)(k:Int)(l:List ao)(i:Int):S:=⟨41,[(0,.ref 0 0 0),(1,ct l),(7,ct l),(8,iD ((l.map aL).length:Int)),(9,iD i)],xJ g k⟩
def Z4z i (ae:PX×S->Prop) l bp cd:=ob (Zh i) (ae (PX.normal,S.mk 41 (gD::l7 l::(7,gR l)::(8,P.d (D.int .i64 (uU l)))::ZG i) (iX bp cd)))
def Z4A l i:=[D.int .i64 (D.aj (D.au (D.nth (dW l) (Za i)) 0)),D.int .i64 (D.aj (D.au (D.nth (dW l) (Za i)) 1)),D.int .i64 (D.aj (D.au (D.nth (dW l) (Za i)) 2))]
def Z4B l i:=[P.d (D.agg (Z4A l i)),P.d (D.agg (xH l i))]
noncomputable def SI l i:=bO PR (49:TypeId) (D.nth (dW l) (Za i))
def SJ i l:=decide (i<uU l)
theorem JH g k l i ae:(bif SJ i l then ob (Hm i l) (ob (q9 l i) (∃bp cd x,[b9,P.d (D.agg (xH l i))]=b9::gA x/\iX g k=iX bp cd/\ ∀b,BX b bp cd x->bif !b then ae (PX.ret,S.mk 41 (gD::l7 l::Zg) (iX bp cd)) else bif Zr i then ob (Z9 i) (ob (decide ((0:Int)<=i-(1:Int)/\i-(1:Int)<uU l)) (ob (SI l i) (∃x y,Z4B l i=P.d (gS x)::gA y/\Zx/\ ∀c,OD x y c->bif Z1 c then ae (PX.ret,S.mk 41 (gD::l7 l::Zg) (iX bp cd)) else Z4z i ae l bp cd))) else Z4z i ae l bp cd)) else ae (PX.exit 0,S.mk 41 [gD,l7 l] (iX g k)))=(aD [(113,Gg),(78,yU)] [] 116 2 (elH g k l i)) ae:=by kernel_rfl
theorem OJ(a b:aF):Rp a b (uS a.1 a.2 b.1 b.2) where
 lt:=by
  simp only[tM,uS,Rj,r1,zah]
  (repeat' split)<;>omega
 gt:=by
  simp only[tM,uS,Rj,r1,zah]
  (repeat' split)<;>omega
theorem JI(a b:ao):OD a b (mY a.1 a.2.1 a.2.2 b.1 b.2.1 b.2.2) where
 lt:=ff a b
 gt:=by
  simp only[fc,mY,uS,Rj,r1,zah]
  (repeat' split)<;>omega
theorem iO s:bO PR 27 (bC s)=true:=by kernel_rfl
theorem MI o:bO PR 79 (eT o)=true:=by kernel_rfl
theorem mL g:bO PR 31 (bZ g)=true:=by kernel_rfl
theorem VN(a b:aF):(a.1==b.1&&(a.2==b.2&&true))=(a==b):=by obtain⟨x,y⟩:=a;obtain⟨z,u⟩:=b;rw[zaG];simp
theorem Ho(a b:ao):(a.1==b.1&&(a.2.1==b.2.1&&true)&&(a.2.2==b.2.2&&true))=(a==b):=by obtain⟨x,y,z⟩:=a;obtain⟨u,v,w⟩:=b;rw[zaG];simp[zdb]
theorem lnE(m n:Nat):((m:Int)==(n:Int))=(m==n):=by rw[zaG,za1,za1];omega
theorem VO o:fM o=((plainO o).parent==o.parent&&((plainO o).name==o.name&&((plainO o).dir==o.dir&&((plainO o).after==o.after&&((plainO o).elem==o.elem&&((plainO o).text==o.text&&((plainO o).cu.length==o.cu.length&&(plainO o).elems.length==o.elems.length))))))):=by
 have h0: ∀x:ao,(aA==x)=(x==aA):=λx=>by rw[zaG,za1,za1];exact zdC
 have h1: ∀s:List UInt8,(([]:List UInt8)==s)=(s==[]):=λs=>by rw[zaG,za1,za1];exact zdC
 have h2:(false==o.dir)= !o.dir:=by cases o.dir<;>rfl
 have h3: ∀n:Nat,((0:Nat)==n)=(n==0):=λn=>by rw[zaG,za1,za1];exact zdC
 unfold fM nc plainO;by_cases e0:o.kind=0
 ·have g0:(o.kind==0)=true:=by simpa using e0
  have g1:(o.kind==1)=false:=by rw[e0];rfl
  have g2:(o.kind==2)=false:=by rw[e0];rfl
  have g3:(o.kind==3)=false:=by rw[e0];rfl
  have g4:(o.kind==4)=false:=by rw[e0];rfl
  rw[zap e0,g0,g1,g2,g3,g4];simp only[zbA,zav,h0,h1,h3,zcr,zaW,zb6,zby,zbW];rw[zaG];simp only[zac];constructor
  ·rintro⟨⟨a,⟨b,c⟩,d⟩,e⟩;exact⟨b,c,d,a,e⟩
  rintro⟨b,c,d,a,e⟩;exact⟨⟨a,⟨b,c⟩,d⟩,e⟩
 have f0:(o.kind==0)=false:=by simpa using e0
 by_cases e1:o.kind=1
 ·have g1:(o.kind==1)=true:=by simpa using e1
  have g2:(o.kind==2)=false:=by rw[e1];rfl
  have g3:(o.kind==3)=false:=by rw[e1];rfl
  have g4:(o.kind==4)=false:=by rw[e1];rfl
  rw[zan e0,zap e1,f0,g1,g2,g3,g4];simp only[zbA,zav,h0,h1,h2,h3,zcr,Bool.or_true,zaW,zby];rw[zaG];simp only[zac];constructor
  ·rintro⟨⟨⟨a,f⟩,⟨b,c⟩,d⟩,e⟩;exact⟨a,b,c,d,f,e⟩
  rintro⟨a,b,c,d,f,e⟩;exact⟨⟨⟨a,f⟩,⟨b,c⟩,d⟩,e⟩
 have f1:(o.kind==1)=false:=by simpa using e1
 by_cases e2:o.kind=2
 ·have g2:(o.kind==2)=true:=by simpa using e2
  have g3:(o.kind==3)=false:=by rw[e2];rfl
  have g4:(o.kind==4)=false:=by rw[e2];rfl
  rw[zan e0,zan e1,zap e2,f0,f1,g2,g3,g4];simp only[zbA,zav,h0,h1,h2,h3,zcr,zaW,zb6,zby,zbW];rw[zaG];simp only[zac];constructor
  ·rintro⟨⟨⟨⟨a,b⟩,c⟩,⟨d,e⟩,f⟩,g⟩;exact⟨a,b,c,d,e,f,g⟩
  rintro⟨a,b,c,d,e,f,g⟩;exact⟨⟨⟨⟨a,b⟩,c⟩,⟨d,e⟩,f⟩,g⟩
 have g2:(o.kind==2)=false:=by simpa using e2
 by_cases e3:o.kind=3
 ·have g3:(o.kind==3)=true:=by simpa using e3
  have g4:(o.kind==4)=false:=by rw[e3];rfl
  rw[zan e0,zan e1,zan e2,zap e3,f0,f1,g2,g3,g4];simp only[zbA,zav,h0,h1,h2,h3,zcr,zaW,zb6,zby,zbW];rw[zaG];simp only[zac];constructor
  ·rintro⟨⟨⟨⟨a,b⟩,c⟩,f⟩,g⟩;exact⟨a,b,c,f,g⟩
  rintro⟨a,b,c,f,g⟩;exact⟨⟨⟨⟨a,b⟩,c⟩,f⟩,g⟩
 have g3:(o.kind==3)=false:=by simpa using e3
 by_cases e4:o.kind=4
 ·have g4:(o.kind==4)=true:=by simpa using e4
  rw[zan e0,zan e1,zan e2,zan e3,zap e4,f0,f1,g2,g3,g4];simp only[zav,h0,h1,h2,h3,zbA,zcr,zb6,zby,zbW];rw[zaG];simp only[zac];constructor
  ·rintro⟨⟨⟨⟨a,b⟩,c⟩,f⟩,⟨d,e⟩,g⟩;exact⟨a,b,c,d,e,g,f⟩
  rintro⟨a,b,c,d,e,g,f⟩;exact⟨⟨⟨⟨a,b⟩,c⟩,f⟩,⟨d,e⟩,g⟩
 have g4:(o.kind==4)=false:=by simpa using e4
 rw[zan e0,zan e1,zan e2,zan e3,zan e4,f0,f1,g2,g3,g4];simp only[zav,h0,h1,h2,h3,zby,zbW];rw[zaG];simp only[zac];constructor
 ·rintro⟨⟨⟨⟨⟨a,b⟩,c⟩,f⟩,⟨d,e⟩,g⟩,h⟩;exact⟨a,b,c,d,e,g,f,h⟩
 rintro⟨a,b,c,d,e,g,f,h⟩;exact⟨⟨⟨⟨⟨a,b⟩,c⟩,f⟩,⟨d,e⟩,g⟩,h⟩
theorem Ee{p:Prop}[Decidable p] {A B:Prop}(h1:p)(h2:A):cond (decide p) A B:=kJ (za0 h1) h2
section
variable{X:XF}
theorem MJ:FD X 69 OE:=qd0.weaken λps R ae h=>by obtain⟨a,b,rfl,rfl,hp⟩:=h;exact⟨_,_,_,_,rfl,rfl,hp _ (OJ a b)⟩
theorem VP:FD X 78 yU:=qbq.weaken λps R ae h=>by obtain⟨a,b,rfl,rfl,hp⟩:=h;exact⟨_,_,_,_,_,_,rfl,rfl,hp _ (JI a b)⟩
theorem Rv:FD X 98 yU:=oA.weaken λps R ae h=>by obtain⟨a,b,rfl,rfl,hp⟩:=h;exact⟨_,_,_,_,_,_,rfl,rfl,hp _ (JI a b)⟩
theorem Bd:FD X 53 Ec:=Js.weaken λps R ae h=>by obtain⟨a,b,rfl,rfl,hp⟩:=h;exact⟨_,_,_,_,rfl,rfl,hp _ rfl⟩
theorem qjv:FD X 124 qbC:=wk.weaken λps R ae h=>by obtain⟨x,rfl,rfl,hp⟩:=h;exact⟨_,_,_,rfl,rfl,hp _ rfl⟩
theorem qgy:FD X 192 qbC:=tI.weaken λps R ae h=>by obtain⟨x,rfl,rfl,hp⟩:=h;exact⟨_,_,_,rfl,rfl,hp _ rfl⟩
theorem VQ:FD X 68 MG:=FD.mk (by kernel_rfl) .nil .nil (by
 intro ps R ae hh;obtain⟨s,rfl,rfl,hp⟩:=hh
 (rw[<-qju];delta Z2 Z3)
 refine aW (λh1=>aW (λh2=>aW (λh3=>hp _ ?_) λh3=>hp _ ?_) λh2=>hp _ ?_) λh1=>hp _ ?_
 all_goals (simp only[AN];rw[zdC];first | (rw[zbG];omega)| (rw[zaP];omega)))
theorem VR:FD X 139 MG:=FD.mk (by kernel_rfl) .nil .nil (by
 intro ps R ae hh;obtain⟨s,rfl,rfl,hp⟩:=hh
 (rw[<-qgw];delta Z2 Z3)
 refine aW (λh1=>aW (λh2=>aW (λh3=>hp _ ?_) λh3=>hp _ ?_) λh2=>hp _ ?_) λh1=>hp _ ?_
 all_goals (simp only[AN];rw[zdC];first | (rw[zbG];omega)| (rw[zaP];omega)))
theorem Gl:FD X 113 Gg:=FD.mk (by kernel_rfl) (.cons qjv (.cons MJ .nil)) .nil (by
 intro ps R ae hh;obtain⟨g,k,x,rfl,rfl,hp⟩:=hh
 (rw[<-qbD];delta Zt Zv rb nL nM qd sP kc kL Rq iX Z2 MH gj gy Z3J ZL Rb nf ni oQ Rr fQ fR Zx gk gS gA)
 refine⟨x,rfl,rfl,λb hb=>ay (λh1=>⟨JB x,g.s,rfl,rfl,λc hc=>aW (λh2=>hp _ ?_) λh2=>ay (λh3=>hp _ ?_) λh3=>hp _ ?_⟩) λh1=>hp _ ?_⟩
 ·rw[de,<-hb,h1,hc.lt.1 h2];rfl
 ·have e:JB x=g.s:=by rw[VN (JB x) g.s] at h3;simpa using h3
  have e2:kA (JB x) g.s=false:=by rw[<-za6,<-hc.lt];exact h2
  rw[de,<-hb,h1,e2,e];simp
 ·have e:(JB x==g.s)=false:=by rw[<-VN (JB x) g.s];exact h3
  have e2:kA (JB x) g.s=false:=by rw[<-za6,<-hc.lt];exact h2
  rw[de,<-hb,h1,e2,e];rfl
 rw[de,<-hb,h1];rfl)
theorem VS:FD X 111 OG:=FD.mk (by kernel_rfl) (.cons Gl .nil) .nil (by
 intro ps R ae hh;obtain⟨g,k,x,rfl,rfl,hp⟩:=hh
 (rw[<-VI];delta fk BX gj gk gy fQ fR gS gA b9 Zt Zv rb nL nM qd sP kc kL Rq iX ZL Z3M)
 refine ay (λh1=>hp _ ?_) λh1=>⟨g,k,x,rfl,rfl,λb hb=>hp _ ?_⟩
 ·rw[mJ,<-Ho x aA,h1];rfl
 rw[mJ,<-Ho x aA,h1,hb];rfl)
theorem VT:FD X 152 OH:=FD.mk (by kernel_rfl) .nil .nil (by
 intro ps R ae hh;obtain⟨o,rfl,rfl,hp⟩:=hh
 (rw[<-VL];delta Z40 oP Z5 VJ Rs Z2 Z4c VK yg yh yi BY CS BZ CT CU yV B0 B1 B2 B3 B4 wE wF wG yj)
 refine iK (λh1=> ?_) λh1=>iK (λh2=> ?_) λh2=>iK (λh3=> ?_) λh3=>iK (λh4=> ?_) λh4=>iK (λh5=> ?_) λh5=> ?_
 ·exact hp _ (by rw[plainO,zap h1])
 ·exact hp _ (by rw[plainO,zan h1,zap h2])
 ·exact hp _ (by rw[plainO,zan h1,zan h2,zap h3])
 ·exact hp _ (by rw[plainO,zan h1,zan h2,zan h3,zap h4])
 ·exact hp _ (by rw[plainO,zan h1,zan h2,zan h3,zan h4,zap h5])
 exact hp _ (by rw[plainO,zan h1,zan h2,zan h3,zan h4,zan h5]))
theorem qbE:FD X 109 VM:=FD.mk (by kernel_rfl) (.cons VT .nil) .nil (by
 intro ps R ae hh;obtain⟨o,rfl,rfl,hp⟩:=hh
 (rw[<-qgx];delta Z2 Z3 Z4g JG yg yh yi BY BZ B0 B2 Zx VK CS CT CU yV B1 B3 B4 wE wF wG yj Gh Z4e)
 refine⟨o,rfl,rfl,λp hpp=> ?_⟩;have key:=VO o;rw[<-hpp] at key;rw[Ho,Ho,Ho];simp only[zaa,lnE];refine ay (λh1=>ay (λh2=>ay (λh3=>ay (λh4=>ay (λh5=>ay (λh6=>ay (λh7=>hp _ ?_) λh7=>hp _ ?_) λh6=>hp _ ?_) λh5=>hp _ ?_) λh4=>hp _ ?_) λh3=>hp _ ?_) λh2=>hp _ ?_) λh1=>hp _ ?_
 all_goals (clear hpp;rw[key];simp only[*,zaW,Bool.false_and]))
def qd5:S->K (PX×S):=λst ae=> ∃g k l,st=dtH g k l 0/\l.length<=9223372036854775807/\(mf l.length (mK g.s l)=false->ae (.ret,⟨45,[(0,.ref 0 0 0),(1,kB l),(4,mB false)],xJ g k⟩))/\(mf l.length (mK g.s l)=true->ae (.exit 0,⟨45,[(0,.ref 0 0 0),(1,kB l)],xJ g k⟩))
theorem eS{α:Type}{l:List α}{i}(h:i<l.length) d:l.getD i d=l[i]:=by simp[zab,h]
theorem VU:LD X 114 2 (ah (aR 114 2) qd5):=LD.find (by kernel_rfl) (by kernel_rfl) (.cons VQ (.cons MJ .nil)) .nil
 (A:=ar×Int×List aF) (λa k=>dtH a.1 a.2.1 a.2.2 k) (λa=>a.2.2) (λa j _=> !mK a.1.s a.2.2 j) (λa=>a.2.2.length<=9223372036854775807)
 (λa _=>(.ret,⟨45,[(0,.ref 0 0 0),(1,kB a.2.2),(4,mB false)],xJ a.1 a.2.1⟩)) (λa=>(.exit 0,⟨45,[(0,.ref 0 0 0),(1,kB a.2.2)],xJ a.1 a.2.1⟩)) (λ_ _ h=>by cases h) (λ_ h=>by cases h)
 (by
  rintro⟨g,k,l⟩ i ae hi hC h0 bJ ht hn;dsimp only at*
  (rw[<-OI];delta Zt Zv rb nL nM qd sP kc kL Rq iX gb Ed B5 b9 gD Zl Zm ZG qe Z8 Z7 Zh Z4r Z1 Za Z4s Z4q Z4p Z9 Zr nf ni Rr Ze Hn Gj Gk Z2 Zg Z4o Zx oQ Ru uf SH Z4j)
  have e1:D.nth (l.map bC) i.toNat=bC l[i.toNat]:=az _ _ _ hi;have d1:=eS hi ((0,0):aF);rw[e1];simp only[dtH,zaa] at hn⊢;refine Ee bJ (bh ⟨h0,bJ⟩ (aq (iO _) ⟨l[i.toNat],rfl,rfl,λb hb=>ay (λh1=> ?_) λh1=>⟨l[i.toNat],g.s,rfl,rfl,λc hc=>aW (λh2=> ?_) λh2=>aW (λh3=> ?_) λh3=> ?_⟩⟩))
  ·refine ht ?_;rw[mK,d1,<-hb,show b=false by simpa using h1];rfl
  ·refine ht ?_;rw[mK,d1,hc.gt.1 h2];simp
  ·have e2:D.nth (l.map bC) (i-1).toNat=bC (l[(i-1).toNat]'(by omega)):=az _ _ _ (by omega);have d2:=eS (show(i-1).toNat<l.length by omega) ((0,0):aF);rw[e2];have e3:kA g.s l[i.toNat]=false:=by rw[<-za6,<-hc.gt];exact h2
   refine bh (by omega) (bh ⟨by omega,by omega⟩ (aq (iO _) ⟨l[(i-1).toNat],l[i.toNat],rfl,rfl,λc' oN=>aW (λh4=>ht ?_) λh4=>bh (by omega) (hn ?_)⟩))
   ·have e4:kA l[(i-1).toNat] l[i.toNat]=false:=by rw[<-za6,<-oN.lt];omega
    rw[mK,d1,show i.toNat-1=(i-1).toNat by omega,d2,e4,show(i.toNat==0)=false by simp;omega];simp
   have e4:kA l[(i-1).toNat] l[i.toNat]=true:=by rw[<-oN.lt];omega
   rw[mK,d1,show i.toNat-1=(i-1).toNat by omega,d2,e3,e4,<-hb,show b=true by simpa using h1];simp
  have e3:kA g.s l[i.toNat]=false:=by rw[<-za6,<-hc.gt];exact h2
  refine bh (by omega) (hn ?_);rw[mK,d1,e3,<-hb,show b=true by simpa using h1,show(i.toNat==0)=true by simp;omega];simp)
 (by
  rintro⟨g,k,l⟩ i ae hC hi hp;dsimp only at*
  (rw[<-OI];delta Zt Zv rb nL nM qd sP kc kL Rq iX gb Ed B5 b9 gD Zl Zm ZG qe Z8 Z7 Zh Z4r Z1 Za Z4s Z4q Z4p Z9 Zr nf ni Rr Ze Hn Gj Gk Z2 Zg Z4o Zx oQ Ru uf SH Z4j)
  simp only[zaa];exact aW (λh=>by omega) λh=>hp)
 (by rintro s ae ⟨g,k,l,rfl,hl,h1,h2⟩;refine⟨(g,k,l),rfl,hl,λi hi h0 ht _=>h1 (Gd (i:=i.toNat) hi (by simpa using ht)),λh=>h2 (wB λi hi=>by simpa using h i hi)⟩)
def VW:S->K (PX×S):=λst ae=> ∃g k l,st=elH g k l 0/\l.length<=9223372036854775807/\(mf l.length (Eb g.s k l)=false->ae (.ret,⟨41,[(0,.ref 0 0 0),(1,ct l),(4,mB false)],xJ g k⟩))/\(mf l.length (Eb g.s k l)=true->ae (.exit 0,⟨41,[(0,.ref 0 0 0),(1,ct l)],xJ g k⟩))
theorem Rw:LD X 116 2 (ah (aR 116 2) VW):=LD.find (by kernel_rfl) (by kernel_rfl) (.cons Gl (.cons VP .nil)) .nil
 (A:=ar×Int×List ao) (λa k=>elH a.1 a.2.1 a.2.2 k) (λa=>a.2.2) (λa j _=> !Eb a.1.s a.2.1 a.2.2 j) (λa=>a.2.2.length<=9223372036854775807)
 (λa _=>(.ret,⟨41,[(0,.ref 0 0 0),(1,ct a.2.2),(4,mB false)],xJ a.1 a.2.1⟩)) (λa=>(.exit 0,⟨41,[(0,.ref 0 0 0),(1,ct a.2.2)],xJ a.1 a.2.1⟩)) (λ_ _ h=>by cases h) (λ_ h=>by cases h)
 (by
  rintro⟨g,k,l⟩ i ae hi hC h0 bJ ht hn;dsimp only at*
  (rw[<-JH];delta Zt Zv rb nL nM qd sP kc kL Rq iX Zl Zm ZG dW kU uU gR l7 b9 gD Z8 Z7 Zh Z4z Z1 Zx gj gk gy fQ fR gS Ze BV BW A4 xH Za Z4A Z4B SI Z9 Zr Z2 Zg BX gA q9 Hm SJ)
  have e1:D.nth (l.map aL) i.toNat=aL l[i.toNat]:=az _ _ _ hi;have d1:=eS hi aA;rw[e1];simp only[elH,zaa] at hn⊢;refine Ee bJ (bh ⟨h0,bJ⟩ (aq (ga _) ⟨g,k,l[i.toNat],rfl,rfl,λb hb=>ay (λh1=> ?_) λh1=>aW (λh3=> ?_) λh3=> ?_⟩))
  ·refine ht ?_;rw[Eb,d1,<-hb,show b=false by simpa using h1];rfl
  ·have e2:D.nth (l.map aL) (i-1).toNat=aL (l[(i-1).toNat]'(by omega)):=az _ _ _ (by omega);have d2:=eS (show(i-1).toNat<l.length by omega) aA;rw[e2];refine bh (by omega) (bh ⟨by omega,by omega⟩ (aq (ga _) ⟨l[(i-1).toNat],l[i.toNat],rfl,rfl,λc' oN=>aW (λh4=>ht ?_) λh4=>bh (by omega) (hn ?_)⟩))
   ·have e4:fc l[(i-1).toNat] l[i.toNat]=false:=by rw[<-za6,<-oN.lt];omega
    rw[Eb,d1,show i.toNat-1=(i-1).toNat by omega,d2,e4,show(i.toNat==0)=false by simp;omega];simp
   have e4:fc l[(i-1).toNat] l[i.toNat]=true:=by rw[<-oN.lt];omega
   rw[Eb,d1,show i.toNat-1=(i-1).toNat by omega,d2,e4,<-hb,show b=true by simpa using h1];simp
  refine bh (by omega) (hn ?_);rw[Eb,d1,<-hb,show b=true by simpa using h1,show(i.toNat==0)=true by simp;omega];simp)
 (by
  rintro⟨g,k,l⟩ i ae hC hi hp;dsimp only at*
  (rw[<-JH];delta Zt Zv rb nL nM qd sP kc kL Rq iX Zl Zm ZG dW kU uU gR l7 b9 gD Z8 Z7 Zh Z4z Z1 Zx gj gk gy fQ fR gS Ze BV BW A4 xH Za Z4A Z4B SI Z9 Zr Z2 Zg BX gA q9 Hm SJ)
  simp only[zaa];exact aW (λh=>by omega) λh=>hp)
 (by rintro s ae ⟨g,k,l,rfl,hl,h1,h2⟩;refine⟨(g,k,l),rfl,hl,λi hi h0 ht _=>h1 (Gd (i:=i.toNat) hi (by simpa using ht)),λh=>h2 (wB λi hi=>by simpa using h i hi)⟩)
end
def Z4E av:=P.d (D.bool (decide ((↑(qe av):Int)<=(200:Int))))
def eH(av:List aF):=List.length av
def Z4C av bp cd:=S.mk 45 [gD,B5 av,(7,Ed av),(8,P.d (D.int .i64 (↑(qe av):Int))),(9,P.d Z5)] (iX bp cd)
theorem qgz g k l ae:(∃bp cd av,Z4C l g k=Z4C av bp cd/\eH av<=Zy/\(mf (eH av) (mK (ar.s bp) av)=false->MH ae bp cd)/\(mf (eH av) (mK (ar.s bp) av)=true->ae (Z4E av,iX bp cd)))=(aI [] [(2,ah (aR 114 2) qd5)] 114 [.ref 0 0 0,kB l] (xJ g k)) ae:=by kernel_rfl
def Z4F av bp cd:=S.mk 41 [gD,l7 av,(7,gR av),(8,P.d (D.int .i64 (uU av))),(9,P.d Z5)] (iX bp cd)
theorem qbF g k l ae:(∃bp cd av,Z4F l g k=Z4F av bp cd/\dH av<=Zy/\(mf (dH av) (Eb (ar.s bp) cd av)=false->MH ae bp cd)/\(mf (dH av) (Eb (ar.s bp) cd av)=true->bif decide (uU av>=(1:Int)) then ae (P.d (D.bool (decide (uU av<=(2000:Int)))),iX bp cd) else MH ae bp cd))=(aI [] [(2,ah (aR 116 2) VW)] 116 [.ref 0 0 0,ct l] (xJ g k)) ae:=by kernel_rfl
def VX:a8:=λps R ae=> ∃g k l,ps=[.ref 0 0 0,kB l]/\R=xJ g k/\l.length<=9223372036854775807/\ ∀b,b=oC g.s l->ae (mB b,xJ g k)
def OL:a8:=λps R ae=> ∃g k l,ps=[.ref 0 0 0,ct l]/\R=xJ g k/\l.length<=9223372036854775807/\ ∀b,b=u5 g.s k l->ae (mB b,xJ g k)
def Gm:a8:=λps R ae=> ∃s,ps=[sD s]/\R=[]/\ ∀b,b=bX s->ae (mB b,[])
def VY o:=[P.d (D.sl 3 (List.map aL (bj.elems o)))]
def Z4Q g k n:=[(0,En.mk 0 (some 0) (Obj.box (136:TypeId) [P.d (kL g),P.d (kc g),sP g,qd g,P.d (nM g),P.d (nL g),rb g,P.d (D.int .i64 (k+n))]))]
def Z4P k n:=decide (Z7<=k+n/\k+n<=Z8)
def Z4R k n (ae:P×List (Nat×En)->Prop) g:=ob (Z4P k n) (ae (P.d Z2,Z4Q g k n))
def Z4N k (ae:P×List (Nat×En)->Prop) g:=ob (decide (Z7<=k+(0:Int)/\k+(0:Int)<=Z8)) (ae (P.d Z2,[(0,En.mk 0 (some 0) (Obj.box (136:TypeId) [P.d (kL g),P.d (kc g),sP g,qd g,P.d (nM g),P.d (nL g),rb g,P.d (D.int .i64 (k+(0:Int)))]))]))
def Z4M o g k:=yi o==Prod.fst (ar.s g)&&(yh o==Prod.snd (ar.s g)&&true)&&(yg o==k&&true)
def Z4O o:=P.d (D.agg [CU o,CT o,CS o])
def Z4K o:=P.d (D.agg [wG o,wF o,wE o])
def Z4L o:=[b9,Z4K o]
def Z4H bp cd:=[(0,En.mk 0 (some 0) (Obj.box (136:TypeId) [P.d (kL bp),P.d (kc bp),sP bp,qd bp,P.d (nM bp),P.d (nL bp),rb bp,Zm cd]))]
def Z4I o:=[P.d (D.str (bj.name o))]
def Z4J o:=P.d (D.agg [B4 o,B3 o,B1 o])
def Z4G o g k:=Prod.fst (bj.node o)==Prod.fst (ar.s g)&&(Prod.fst (Prod.snd (bj.node o))==Prod.snd (ar.s g)&&true)&&(Prod.snd (Prod.snd (bj.node o))==k&&true)
theorem qjw g k o ae:(∃bq,Z4e o=Z4e bq/\Zx/\ ∀b,b=fM bq->bif !b then MH ae g k else bif bj.kind o==(0:Int) then bif Z4G o g k then∃bp cd x,[b9,Z4J o]=b9::gA x/\iX g k=iX bp cd/\ ∀b,b=mJ (ar.s bp) cd x->bif b then∃s,Z4I o=pU s/\Zx/\ ∀b,b=bX s->ob (Zh cd) (ae (fk b,Z4H bp cd)) else ob (Zh cd) (ae (P.d Z2,Z4H bp cd)) else ob (Zh k) (ae (P.d Z2,Z4H g k)) else bif bj.kind o==(1:Int) then∃bp cd x,Z4L o=b9::gA x/\iX g k=iX bp cd/\ ∀b,BX b bp cd x->bif b then∃g k x,[b9,Z4J o]=b9::gA x/\iX bp cd=iX g k/\ ∀b,b=mJ (ar.s g) k x->bif b then∃s,Z4I o=pU s/\Zx/\ ∀b,b=bX s->ae (fk b,iX g k) else MH ae g k else MH ae bp cd else bif bj.kind o==(2:Int) then∃bp cd x,Z4L o=b9::gA x/\iX g k=iX bp cd/\ ∀b,BX b bp cd x->bif b then∃g k l,[b9,P.d (yV o)]=[b9,Ed l]/\iX bp cd=iX g k/\eH l<=Zy/\ ∀b,b=oC (ar.s g) l->ae (fk b,iX g k) else MH ae bp cd else bif bj.kind o==(3:Int) then∃s,[P.d (D.str (bj.text o))]=pU s/\Zx/\KV s/\(Vr s-> ∃bp cd x,Z4L o=b9::gA x/\iX g k=iX bp cd/\ ∀b,BX b bp cd x->bif b then∃g k x,[b9,Z4O o]=b9::gA x/\iX bp cd=iX g k/\ ∀b,b=mJ (ar.s g) k x->bif b then bif Z4M o g k then Z4N k ae g else Z4N k ae g else Z4N k ae g else Z4N cd ae bp)/\(Vq s-> ∀n,n=CR s-> ∃bp cd x,Z4L o=b9::gA x/\iX g k=iX bp cd/\ ∀b,BX b bp cd x->bif b then∃g k x,[b9,Z4O o]=b9::gA x/\iX bp cd=iX g k/\ ∀b,b=mJ (ar.s g) k x->bif b then bif Z4M o g k then bif Z0 n then ob (Z4P k n) (ae (P.d (D.bool (decide (n<=(2000:Int)))),Z4Q g k n)) else Z4R k n ae g else Z4R k n ae g else Z4R k n ae g else Z4R cd n ae bp) else bif bj.kind o==(4:Int) then∃bp cd x,Z4L o=b9::gA x/\iX g k=iX bp cd/\ ∀b,BX b bp cd x->bif b then∃g k l,b9::VY o=[b9,gR l]/\iX bp cd=iX g k/\dH l<=Zy/\ ∀b,b=u5 (ar.s g) k l->ae (fk b,iX g k) else MH ae bp cd else MH ae g k)=(aI [(109,VM),(113,Gg),(111,OG),(112,Gm),(114,VX),(116,OL),(115,OB)] [] 70 [.ref 0 0 0,.d (eT o)] (xJ g k)) ae:=by kernel_rfl
def SmO(o:bj):=o.text.length<=2000000/\o.cu.length<=9223372036854775807/\o.elems.length<=9223372036854775807
def kOk(k:Int):=0<=k/\k<=1000000000000
def qjx:a8:=λps R ae=> ∃g k o,ps=[.ref 0 0 0,.d (eT o)]/\R=xJ g k/\(SmO o/\kOk k)/\(kW g.s k o=none-> ∀k',ae (mB false,xJ g k'))/\(∀n k',kW g.s k o=some n->k'=k+n->ae (mB true,xJ g k'))
def VZ(g:ar):=(∀o∈g.ops,SmO o)/\g.ops.length<=9223372036854775807/\g.deps.length<=1000000
def OM:a8:=λps R ae=> ∃v,ps=[vD v]/\R=[]/\v.length<=1000000/\ ∀b,b=cT v->ae (mB b,[])
def qbG:a8:=λps R ae=> ∃v r,ps=[vD v,iD r]/\R=[]/\v.length<=1000000/\ ∀n,n=eV v r->ae (iD n,[])
def Z4U g:=decide (Z7<=ar.n g-(1:Int)/\ar.n g-(1:Int)<=Z8)
def SK(v:List Int):=List.length v<=1000000
theorem qbH g ae:(∃s,Rr g=oQ s/\Zx/\ ∀b,b=JA s->bif b then bif decide (ar.n g>=(1:Int)) then bif decide (ar.n g<=(1099511627776:Int)) then∃v,[qd g]=ZR v/\Zx/\SK v/\ ∀b,b=cT v->bif b then∃v r,[qd g,P.d (kc g)]=Zi v::Zv r/\Zx/\SK v/\ ∀n,n=eV v r->ob (Z4U g) (ae (P.d (D.bool (n==ar.n g-(1:Int))),[])) else Z3 ae else Z3 ae else Z3 ae else Z3 ae)=(aI [(68,MG),(105,OM),(106,qbG)] [] 67 [.d (bZ g)] []) ae:=by kernel_rfl
def V0:a8:=λps R ae=> ∃g,ps=[.d (bZ g)]/\R=[]/\VZ g/\ ∀b,b=hdG g->ae (mB b,[])
abbrev qnH(g:ar)(k:Int):List (Nat×En):=[(0,⟨0,none,ckB g k⟩)]
abbrev wcH(g:ar)(k i:Int):S:=⟨59,[(3,.ref 0 0 0),(48,qgv g.ops),(49,iD ((g.ops.map eT).length:Int)),(50,iD i)],qnH g k⟩
def dQ:=(3,b9)
def Z4Y:=[(2,P.d (D.int .i64 (80:Int)))]
def jS g i:=D.nth (List.map eT (ar.ops g)) (Ze i)
def Z55 g i:=D.int .i64 (D.aj (D.au (jS g i) 6))
def Z54 g i:=D.int .i64 (D.aj (D.au (jS g i) 5))
def Z53 g i:=D.int .i64 (D.aj (D.au (jS g i) 4))
def V1 g i:=D.int .i64 (D.aj (D.au (jS g i) 3))
def V2 g i:=D.int .i64 (D.aj (D.au (jS g i) 2))
def V3 g i:=D.int .i64 (D.aj (D.au (jS g i) 1))
def Z56 g i:=P.d (D.agg [D.int .i64 (D.aj (D.au (jS g i) 0)),V3 g i,V2 g i,V1 g i,Z53 g i,Z54 g i,Z55 g i,D.str (D.cJ (D.au (jS g i) 7)),D.bool (D.dp (D.au (jS g i) 8)),D.sl 2 (D.gW (D.au (jS g i) 9)),D.int .i64 (D.aj (D.au (jS g i) 10)),D.int .i64 (D.aj (D.au (jS g i) 11)),D.int .i64 (D.aj (D.au (jS g i) 12)),D.int .i64 (D.aj (D.au (jS g i) 13)),D.int .i64 (D.aj (D.au (jS g i) 14)),D.int .i64 (D.aj (D.au (jS g i) 15)),D.str (D.cJ (D.au (jS g i) 16)),D.sl 3 (D.gW (D.au (jS g i) 17))])
def yW g:=(↑(List.length (List.map eT (ar.ops g))):Int)
def Z4W i g:=decide ((0:Int)<=i/\i<yW g)
theorem V4 g k i ae:(bif decide (i<yW g) then ob (Z4W i g) (ob (bO PR (79:TypeId) (jS g i)) (∃bp cd o,[b9,Z56 g i]=b9::Z4e o/\iX g k=iX bp cd/\(SmO o/\kOk cd)/\(kW (ar.s bp) cd o=none-> ∀(_:Int),ae (PX.ret,S.mk 59 Z4Y []))/\ ∀n k',kW (ar.s bp) cd o=some n->k'=cd+n->ob (Zh i) (ae (PX.normal,S.mk 59 [dQ,(48,rb g),(49,P.d (D.int .i64 (yW g))),(50,Zm i)] [(0,En.mk 0 none (Rq bp k'))])))) else ae (PX.exit 1,S.mk 59 [] []))=(aD [(70,qjx)] [] 43 11 (wcH g k i)) ae:=by kernel_rfl
def qjy:S->K (PX×S):=λst ae=> ∃g,st=wcH g 0 0/\(VZ g/\g.ops.length<=200)/\(jt g.s 0 g.ops=false->ae (.ret,⟨59,[(2,iD 80)],[]⟩))/\(jt g.s 0 g.ops=true->ae (.exit 1,⟨59,[],[]⟩))
def Gn(ae:P×List (Nat×En)->Prop):=ae (P.d (D.int .i64 (80:Int)),[])
def Z5d rH ae:=(VZ rH/\List.length (ar.ops rH)<=200)/\(jt (ar.s rH) (0:Int) (ar.ops rH)=false->Gn ae)/\(jt (ar.s rH) (0:Int) (ar.ops rH)=true->Z6 ae)
def Z5c rH:=S.mk 59 [dQ,(48,rb rH),(49,P.d (D.int .i64 (yW rH))),(50,P.d Z5)] [(0,En.mk 0 none (Obj.box (136:TypeId) (P.d (kL rH)::P.d (kc rH)::sP rH::qd rH::P.d (nM rH)::P.d (nL rH)::rb rH::ZV)))]
def Z5a g:=P.d (D.agg [nM g,nL g])::Rr g
def Z5b g:=[P.d (D.agg [nM g,nL g])]
def Z59 g:= !(Prod.fst (ar.dZ g)==(0:Int)&&(Prod.snd (ar.dZ g)==(0:Int)&&true))
def nT bp:=P.d (D.agg [kL bp,kc bp,D.int .i64 (ar.n bp),D.sl 1 (bt (ar.deps bp)),nM bp,nL bp,D.sl 18 (List.map eT (ar.ops bp))])
theorem qjz g ae:(∃bp,[nT g]=[nT bp]/\Zx/\VZ bp/\ ∀b,b=hdG bp->bif !b then Gn ae else bif Z59 g then∃s,Z5b g=oQ s/\Zx/\ ∀b,b=JA s->bif !b then Gn ae else∃a b,Z5a g=P.d (D.agg [ni a,nf a])::oQ b/\Zx/\ ∀c,Rp a b c->bif Z1 c then Gn ae else bif decide (yW g>(0:Int)) then Gn ae else Z6 ae else bif decide (yW g<(1:Int)) then Gn ae else bif decide (yW g>(200:Int)) then Gn ae else∃rH,Z5c g=Z5c rH/\Z5d rH ae)=(aI [(67,V0),(68,MG),(69,OE)] [(11,ah (aR 43 11) qjy)] 43 [.d (bZ g)] []) ae:=by kernel_rfl
def qbI:a8:=λps R ae=> ∃g,ps=[.d (bZ g)]/\R=[]/\VZ g/\ ∀e,e=(if cA g=true then 0 else 80)->ae (iD e,[])
section
variable{X:XF}
theorem qbJ:FD X 114 VX:=FD.mk (by kernel_rfl) .nil (.cons VU .nil) (by
 intro ps R ae hh;obtain⟨g,k,l,rfl,rfl,hl,hp⟩:=hh
 (rw[<-qgz];delta Zt Zv rb nL nM qd sP kc kL Rq iX gb qe Z4E Z2 MH Zy eH Z5 Ed B5 b9 gD Z4C)
 refine⟨g,k,l,rfl,hl,λh=>hp _ ?_,λh=>hp _ ?_⟩
 ·rw[oC,h];rfl
 rw[oC,h,zaa,zaW,zbG];omega)
theorem V5:FD X 116 OL:=FD.mk (by kernel_rfl) .nil (.cons Rw .nil) (by
 intro ps R ae hh;obtain⟨g,k,l,rfl,rfl,hl,hp⟩:=hh
 (rw[<-qbF];delta Zt Zv rb nL nM qd sP kc kL Rq iX dW kU uU Z2 MH Zy dH Z5 gR l7 b9 gD Z4F)
 simp only[zaa];refine⟨g,k,l,by simp only[],hl,λh=>hp _ ?_,λh=>aW (λh2=>hp _ ?_) λh2=>hp _ ?_⟩
 ·rw[u5,h];rfl
 ·rw[u5,h,zaW,zbG];omega
 rw[u5,h,zaW];exact(zaS (by omega)).symm)
theorem qbK:FD X 112 Gm:=Mv.weaken λps R ae h=>by obtain⟨s,rfl,rfl,hp⟩:=h;exact⟨s,rfl,rfl,hp _ rfl⟩
theorem V6:FD X 186 Gm:=F6.weaken λps R ae h=>by obtain⟨s,rfl,rfl,hp⟩:=h;exact⟨s,rfl,rfl,hp _ rfl⟩
theorem qgA:FD X 105 OM:=qi9.weaken λps R ae h=>by obtain⟨s,rfl,rfl,hs,hp⟩:=h;exact⟨s,rfl,rfl,hs,hp _ rfl⟩
theorem qgB:FD X 140 OM:=qja.weaken λps R ae h=>by obtain⟨s,rfl,rfl,hs,hp⟩:=h;exact⟨s,rfl,rfl,hs,hp _ rfl⟩
theorem qjA:FD X 106 qbG:=qnB.weaken λps R ae h=>by obtain⟨s,r,rfl,rfl,hs,hp⟩:=h;exact⟨s,r,rfl,rfl,by omega,hp _ rfl⟩
theorem qgC:FD X 40 qbG:=Jg.weaken λps R ae h=>by obtain⟨s,r,rfl,rfl,hs,hp⟩:=h;exact⟨s,r,rfl,rfl,by omega,hp _ rfl⟩
theorem qbL:FD X 67 V0:=FD.mk (by kernel_rfl) (.cons VQ (.cons qgA (.cons qjA .nil))) .nil (by
 intro ps R ae hh;obtain⟨g,rfl,rfl,hs,hp⟩:=hh
 (rw[<-qbH];delta Z2 Z3 Z8 Z7 Z4U Zt Zv Zi kc SK ZR qd Zx nf ni oQ kL Rr)
 have key: ∀b,b=(JA g.s&&(decide (g.n>=1)&&(decide (g.n<=1099511627776)&&(cT g.deps&&(eV g.deps g.s.2==g.n-1)))))->b=hdG g:=λb hb=>by
  rw[hb,hdG];rw[zaG];simp only[zac,zah];constructor
  ·rintro⟨a,b,c,d,e⟩;exact⟨⟨⟨a,b,c⟩,d⟩,e⟩
  rintro⟨⟨⟨a,b,c⟩,d⟩,e⟩;exact⟨a,b,c,d,e⟩
 refine⟨g.s,rfl,rfl,λb hb=>ay (λh1=>aW (λh2=>aW (λh3=>⟨g.deps,rfl,rfl,hs.2.2,λc hc=>ay (λh4=>⟨g.deps,g.s.2,rfl,rfl,hs.2.2,λn hn=>bh (by omega) (hp _ (key _ ?_))⟩) λh4=>hp _ (key _ ?_)⟩) λh3=>hp _ (key _ ?_)) λh2=>hp _ (key _ ?_)) λh1=>hp _ (key _ ?_)⟩
 ·rw[<-hb,h1,za0 h2,za0 h3,<-hc,h4,<-hn];rfl
 ·rw[<-hb,h1,za0 h2,za0 h3,<-hc,h4];rfl
 ·rw[<-hb,h1,za0 h2,zaS h3];rfl
 ·rw[<-hb,h1,zaS h2];rfl
 rw[<-hb,h1];rfl)
theorem V7{s k n o}(h:kW s k o=some n)(ho:o.text.length<=2000000):0<=n/\n<=2000000:=by
 have h1:=Bb o.text;have h2:=Ge o.text;unfold kW at h
 (repeat' split at h)<;>simp at h<;>omega
theorem qjB:FD X 70 qjx:=FD.mk (by kernel_rfl)
  (.cons qbE (.cons Gl (.cons VS (.cons qbK (.cons qbJ (.cons V5 (.cons qgu .nil))))))) .nil (by
 intro ps R ae hh;obtain⟨g,k,o,rfl,rfl,⟨hs,hk⟩,h1,h2⟩:=hh;have fU:0<=k/\k<=1000000000000:=hk
 (rw[<-qjw];delta dH dW gR VY rb nL nM qd sP kc kL Z4Q Z2 Z8 Z7 Z4P Z4R Z0 Vq Z4N yg yh yi Z4M BY CS BZ CT CU Z4O Vr sI KV Zy eH gb Ed yV BX wE wF wG Z4K b9 Z4L Zl Zm Z4H fk Zh pU Z4I Zt Zv Rq iX gj gk gy fQ fR gS gA B0 B1 B2 B3 B4 Z4J Z4G MH Zx VK yj Gh Z4e)
 refine⟨o,rfl,rfl,λb hb=>ay (λh0=>h1 ?_ k) λh0=> ?_⟩
 ·have:fM o=false:=by rw[<-hb];simpa using h0
  rw[kW,zap this]
 have Hp:fM o=true:=by rw[<-hb];simpa using h0
 have u:kW g.s k o=_:=kW.eq_1 g.s k o;rw[zan (by rw[Hp];simp)] at u;refine iK (λe=> ?_) λe0=>iK (λe=> ?_) λe1=>iK (λe=> ?_) λe2=>iK (λe=> ?_) λe3=>iK (λe=> ?_) λe4=>h1 ?_ k
 ·rw[zap e] at u;rw[Ho o.node (g.s.1,g.s.2,k)];refine ay (λc1=>⟨g,k,o.parent,rfl,rfl,λb2 cP=>ay (λc2=>⟨o.name,rfl,rfl,λb3 tL=>bh (by omega) ?_⟩) λc2=>bh (by omega) (h1 ?_ _)⟩) λc1=>bh (by omega) (h1 ?_ _)
  ·cases b3 with
   |true=>exact h2 1 _ (by rw[u,zap ⟨by simpa using c1,by rw[<-cP,c2],tL.symm⟩]) rfl
   |false=>exact h1 (by rw[u,zan (λh=>by rw[h.2.2] at tL;cases tL)]) _
  ·rw[u,zan (λh=>by rw[h.2.1] at cP;rw[cP] at c2;cases c2)]
  rw[u,zan (λh=>by rw[h.1] at c1;simp at c1)]
 ·rw[zan e0,zap e] at u;refine⟨g,k,o.node,rfl,rfl,λb2 cP=>ay (λc2=>⟨g,k,o.parent,rfl,rfl,λb3 tL=>ay (λc3=>⟨o.name,rfl,rfl,λb4 hb4=> ?_⟩) λc3=>h1 ?_ _⟩) λc2=>h1 ?_ _⟩
  ·cases b4 with
   |true=>exact h2 0 k (by rw[u,zap ⟨by rw[<-cP,c2],by rw[<-tL,c3],hb4.symm⟩]) (by omega)
   |false=>exact h1 (by rw[u,zan (λh=>by rw[h.2.2] at hb4;cases hb4)]) _
  ·rw[u,zan (λh=>by rw[h.2.1] at tL;rw[tL] at c3;cases c3)]
  rw[u,zan (λh=>by rw[h.1] at cP;rw[cP] at c2;cases c2)]
 ·rw[zan e0,zan e1,zap e] at u;refine⟨g,k,o.node,rfl,rfl,λb2 cP=>ay (λc2=>⟨g,k,o.cu,rfl,rfl,hs.2.1,λb3 tL=> ?_⟩) λc2=>h1 ?_ _⟩
  ·cases b3 with
   |true=>exact h2 0 k (by rw[u,zap ⟨by rw[<-cP,c2],tL.symm⟩]) (by omega)
   |false=>exact h1 (by rw[u,zan (λh=>by rw[h.2] at tL;cases tL)]) _
  rw[u,zan (λh=>by rw[h.1] at cP;rw[cP] at c2;cases c2)]
 ·rw[zan e0,zan e1,zan e2,zap e] at u;have ca: ∀n,n=CR o.text->0<=n/\n<=2000000:=λn hn=>by have g1:=Bb o.text;have g2:=Ge o.text;have:=hs.1;omega
  refine⟨o.text,rfl,rfl,hs.1,λhv=> ?_,λhv n hn=> ?_⟩
  ·have hr:oD o.text=false:=by rw[oD,hv];rfl
   have bI:kW g.s k o=none:=by rw[u,zan (λh=>by rw[h.2.2.2] at hr;cases hr)]
   refine⟨g,k,o.node,rfl,rfl,λb2 cP=>ay (λc2=>⟨g,k,o.after,rfl,rfl,λb3 tL=>ay (λc3=>ay (λc4=>bh (by omega) (h1 bI _)) λc4=>bh (by omega) (h1 bI _)) λc3=>bh (by omega) (h1 bI _)⟩) λc2=>bh (by omega) (h1 bI _)⟩
  have:=ca n hn;have hr:oD o.text=decide (1<=n/\n<=2000):=by rw[oD,hv,zaW,hn]
  refine⟨g,k,o.node,rfl,rfl,λb2 cP=>ay (λc2=>⟨g,k,o.after,rfl,rfl,λb3 tL=>ay (λc3=> ?_) λc3=>bh (by omega) (h1 ?_ _)⟩) λc2=>bh (by omega) (h1 ?_ _)⟩
  ·rw[Ho o.elem (g.s.1,g.s.2,k)];refine ay (λc4=>aW (λc5=>bh (by omega) ?_) λc5=>bh (by omega) (h1 ?_ _)) λc4=>bh (by omega) (h1 ?_ _)
   ·by_cases c6:n<=2000
    ·rw[show decide (n<=2000)=true from za0 c6];exact h2 n _ (by rw[u,zap ⟨by rw[<-cP,c2],by rw[<-tL,c3],by simpa using c4,by rw[hr];exact za0 ⟨c5,c6⟩⟩,hn]) rfl
    rw[show decide (n<=2000)=false from zaS c6];exact h1 (by rw[u,zan (λh=>by rw[hr] at h;exact c6 (zbC h.2.2.2).2)]) _
   ·rw[u,zan (λh=>by rw[hr] at h;exact c5 (zbC h.2.2.2).1)]
   rw[u,zan (λh=>by rw[h.2.2.1] at c4;simp at c4)]
  ·rw[u,zan (λh=>by rw[h.2.1] at tL;rw[tL] at c3;cases c3)]
  rw[u,zan (λh=>by rw[h.1] at cP;rw[cP] at c2;cases c2)]
 ·rw[zan e0,zan e1,zan e2,zan e3,zap e] at u;refine⟨g,k,o.node,rfl,rfl,λb2 cP=>ay (λc2=>⟨g,k,o.elems,rfl,rfl,hs.2.2,λb3 tL=> ?_⟩) λc2=>h1 ?_ _⟩
  ·cases b3 with
   |true=>exact h2 0 k (by rw[u,zap ⟨by rw[<-cP,c2],tL.symm⟩]) (by omega)
   |false=>exact h1 (by rw[u,zan (λh=>by rw[h.2] at tL;cases tL)]) _
  rw[u,zan (λh=>by rw[h.1] at cP;rw[cP] at c2;cases c2)]
 rw[u,zan e0,zan e1,zan e2,zan e3,zan e4])
theorem qbM:LD X 43 11 (ah (aR 43 11) qjy):=LD.idx (by kernel_rfl) (by kernel_rfl) (.cons qjB .nil) .nil
 (A:=ar) (B:=Int) (λg k i=>wcH g k i) (λg=>g.ops.length) (λg i k=>(VZ g/\g.ops.length<=200)/\(0<=k/\k<=2000000*i)/\jt g.s 0 g.ops=jt g.s k (g.ops.drop i))
 (λg x=>(jt g.s 0 g.ops=false/\x=(.ret,⟨59,[(2,iD 80)],[]⟩))\/(jt g.s 0 g.ops=true/\x=(.exit 1,⟨59,[],[]⟩)))
 (by
  rintro g k i ae h0 bJ bs ⟨hs,hk,he⟩ hn ho
  (rw[<-V4];delta Zt Zv rb nL nM qd sP kc kL Rq Zl Zm b9 dQ Z8 Z7 Zh Z4Y iX VK yg yh yi BY CS BZ CT CU yV B0 B1 B2 B3 B4 wE wF wG yj Gh Z4e Ze jS Z55 Z54 Z53 V1 V2 V3 Z56 yW Z4W)
  have e1:D.nth (g.ops.map eT) i.toNat=eT g.ops[i.toNat]:=az _ _ _ bs;rw[e1];simp only[wcH,zaa] at hn⊢;have hd:g.ops.drop i.toNat=g.ops[i.toNat]::g.ops.drop (i.toNat+1):=za5 bs;have SL:=hs.1.1 _ (zas bs);have KT:=hs.2;rw[hd] at he;generalize g.ops[i.toNat]=o at he SL;refine Ee bJ (bh ⟨h0,bJ⟩ (aq (MI _) ⟨g,k,o,rfl,rfl,⟨SL,by unfold kOk;omega⟩,λh k'=>ho _ (λh=>by cases h) (.inl ⟨?_,rfl⟩),λn k' h iB=>bh (by omega) (hn k' ⟨hs,?_,?_⟩)⟩))
  ·rw[he,jt,h]
  ·have:=V7 h SL.1;omega
  rw[he,jt,h,iB])
 (by
  rintro g k i ae hi ⟨hs,hk,he⟩ ho
  (rw[<-V4];delta Zt Zv rb nL nM qd sP kc kL Rq Zl Zm b9 dQ Z8 Z7 Zh Z4Y iX VK yg yh yi BY CS BZ CT CU yV B0 B1 B2 B3 B4 wE wF wG yj Gh Z4e Ze jS Z55 Z54 Z53 V1 V2 V3 Z56 yW Z4W)
  simp only[zaa];refine aW (λh=>by omega) λh=>ho _ (λh=>by cases h) (.inr ⟨?_,rfl⟩);rw[he,zct];rfl)
 (by
  rintro s ae ⟨g,rfl,hs,h1,h2⟩;refine⟨g,0,rfl,⟨hs,by omega,rfl⟩,?_⟩;rintro x (⟨h,rfl⟩| ⟨h,rfl⟩)
  ·exact h1 h
  exact h2 h)
theorem qjC:FD X 43 qbI:=FD.mk (by kernel_rfl) (.cons qbL (.cons VQ (.cons MJ .nil))) (.cons qbM .nil) (by
 intro ps R ae hh;obtain⟨g,rfl,rfl,hs,hp⟩:=hh
 (rw[<-qjz];delta Z5 Z6 Gn Z5d ZV nL nM qd sP kc kL yW rb b9 dQ Z5c Z1 nf ni Rr Z5a oQ Z5b Z59 Zx nT)
 have bI:cA g=false->ae (.d (.int .i64 80),[]):=λh=>hp _ (by rw[h];rfl);have oc:cA g=true->ae (.d (.int .i64 0),[]):=λh=>hp _ (by rw[h];rfl);have u:=cA.eq_1 g;refine⟨g,rfl,rfl,hs,λb hb=>ay (λc1=>bI ?_) λc1=> ?_⟩
 ·rw[u,<-hb,show b=false by simpa using c1];rfl
 rw[<-hb,show b=true by simpa using c1,zaW] at u;rw[VN g.dZ (0,0)];simp only[zaa];refine ay (λc2=>⟨g.dZ,rfl,rfl,λb2 cP=>ay (λc3=>bI ?_) λc3=>⟨g.dZ,g.s,rfl,rfl,λc hc=>aW (λc4=>bI ?_) λc4=>aW (λc5=>bI ?_) λc5=>oc ?_⟩⟩) λc2=>aW (λc3=>bI ?_) λc3=>aW (λc4=>bI ?_) λc4=>⟨g,by simp only[],⟨hs,by omega⟩,λh=>bI ?_,λh=>oc ?_⟩
 ·rw[zap (by simpa using c2),<-cP,show b2=false by simpa using c3] at u;rw[u];rfl
 ·have e4:kA g.dZ g.s=false:=by rw[<-za6,<-hc.lt];omega
  rw[zap (by simpa using c2),e4] at u;rw[u];simp
 ·rw[zap (by simpa using c2)] at u;rw[u,show(g.ops.length==0)=false by rw[zcc];omega];simp
 ·have e4:kA g.dZ g.s=true:=by rw[<-hc.lt];omega
  rw[zap (by simpa using c2),<-cP,show b2=true by simpa using c3,e4,show(g.ops.length==0)=true by rw[za1];omega] at u;rw[u];rfl
 ·rw[zan (by simpa using c2),zaS (by omega)] at u;rw[u];rfl
 ·rw[zan (by simpa using c2),zaS (by omega)] at u;rw[u];rfl
 ·rw[zan (by simpa using c2),h] at u;rw[u];simp
 rw[zan (by simpa using c2),h,za0 (by omega)] at u;rw[u];rfl)
end
abbrev gbB(g:ar):Obj:= .box 31 [iD g.s.1,iD g.s.2,iD g.n,.d (.sl 1 (bt g.deps)),iD g.dZ.1,iD g.dZ.2,qgv g.ops]
abbrev gbR(g:ar):List (Nat×En):=[(0,⟨0,none,gbB g⟩)]
def yX:a8:=λps R ae=> ∃g k x,ps=[.d (bZ g),.d (aL x),iD k]/\R=[]/\ ∀b,b=de g.s k x->ae (mB b,[])
def qd6:a8:=λps R ae=> ∃g k x,ps=[.d (bZ g),.d (aL x),iD k]/\R=[]/\ ∀b,b=mJ g.s k x->ae (mB b,[])
def V8:a8:=λps R ae=> ∃o a b c d e,ps=[.d (eT o),mB a,mB b,mB c,mB d,mB e]/\R=[]/\ ∀r,r=nc o a b c d e->ae (mB r,[])
theorem V9 g k x ae:(∃bm,gA x=gA bm/\Zx/\ ∀b,b=rgX bm->bif !b then Z3 ae else∃a b,P.d (D.agg [fR x,fQ x])::Rr g=P.d (D.agg [ni a,nf a])::oQ b/\Zx/\ ∀r,r=kA a b->bif r then ZM ae else bif Z3J x g then ae (P.d (D.bool (decide (gj x<k))),[]) else Z3 ae)=(aI [(192,qbC),(53,Ec)] [] 188 [.d (bZ g),.d (aL x),iD k] []) ae:=by kernel_rfl
theorem qgD g k x ae:(bif Z3M x then ZM ae else∃bp cd bm,nT g::P.d (gS x)::Zv k=nT bp::P.d (gS bm)::Zv cd/\Zx/\ ∀b,BX b bp cd bm->ae (fk b,[]))=(aI [(188,yX)] [] 185 [.d (bZ g),.d (aL x),iD k] []) ae:=by kernel_rfl
def Z5f d e ae o:=bif d then bif e then ZM ae else ae (P.d (D.bool (Z4g o==(0:Int))),[]) else bif Prod.fst (bj.after o)==(0:Int)&&(BZ o==(0:Int)&&true)&&(BY o==(0:Int)&&true) then bif yi o==(0:Int)&&(yh o==(0:Int)&&true)&&(yg o==(0:Int)&&true) then bif bj.text o==[] then bif e then ZM ae else ae (P.d (D.bool (Z4g o==(0:Int))),[]) else Z3 ae else Z3 ae else Z3 ae
def Z5g c o ae d e:=bif !c then bif decide (JG o>(0:Int)) then Z3 ae else Z5f d e ae o else Z5f d e ae o
theorem qbN o a b c d e ae:(bif !a then bif !(Prod.fst (bj.parent o)==(0:Int)&&(B2 o==(0:Int)&&true)&&(B0 o==(0:Int)&&true)) then Z3 ae else bif !bj.name o==[] then Z3 ae else bif !b then bif bj.dir o then Z3 ae else Z5g c o ae d e else Z5g c o ae d e else bif !b then bif bj.dir o then Z3 ae else Z5g c o ae d e else Z5g c o ae d e)=(aI [] [] 187 [.d (eT o),mB a,mB b,mB c,mB d,mB e] []) ae:=by kernel_rfl
abbrev qgE(g:ar)(l:List aF)(i:Int):S:=⟨47,[(1,kB l),(2,.ref 0 0 0),(5,iD i)],gbR g⟩
def CV g:=En.mk 0 none (Obj.box (31:TypeId) [P.d (kL g),P.d (kc g),sP g,qd g,P.d (nM g),P.d (nL g),rb g])
def Gp g:=[(0,CV g)]
def JJ:=(2,b9)
def Z5h(ae:PX×S->Prop) l:=ae (PX.ret,S.mk 47 (B5 l::Zg) [])
theorem JK g l i ae:(bif Z4j i l then ob (SH i l) (ob (uf l i) (∃s,Ru l i=oQ s/\Zx/\ ∀b,b=JA s->bif !b then Z5h ae l else ob (SH i l) (ob (uf l i) (∃a b,P.d (D.agg [kL g,kc g])::Ru l i=P.d (D.agg [ni a,nf a])::oQ b/\Zx/\ ∀r,r=kA a b->bif r then Z5h ae l else bif Zr i then ob (Z9 i) (ob (Z4p i l) (ob (Z4q l i) (ob (SH i l) (ob (uf l i) (∃a b,P.d (D.agg (Z4s l i))::Ru l i=P.d (D.agg [ni a,nf a])::oQ b/\Zx/\ ∀r,r=kA a b->bif !r then Z5h ae l else ob (Zh i) (ae (PX.normal,S.mk 47 (B5 l::JJ::Zn i) (Gp g)))))))) else ob (Zh i) (ae (PX.normal,S.mk 47 (B5 l::JJ::Zn i) (Gp g))))))) else ae (PX.exit 0,S.mk 47 [B5 l] []))=(aD [(139,MG),(53,Ec)] [] 189 2 (qgE g l i)) ae:=by kernel_rfl
abbrev qgF(g:ar)(k:Int)(l:List ao)(i:Int):S:=⟨47,[(1,ct l),(2,iD k),(3,.ref 0 0 0),(7,iD i)],gbR g⟩
def Z5l:=[(6,P.d Z2)]
theorem Ef g k l i ae:(bif SJ i l then ob (Hm i l) (ob (q9 l i) (∃bp cd x,nT g::P.d (D.agg (xH l i))::Zv k=nT bp::P.d (gS x)::Zv cd/\Zx/\ ∀b,BX b bp cd x->bif !b then ae (PX.ret,S.mk 47 (l7 l::Z5l) []) else bif Zr i then ob (Z9 i) (ob (decide ((0:Int)<=i-(1:Int)/\i-(1:Int)<uU l)) (ob (SI l i) (ob (Hm i l) (ob (q9 l i) (∃x y,Z4B l i=P.d (gS x)::gA y/\Zx/\ ∀c,OD x y c->bif Z1 c then ae (PX.ret,S.mk 47 (l7 l::Z5l) []) else ob (Zh i) (ae (PX.normal,S.mk 47 (l7 l::ZF k::dQ::ZJ i) (Gp g)))))))) else ob (Zh i) (ae (PX.normal,S.mk 47 (l7 l::ZF k::dQ::ZJ i) (Gp g))))) else ae (PX.exit 0,S.mk 47 [l7 l] []))=(aD [(188,yX),(98,yU)] [] 191 2 (qgF g k l i)) ae:=by kernel_rfl
section
variable{X:XF}
theorem Bf:FD X 188 yX:=FD.mk (by kernel_rfl) (.cons qgy (.cons Bd .nil)) .nil (by
 intro ps R ae hh;obtain⟨g,k,x,rfl,rfl,hp⟩:=hh
 (rw[<-V9];delta gj gy Z3J ZL ZM nf ni oQ kc kL Rr fQ fR Z2 Z3 Zx gk gS gA)
 refine⟨x,rfl,rfl,λb hb=>ay (λh1=>hp _ ?_) λh1=>⟨JB x,g.s,rfl,rfl,λc hc=>ay (λh2=>hp _ ?_) λh2=>ay (λh3=>hp _ ?_) λh3=>hp _ ?_⟩⟩
 ·rw[de,<-hb,show b=false by simpa using h1];rfl
 ·rw[de,<-hb,show b=true by simpa using h1,<-hc,h2];rfl
 ·have e:(JB x==g.s)=true:=by rw[<-VN (JB x) g.s];exact h3
  rw[de,<-hb,show b=true by simpa using h1,<-hc,h2,e];simp
 have e:(JB x==g.s)=false:=by rw[<-VN (JB x) g.s];exact h3
 rw[de,<-hb,show b=true by simpa using h1,<-hc,h2,e];rfl)
theorem qgG:FD X 185 qd6:=FD.mk (by kernel_rfl) (.cons Bf .nil) .nil (by
 intro ps R ae hh;obtain⟨g,k,x,rfl,rfl,hp⟩:=hh
 (rw[<-qgD];delta fk BX Zx Zt Zv gj gk gy fQ fR gS nL nM kc kL nT ZL ZM Z3M)
 refine ay (λh1=>hp _ ?_) λh1=>⟨g,k,x,rfl,rfl,λb hb=>hp _ ?_⟩
 ·rw[mJ,<-Ho x aA,h1];rfl
 rw[mJ,<-Ho x aA,h1,hb];rfl)
theorem qbO:FD X 187 V8:=FD.mk (by kernel_rfl) .nil .nil (by
 intro ps R ae hh;obtain⟨o,a,b,c,d,e,rfl,rfl,hp⟩:=hh
 (rw[<-qbN];delta Z2 Z3 yg yh yi BY BZ Z4g ZL ZM Z5f JG Z5g B0 B2)
 rw[show(o.parent.1==0&&(o.parent.2.1==0&&true)&&(o.parent.2.2==0&&true))=(o.parent==aA) from Ho o.parent aA,show(o.after.1==0&&(o.after.2.1==0&&true)&&(o.after.2.2==0&&true))=(o.after==aA) from Ho o.after aA,
  show(o.elem.1==0&&(o.elem.2.1==0&&true)&&(o.elem.2.2==0&&true))=(o.elem==aA) from Ho o.elem aA]
 have e1:decide (((o.cu.map bC).length:Int)>0)= !(o.cu.length==0):=by
  rw[zaa];cases o.cu with
  |nil=>rfl
  |cons x t=>rw[za0 (by simp)];rfl
 have e2:(((o.elems.map aL).length:Int)==0)=(o.elems.length==0):=by rw[zaa];exact lnE _ 0
 rw[e1,e2];unfold nc at hp;generalize (o.parent==aA)=P1 at*
 generalize (o.after==aA)=P2 at*
 generalize (o.elem==aA)=P3 at*
 generalize (o.cu.length==0)=P4 at*
 generalize (o.elems.length==0)=P5 at*
 generalize (o.name==[])=P6 at*
 generalize (o.text==[])=P7 at*
 generalize o.dir=P8 at*
 cases a<;>cases b<;>cases c<;>cases d<;>cases e
 all_goals (simp only[zdB,Bool.not_false,zbY,zbl,zcr,zby,zaW,zb6] at hp⊢)
 all_goals (repeat' (first | (refine ay (λh=> ?_) (λh=> ?_))))
 all_goals (refine hp _ ?_;simp_all))
def Wa:S->K (PX×S):=λst ae=> ∃g l,st=qgE g l 0/\l.length<=9223372036854775807/\(mf l.length (mK g.s l)=false->ae (.ret,⟨47,[(1,kB l),(4,mB false)],[]⟩))/\(mf l.length (mK g.s l)=true->ae (.exit 0,⟨47,[(1,kB l)],[]⟩))
theorem Rx:LD X 189 2 (ah (aR 189 2) Wa):=LD.find (by kernel_rfl) (by kernel_rfl) (.cons VR (.cons Bd .nil)) .nil
 (A:=ar×List aF) (λa k=>qgE a.1 a.2 k) (λa=>a.2) (λa j _=> !mK a.1.s a.2 j) (λa=>a.2.length<=9223372036854775807)
 (λa _=>(.ret,⟨47,[(1,kB a.2),(4,mB false)],[]⟩)) (λa=>(.exit 0,⟨47,[(1,kB a.2)],[]⟩)) (λ_ _ h=>by cases h) (λ_ h=>by cases h)
 (by
  rintro⟨g,l⟩ i ae hi hC h0 bJ ht hn;dsimp only at*
  (rw[<-JK];delta rb nL nM qd sP kc kL CV Gp Zl Zm Zn b9 JJ gb Ed B5 Z8 Z7 Zh Za Z4s Z4q qe Z4p Z9 Zr nf ni Z2 Zg Z5h Zx oQ Ze Hn Gj Gk Ru uf SH Z4j)
  have e1:D.nth (l.map bC) i.toNat=bC l[i.toNat]:=az _ _ _ hi;have d1:=eS hi ((0,0):aF);rw[e1];simp only[zaa];refine Ee bJ (bh ⟨h0,bJ⟩ (aq (iO _) ⟨l[i.toNat],rfl,rfl,λb hb=>ay (λh1=> ?_) λh1=>bh ⟨h0,bJ⟩ (aq (iO _) ⟨g.s,l[i.toNat],rfl,rfl,λc hc=>ay (λh2=> ?_) λh2=>aW (λh3=> ?_) λh3=> ?_⟩)⟩))
  ·refine ht ?_;rw[mK,d1,<-hb,show b=false by simpa using h1];rfl
  ·refine ht ?_;rw[mK,d1,<-hc,h2];simp
  ·have e2:D.nth (l.map bC) (i-1).toNat=bC (l[(i-1).toNat]'(by omega)):=az _ _ _ (by omega);have d2:=eS (show(i-1).toNat<l.length by omega) ((0,0):aF);rw[e2];refine bh (by omega) (bh ⟨by omega,by omega⟩ (aq (iO _) (bh ⟨h0,bJ⟩ (aq (iO _) ⟨l[(i-1).toNat],l[i.toNat],rfl,rfl,λc' oN=>ay (λh4=>ht ?_) λh4=>bh (by omega) (hn ?_)⟩))))
   ·rw[mK,d1,show i.toNat-1=(i-1).toNat by omega,d2,<-oN,show c'=false by simpa using h4,show(i.toNat==0)=false by simp;omega];simp
   rw[mK,d1,show i.toNat-1=(i-1).toNat by omega,d2,<-hc,h2,<-oN,show c'=true by simpa using h4,<-hb,show b=true by simpa using h1];simp
  refine bh (by omega) (hn ?_);rw[mK,d1,<-hc,h2,<-hb,show b=true by simpa using h1,show(i.toNat==0)=true by simp;omega];simp)
 (by
  rintro⟨g,l⟩ i ae hC hi hp;dsimp only at*
  (rw[<-JK];delta rb nL nM qd sP kc kL CV Gp Zl Zm Zn b9 JJ gb Ed B5 Z8 Z7 Zh Za Z4s Z4q qe Z4p Z9 Zr nf ni Z2 Zg Z5h Zx oQ Ze Hn Gj Gk Ru uf SH Z4j)
  simp only[zaa];exact aW (λh=>by omega) λh=>hp)
 (by rintro s ae ⟨g,l,rfl,hl,h1,h2⟩;refine⟨(g,l),rfl,hl,λi hi h0 ht _=>h1 (Gd (i:=i.toNat) hi (by simpa using ht)),λh=>h2 (wB λi hi=>by simpa using h i hi)⟩)
def ON:S->K (PX×S):=λst ae=> ∃g k l,st=qgF g k l 0/\l.length<=9223372036854775807/\(mf l.length (Eb g.s k l)=false->ae (.ret,⟨47,[(1,ct l),(6,mB false)],[]⟩))/\(mf l.length (Eb g.s k l)=true->ae (.exit 0,⟨47,[(1,ct l)],[]⟩))
theorem MK:LD X 191 2 (ah (aR 191 2) ON):=LD.find (by kernel_rfl) (by kernel_rfl) (.cons Bf (.cons Rv .nil)) .nil
 (A:=ar×Int×List ao) (λa k=>qgF a.1 a.2.1 a.2.2 k) (λa=>a.2.2) (λa j _=> !Eb a.1.s a.2.1 a.2.2 j) (λa=>a.2.2.length<=9223372036854775807)
 (λa _=>(.ret,⟨47,[(1,ct a.2.2),(6,mB false)],[]⟩)) (λa=>(.exit 0,⟨47,[(1,ct a.2.2)],[]⟩)) (λ_ _ h=>by cases h) (λ_ h=>by cases h)
 (by
  rintro⟨g,k,l⟩ i ae hi hC h0 bJ ht hn;dsimp only at*
  (rw[<-Ef];delta rb nL nM qd sP kc kL CV Gp Zl Zm ZJ b9 dQ Zt ZF Z8 Z7 Zh Z1 gj gk gy fQ fR gS gA Ze dW BV BW A4 xH Za Z4A Z4B SI kU uU Z9 Zr Z2 Z5l gR l7 BX Zx Zv nT q9 Hm SJ)
  have e1:D.nth (l.map aL) i.toNat=aL l[i.toNat]:=az _ _ _ hi;have d1:=eS hi aA;rw[e1];simp only[zaa];refine Ee bJ (bh ⟨h0,bJ⟩ (aq (ga _) ⟨g,k,l[i.toNat],rfl,rfl,λb hb=>ay (λh1=> ?_) λh1=>aW (λh3=> ?_) λh3=> ?_⟩))
  ·refine ht ?_;rw[Eb,d1,<-hb,show b=false by simpa using h1];rfl
  ·have e2:D.nth (l.map aL) (i-1).toNat=aL (l[(i-1).toNat]'(by omega)):=az _ _ _ (by omega);have d2:=eS (show(i-1).toNat<l.length by omega) aA;rw[e2];refine bh (by omega) (bh ⟨by omega,by omega⟩ (aq (ga _) (bh ⟨h0,bJ⟩ (aq (ga _) ⟨l[(i-1).toNat],l[i.toNat],rfl,rfl,λc' oN=>aW (λh4=>ht ?_) λh4=>bh (by omega) (hn ?_)⟩))))
   ·have e4:fc l[(i-1).toNat] l[i.toNat]=false:=by rw[<-za6,<-oN.lt];omega
    rw[Eb,d1,show i.toNat-1=(i-1).toNat by omega,d2,e4,show(i.toNat==0)=false by simp;omega];simp
   have e4:fc l[(i-1).toNat] l[i.toNat]=true:=by rw[<-oN.lt];omega
   rw[Eb,d1,show i.toNat-1=(i-1).toNat by omega,d2,e4,<-hb,show b=true by simpa using h1];simp
  refine bh (by omega) (hn ?_);rw[Eb,d1,<-hb,show b=true by simpa using h1,show(i.toNat==0)=true by simp;omega];simp)
 (by
  rintro⟨g,k,l⟩ i ae hC hi hp;dsimp only at*
  (rw[<-Ef];delta rb nL nM qd sP kc kL CV Gp Zl Zm ZJ b9 dQ Zt ZF Z8 Z7 Zh Z1 gj gk gy fQ fR gS gA Ze dW BV BW A4 xH Za Z4A Z4B SI kU uU Z9 Zr Z2 Z5l gR l7 BX Zx Zv nT q9 Hm SJ)
  simp only[zaa];exact aW (λh=>by omega) λh=>hp)
 (by rintro s ae ⟨g,k,l,rfl,hl,h1,h2⟩;refine⟨(g,k,l),rfl,hl,λi hi h0 ht _=>h1 (Gd (i:=i.toNat) hi (by simpa using ht)),λh=>h2 (wB λi hi=>by simpa using h i hi)⟩)
end
theorem qbP g l ae:(∃bp av,S.mk 47 (B5 l::JJ::ZK) (Gp g)=S.mk 47 (B5 av::JJ::ZK) (Gp bp)/\eH av<=Zy/\(mf (eH av) (mK (ar.s bp) av)=false->Z3 ae)/\(mf (eH av) (mK (ar.s bp) av)=true->ae (Z4E av,[])))=(aI [] [(2,ah (aR 189 2) Wa)] 189 [.d (bZ g),kB l] []) ae:=by kernel_rfl
theorem Wb g k l ae:(∃bp cd av,S.mk 47 (l7 l::ZF k::dQ::ZW) (Gp g)=S.mk 47 (l7 av::ZF cd::dQ::ZW) (Gp bp)/\dH av<=Zy/\(mf (dH av) (Eb (ar.s bp) cd av)=false->Z3 ae)/\(mf (dH av) (Eb (ar.s bp) cd av)=true->bif decide (uU av>=(1:Int)) then ae (P.d (D.bool (decide (uU av<=(2000:Int)))),[]) else Z3 ae))=(aI [] [(2,ah (aR 191 2) ON)] 191 [.d (bZ g),ct l,iD k] []) ae:=by kernel_rfl
def Wc:a8:=λps R ae=> ∃g l,ps=[.d (bZ g),kB l]/\R=[]/\l.length<=9223372036854775807/\ ∀b,b=oC g.s l->ae (mB b,[])
def OO:a8:=λps R ae=> ∃g k l,ps=[.d (bZ g),ct l,iD k]/\R=[]/\l.length<=9223372036854775807/\ ∀b,b=u5 g.s k l->ae (mB b,[])
def Z5m s0 bq a b c d e:=s0=[P.d (Gh bq),fk a,fk b,fk c,fk d,fk e]
def Z5n ae:=λs0=> ∃bq a b c d e,Z5m s0 bq a b c d e/\Zx/\ ∀r,r=nc bq a b c d e->bif r then Z6 ae else q8 ae
def Z5o g o k:=nT g::Z4K o::Zv k
theorem qjD g k o ae:(bif bj.kind o==(0:Int) then bif Z4G o g k then∃bp cd x,nT g::Z4J o::Zv k=nT bp::P.d (gS x)::Zv cd/\Zx/\ ∀b,b=mJ (ar.s bp) cd x->bif b then∃s,Z4I o=pU s/\Zx/\ ∀b,b=bX s->bif b then∃bq a b c d e,P.d (Gh o)::ZL::ZL::P.d Z2::P.d Z2::Rh=[P.d (Gh bq),fk a,fk b,fk c,fk d,fk e]/\Zx/\ ∀r,r=nc bq a b c d e->bif r then Vu ae else q8 ae else q8 ae else q8 ae else q8 ae else bif bj.kind o==(1:Int) then∃bp cd x,Z5o g o k=nT bp::P.d (gS x)::Zv cd/\Zx/\ ∀b,BX b bp cd x->bif b then∃rH Wd x,nT g::Z4J o::Zv k=nT rH::P.d (gS x)::Zv Wd/\Zx/\ ∀b,b=mJ (ar.s rH) Wd x->bif b then∃s,Z4I o=pU s/\Zx/\ ∀b,b=bX s->bif b then Z5n ae (P.d (Gh o)::ZL::P.d Z2::P.d Z2::P.d Z2::Rh) else q8 ae else q8 ae else q8 ae else bif bj.kind o==(2:Int) then∃bp cd x,Z5o g o k=nT bp::P.d (gS x)::Zv cd/\Zx/\ ∀b,BX b bp cd x->bif b then∃rH l,[nT g,P.d (yV o)]=[nT rH,Ed l]/\Zx/\eH l<=Zy/\ ∀b,b=oC (ar.s rH) l->bif b then Z5n ae (P.d (Gh o)::P.d Z2::P.d Z2::ZL::P.d Z2::Rh) else q8 ae else q8 ae else bif bj.kind o==(3:Int) then∃s,[P.d (D.str (bj.text o))]=pU s/\Zx/\KV s/\(Vr s-> ∃bp cd x,Z5o g o k=nT bp::P.d (gS x)::Zv cd/\Zx/\ ∀b,BX b bp cd x->bif b then∃rH Wd x,nT g::Z4O o::Zv k=nT rH::P.d (gS x)::Zv Wd/\Zx/\ ∀b,b=mJ (ar.s rH) Wd x->bif b then bif Z4M o g k then q8 ae else q8 ae else q8 ae else q8 ae)/\(Vq s-> ∀n,n=CR s-> ∃bp cd x,Z5o g o k=nT bp::P.d (gS x)::Zv cd/\Zx/\ ∀b,BX b bp cd x->bif b then∃rH Wd x,nT g::Z4O o::Zv k=nT rH::P.d (gS x)::Zv Wd/\Zx/\ ∀b,b=mJ (ar.s rH) Wd x->bif b then bif Z4M o g k then bif Z0 n then bif decide (n<=(2000:Int)) then∃bq a b c d e,P.d (Gh o)::P.d Z2::P.d Z2::P.d Z2::ZL::Rh=[P.d (Gh bq),fk a,fk b,fk c,fk d,fk e]/\Zx/\ ∀r,r=nc bq a b c d e->bif r then ae (P.d (Zt n),[]) else q8 ae else q8 ae else q8 ae else q8 ae else q8 ae else q8 ae) else bif bj.kind o==(4:Int) then∃bp cd x,Z5o g o k=nT bp::P.d (gS x)::Zv cd/\Zx/\ ∀b,BX b bp cd x->bif b then∃rH Wd l,nT g::P.d (D.sl 3 (List.map aL (bj.elems o)))::Zv k=nT rH::gR l::Zv Wd/\Zx/\dH l<=Zy/\ ∀b,b=u5 (ar.s rH) Wd l->bif b then Z5n ae (P.d (Gh o)::P.d Z2::P.d Z2::P.d Z2::P.d Z2::Ot) else q8 ae else q8 ae else q8 ae)=(aI [(187,V8),(188,yX),(185,qd6),(186,Gm),(189,Wc),(191,OO),(190,OB)] [] 141 [.d (bZ g),.d (eT o),iD k] []) ae:=by kernel_rfl
def qjE:a8:=λps R ae=> ∃g k o,ps=[.d (bZ g),.d (eT o),iD k]/\R=[]/\SmO o/\(kW g.s k o=none->ae (iD (-1),[]))/\(∀n,kW g.s k o=some n->ae (iD n,[]))
abbrev qgH(g:ar)(k i:Int):S:=⟨90,[(1,.ref 0 0 0),(3,iD k),(4,iD i)],gbR g⟩
def wH i:=[(4,Zm i)]
theorem Wf g k i ae:(bif decide (i<yW g) then ob (Z4W i g) (ob (bO PR (79:TypeId) (jS g i)) (∃bp cd o,nT g::Z56 g i::Zv k=nT bp::P.d (Gh o)::Zv cd/\Zx/\SmO o/\(kW (ar.s bp) cd o=none->ae (PX.ret,S.mk 90 Z4Y []))/\ ∀n,kW (ar.s bp) cd o=some n->bif Rb n then ae (PX.ret,S.mk 90 Z4Y []) else ob (Z4P k n) (ob (Zh i) (ae (PX.normal,S.mk 90 ((1,b9)::(3,P.d (D.int .i64 (k+n)))::wH i) (Gp g)))))) else ae (PX.exit 0,S.mk 90 [] []))=(aD [(141,qjE)] [] 94 11 (qgH g k i)) ae:=by kernel_rfl
def qjF:S->K (PX×S):=λst ae=> ∃g,st=qgH g 0 0/\(VZ g/\g.ops.length<=200)/\(jt g.s 0 g.ops=false->ae (.ret,⟨90,[(2,iD 80)],[]⟩))/\(jt g.s 0 g.ops=true->ae (.exit 0,⟨90,[],[]⟩))
def Ry:=[(4,P.d Z5)]
def Z5r bp:=S.mk 90 ((1,b9)::(3,P.d Z5)::Ry) (Gp bp)
theorem qjG g ae:(∃s,Rr g=oQ s/\Zx/\ ∀b,b=JA s->bif !b then Gn ae else bif decide (ar.n g<(1:Int)) then Gn ae else bif decide (ar.n g>(1099511627776:Int)) then Gn ae else∃v,[qd g]=ZR v/\Zx/\SK v/\ ∀b,b=cT v->bif !b then Gn ae else∃v r,[qd g,P.d (kc g)]=Zi v::Zv r/\Zx/\SK v/\ ∀n,n=eV v r->ob (Z4U g) (bif n !=ar.n g-(1:Int) then Gn ae else bif Z59 g then∃s,Z5b g=oQ s/\Zx/\ ∀b,b=JA s->bif !b then Gn ae else∃a b,Z5a g=P.d (D.agg [ni a,nf a])::oQ b/\Zx/\ ∀r,r=kA a b->bif !r then Gn ae else bif decide (yW g>(0:Int)) then Gn ae else Z6 ae else bif decide (yW g<(1:Int)) then Gn ae else bif decide (yW g>(200:Int)) then Gn ae else∃bp,Z5r g=Z5r bp/\Z5d bp ae))=(aI [(139,MG),(140,OM),(40,qbG),(53,Ec)] [(11,ah (aR 94 11) qjF)] 94 [.d (bZ g)] []) ae:=by kernel_rfl
section
variable{X:XF}
theorem qbQ:FD X 189 Wc:=FD.mk (by kernel_rfl) .nil (.cons Rx .nil) (by
 intro ps R ae hh;obtain⟨g,l,rfl,rfl,hl,hp⟩:=hh
 (rw[<-qbP];delta gb qe Z4E Z2 Z3 Zy eH rb nL nM qd sP kc kL CV Gp Z5 ZK b9 JJ Ed B5)
 refine⟨g,l,rfl,hl,λh=>hp _ ?_,λh=>hp _ ?_⟩
 ·rw[oC,h];rfl
 rw[oC,h,zaa,zaW,zbG];omega)
theorem Wg:FD X 191 OO:=FD.mk (by kernel_rfl) .nil (.cons MK .nil) (by
 intro ps R ae hh;obtain⟨g,k,l,rfl,rfl,hl,hp⟩:=hh
 (rw[<-Wb];delta dW kU uU Z2 Z3 Zy dH rb nL nM qd sP kc kL CV Gp Z5 ZW b9 dQ Zt ZF gR l7)
 simp only[zaa];refine⟨g,k,l,rfl,hl,λh=>hp _ ?_,λh=>aW (λh2=>hp _ ?_) λh2=>hp _ ?_⟩
 ·rw[u5,h];rfl
 ·rw[u5,h,zaW,zbG];omega
 rw[u5,h,zaW];exact(zaS (by omega)).symm)
theorem Wh{s k n o}(h:kW s k o=some n):fM o=true:=by
 unfold kW at h;split at h
 ·cases h
 rename_i hb;simpa using hb
theorem qjH:FD X 141 qjE:=FD.mk (by kernel_rfl)
  (.cons qbO (.cons Bf (.cons qgG (.cons V6 (.cons qbQ (.cons Wg (.cons qbB .nil))))))) .nil (by
 intro ps R ae hh;obtain⟨g,k,o,rfl,rfl,hs,h1,h2⟩:=hh
 (rw[<-qjD];delta ZL Ot dH dW gR Zt Z0 Vq yg yh yi Z4M BY CS BZ CT CU Z4O Vr sI KV Zy eH gb Ed yV My q8 Z5 Z6 Zx fk VK B0 B1 B2 B3 B4 wE wF wG yj Gh Z5m Z5n BX Zv Z4K nL nM kc kL nT Z5o ZO Vu Z2 Rh pU Z4I gj gk gy fQ fR gS Z4J Z4G)
 have ub:fM o=false->kW g.s k o=none:=λh=>by
  cases hh:kW g.s k o with
  |none=>rfl
  |some n=>rw[Wh hh] at h;cases h
 have u:fM o=true->kW g.s k o=_:=λh=>(kW.eq_1 g.s k o).trans (zan (by rw[h];simp));have kb:fM o=nc o (o.kind==0 ||o.kind==1) (o.kind==0) (o.kind==2) (o.kind==3) (o.kind==4):=rfl;refine iK (λe=> ?_) λe0=>iK (λe=> ?_) λe1=>iK (λe=> ?_) λe2=>iK (λe=> ?_) λe3=>iK (λe=> ?_) λe4=>h1 ?_
 ·rw[e] at kb;simp only[zap e] at u;have no: ¬(o.node=(g.s.1,g.s.2,k)/\mJ g.s k o.parent=true/\bX o.name=true)->kW g.s k o=none:=λh=>by
   cases hb:fM o with
   |false=>exact ub hb
   |true=>rw[u hb,zan h]
  rw[Ho o.node (g.s.1,g.s.2,k)];refine ay (λc1=>⟨g,k,o.parent,rfl,rfl,λb2 cP=>ay (λc2=>⟨o.name,rfl,rfl,λb3 tL=>ay (λc3=>⟨o,_,_,_,_,_,rfl,rfl,λr hr=>ay (λc4=>h2 _ ?_) λc4=>h1 (ub ?_)⟩) λc3=>h1 (no ?_)⟩) λc2=>h1 (no ?_)⟩) λc1=>h1 (no ?_)
  ·rw[u (by rw[kb,<-c4,hr];rfl),zap ⟨by simpa using c1,by rw[<-cP,c2],by rw[<-tL,c3]⟩]
  ·rw[kb,<-c4,hr];rfl
  ·exact λh=>by rw[h.2.2] at tL;rw[tL] at c3;cases c3
  ·exact λh=>by rw[h.2.1] at cP;rw[cP] at c2;cases c2
  exact λh=>by rw[h.1] at c1;simp at c1
 ·rw[e] at kb;simp only[zan e0,zap e] at u;have no: ¬(de g.s k o.node=true/\mJ g.s k o.parent=true/\bX o.name=true)->kW g.s k o=none:=λh=>by
   cases hb:fM o with
   |false=>exact ub hb
   |true=>rw[u hb,zan h]
  refine⟨g,k,o.node,rfl,rfl,λb1 la=>ay (λc1=>⟨g,k,o.parent,rfl,rfl,λb2 cP=>ay (λc2=>⟨o.name,rfl,rfl,λb3 tL=>ay (λc3=>⟨o,_,_,_,_,_,rfl,rfl,λr hr=>ay (λc4=>h2 _ ?_) λc4=>h1 (ub ?_)⟩) λc3=>h1 (no ?_)⟩) λc2=>h1 (no ?_)⟩) λc1=>h1 (no ?_)⟩
  ·rw[u (by rw[kb,<-c4,hr];rfl),zap ⟨by rw[<-la,c1],by rw[<-cP,c2],by rw[<-tL,c3]⟩]
  ·rw[kb,<-c4,hr];rfl
  ·exact λh=>by rw[h.2.2] at tL;rw[tL] at c3;cases c3
  ·exact λh=>by rw[h.2.1] at cP;rw[cP] at c2;cases c2
  exact λh=>by rw[h.1] at la;rw[la] at c1;cases c1
 ·rw[e] at kb;simp only[zan e0,zan e1,zap e] at u;have no: ¬(de g.s k o.node=true/\oC g.s o.cu=true)->kW g.s k o=none:=λh=>by
   cases hb:fM o with
   |false=>exact ub hb
   |true=>rw[u hb,zan h]
  refine⟨g,k,o.node,rfl,rfl,λb1 la=>ay (λc1=>⟨g,o.cu,rfl,rfl,hs.2.1,λb2 cP=>ay (λc2=>⟨o,_,_,_,_,_,rfl,rfl,λr hr=>ay (λc4=>h2 _ ?_) λc4=>h1 (ub ?_)⟩) λc2=>h1 (no ?_)⟩) λc1=>h1 (no ?_)⟩
  ·rw[u (by rw[kb,<-c4,hr];rfl),zap ⟨by rw[<-la,c1],by rw[<-cP,c2]⟩]
  ·rw[kb,<-c4,hr];rfl
  ·exact λh=>by rw[h.2] at cP;rw[cP] at c2;cases c2
  exact λh=>by rw[h.1] at la;rw[la] at c1;cases c1
 ·rw[e] at kb;simp only[zan e0,zan e1,zan e2,zap e] at u;have no: ¬(de g.s k o.node=true/\mJ g.s k o.after=true/\o.elem=(g.s.1,g.s.2,k)/\oD o.text=true)->kW g.s k o=none:=λh=>by
   cases hb:fM o with
   |false=>exact ub hb
   |true=>rw[u hb,zan h]
  refine⟨o.text,rfl,rfl,hs.1,λhv=> ?_,λhv n hn=> ?_⟩
  ·have hr:oD o.text=false:=by rw[oD,hv];rfl
   have bI:kW g.s k o=none:=no (λh=>by rw[h.2.2.2] at hr;cases hr);exact⟨g,k,o.node,rfl,rfl,λb2 cP=>ay (λc2=>⟨g,k,o.after,rfl,rfl,λb3 tL=>ay (λc3=>ay (λc4=>h1 bI) λc4=>h1 bI) λc3=>h1 bI⟩) λc2=>h1 bI⟩
  have hr:oD o.text=decide (1<=n/\n<=2000):=by rw[oD,hv,zaW,hn]
  rw[Ho o.elem (g.s.1,g.s.2,k)];refine⟨g,k,o.node,rfl,rfl,λb1 la=>ay (λc1=>⟨g,k,o.after,rfl,rfl,λb2 cP=>ay (λc2=>ay (λc3=>aW (λc5=>aW (λc6=>⟨o,_,_,_,_,_,rfl,rfl,λr hr=>ay (λc4=>h2 _ ?_) λc4=>h1 (ub ?_)⟩) λc6=>h1 (no ?_)) λc5=>h1 (no ?_)) λc3=>h1 (no ?_)) λc2=>h1 (no ?_)⟩) λc1=>h1 (no ?_)⟩
  next sv=>rw[u (by rw[kb,<-c4,hr];rfl),zap ⟨by rw[<-la,c1],by rw[<-cP,c2],by simpa using c3,by rw[sv];exact za0 ⟨c5,c6⟩⟩,hn]
  ·rw[kb,<-c4,hr];rfl
  ·exact λh=>by rw[hr] at h;exact c6 (zbC h.2.2.2).2
  ·exact λh=>by rw[hr] at h;exact c5 (zbC h.2.2.2).1
  ·exact λh=>by rw[h.2.2.1] at c3;simp at c3
  ·exact λh=>by rw[h.2.1] at cP;rw[cP] at c2;cases c2
  exact λh=>by rw[h.1] at la;rw[la] at c1;cases c1
 ·rw[e] at kb;simp only[zan e0,zan e1,zan e2,zan e3,zap e] at u;have no: ¬(de g.s k o.node=true/\u5 g.s k o.elems=true)->kW g.s k o=none:=λh=>by
   cases hb:fM o with
   |false=>exact ub hb
   |true=>rw[u hb,zan h]
  refine⟨g,k,o.node,rfl,rfl,λb1 la=>ay (λc1=>⟨g,k,o.elems,rfl,rfl,hs.2.2,λb2 cP=>ay (λc2=>⟨o,_,_,_,_,_,rfl,rfl,λr hr=>ay (λc4=>h2 _ ?_) λc4=>h1 (ub ?_)⟩) λc2=>h1 (no ?_)⟩) λc1=>h1 (no ?_)⟩
  ·rw[u (by rw[kb,<-c4,hr];rfl),zap ⟨by rw[<-la,c1],by rw[<-cP,c2]⟩]
  ·rw[kb,<-c4,hr];rfl
  ·exact λh=>by rw[h.2] at cP;rw[cP] at c2;cases c2
  exact λh=>by rw[h.1] at la;rw[la] at c1;cases c1
 cases hb:fM o with
 |false=>exact ub hb
 |true=>rw[u hb,zan e0,zan e1,zan e2,zan e3,zan e4])
theorem qbR:LD X 94 11 (ah (aR 94 11) qjF):=LD.idx (by kernel_rfl) (by kernel_rfl) (.cons qjH .nil) .nil
 (A:=ar) (B:=Int) (λg k i=>qgH g k i) (λg=>g.ops.length) (λg i k=>(VZ g/\g.ops.length<=200)/\(0<=k/\k<=2000000*i)/\jt g.s 0 g.ops=jt g.s k (g.ops.drop i))
 (λg x=>(jt g.s 0 g.ops=false/\x=(.ret,⟨90,[(2,iD 80)],[]⟩))\/(jt g.s 0 g.ops=true/\x=(.exit 0,⟨90,[],[]⟩)))
 (by
  rintro g k i ae h0 bJ bs ⟨hs,hk,he⟩ hn ho
  (rw[<-Wf];delta rb nL nM qd sP kc kL CV Gp Zl Zm wH b9 Z8 Z7 Zh Z4P Rb Z4Y Zx VK yg yh yi BY CS BZ CT CU yV B0 B1 B2 B3 B4 wE wF wG yj Gh Zt Zv Ze jS Z55 Z54 Z53 V1 V2 V3 Z56 nT yW Z4W)
  have e1:D.nth (g.ops.map eT) i.toNat=eT g.ops[i.toNat]:=az _ _ _ bs;rw[e1];simp only[zaa];have hd:g.ops.drop i.toNat=g.ops[i.toNat]::g.ops.drop (i.toNat+1):=za5 bs;have SL:=hs.1.1 _ (zas bs);have KT:=hs.2;rw[hd] at he;generalize g.ops[i.toNat]=o at he SL;refine Ee bJ (bh ⟨h0,bJ⟩ (aq (MI _) ⟨g,k,o,rfl,rfl,SL,λh=> ?_,λn h=> ?_⟩))
  ·refine ho _ (λh=>by cases h) (.inl ⟨?_,rfl⟩);rw[he,jt,h]
  have:=V7 h SL.1;refine aW (λh=>by omega) λ_=>bh (by omega) (bh (by omega) (hn (k+n) ⟨hs,by omega,?_⟩));rw[he,jt,h])
 (by
  rintro g k i ae hi ⟨hs,hk,he⟩ ho
  (rw[<-Wf];delta rb nL nM qd sP kc kL CV Gp Zl Zm wH b9 Z8 Z7 Zh Z4P Rb Z4Y Zx VK yg yh yi BY CS BZ CT CU yV B0 B1 B2 B3 B4 wE wF wG yj Gh Zt Zv Ze jS Z55 Z54 Z53 V1 V2 V3 Z56 nT yW Z4W)
  simp only[zaa];refine aW (λh=>by omega) λh=>ho _ (λh=>by cases h) (.inr ⟨?_,rfl⟩);rw[he,zct];rfl)
 (by
  rintro s ae ⟨g,rfl,hs,h1,h2⟩;refine⟨g,0,rfl,⟨hs,by omega,rfl⟩,?_⟩;rintro x (⟨h,rfl⟩| ⟨h,rfl⟩)
  ·exact h1 h
  exact h2 h)
theorem qgI:FD X 94 qbI:=FD.mk (by kernel_rfl) (.cons VR (.cons qgB (.cons qgC (.cons Bd .nil)))) (.cons qbR .nil) (by
 intro ps R ae hh;obtain⟨g,rfl,rfl,hs,hp⟩:=hh
 (rw[<-qjG];delta Z5 Z6 Gn Z5d rb nL nM qd sP kc kL CV Gp Ry b9 Z5r yW nf ni Rr Z5a Z5b Z59 Z8 Z7 Z4U Zt Zv Zi SK ZR Zx oQ)
 have bI:cA g=false->ae (.d (.int .i64 80),[]):=λh=>hp _ (by rw[h];rfl);have oc:cA g=true->ae (.d (.int .i64 0),[]):=λh=>hp _ (by rw[h];rfl);have u:=cA.eq_1 g;have no1:hdG g=false->cA g=false:=λh=>by rw[u,h];rfl
 have v:=hdG.eq_1 g;rw[VN g.dZ (0,0)];simp only[zaa];refine⟨g.s,rfl,rfl,λb hb=>ay (λc1=>bI (no1 ?_)) λc1=>aW (λc2=>bI (no1 ?_)) λc2=>aW (λc3=>bI (no1 ?_)) λc3=>⟨g.deps,rfl,rfl,hs.2.2,λb2 cP=>ay (λc4=>bI (no1 ?_)) λc4=>⟨g.deps,g.s.2,rfl,rfl,hs.2.2,λn hn=>bh (by omega) (Jh (λc5=>bI (no1 ?_)) λc5=> ?_)⟩⟩⟩
 ·rw[v,<-hb,show b=false by simpa using c1];rfl
 ·rw[v,zaS (by omega)];simp
 ·rw[v,zaS (by omega)];simp
 ·rw[v,<-cP,show b2=false by simpa using c4];simp
 ·rw[v,<-hn,show(n==g.n-1)=false by simpa using c5];simp
 rw[v,<-hb,show b=true by simpa using c1,<-cP,show b2=true by simpa using c4,<-hn,show(n==g.n-1)=true by simpa using c5,za0 (by omega),zaW,zaW,zaW,zaW] at u;refine ay (λc2=>⟨g.dZ,rfl,rfl,λb2 cP=>ay (λc3=>bI ?_) λc3=>⟨g.dZ,g.s,rfl,rfl,λc hc=>ay (λc4=>bI ?_) λc4=>aW (λc5=>bI ?_) λc5=>oc ?_⟩⟩) λc2=>aW (λc3=>bI ?_) λc3=>aW (λc4=>bI ?_) λc4=>⟨g,rfl,⟨hs,by omega⟩,λh=>bI ?_,λh=>oc ?_⟩
 ·rw[zap (by simpa using c2),<-cP,show b2=false by simpa using c3] at u;rw[u];rfl
 ·rw[zap (by simpa using c2),<-hc,show c=false by simpa using c4] at u;rw[u];simp
 ·rw[zap (by simpa using c2)] at u;rw[u,show(g.ops.length==0)=false by rw[zcc];omega];simp
 ·rw[zap (by simpa using c2),<-cP,show b2=true by simpa using c3,<-hc,show c=true by simpa using c4,show(g.ops.length==0)=true by rw[za1];omega] at u;rw[u];rfl
 ·rw[zan (by simpa using c2),zaS (by omega)] at u;rw[u];rfl
 ·rw[zan (by simpa using c2),zaS (by omega)] at u;rw[u];rfl
 ·rw[zan (by simpa using c2),h] at u;rw[u];simp
 rw[zan (by simpa using c2),h,za0 (by omega)] at u;rw[u];rfl)
end
abbrev Hd:=aF×aF
theorem mg:Jw (λa b:aF=>kA a b) where
 IV x:=by simp[tM]
 tr x y z:=by simp only[tM,zah];omega
 rU x y:=by
  simp only[tM,zaP];intro h1 h2;obtain⟨a,b⟩:=x;obtain⟨c,d⟩:=y;simp only at h1 h2;have:a=c:=by omega
  have:b=d:=by omega
  subst_vars
  rfl
def K0(o:List Hd) h:=if(o.any λx=>x.1==h.1)=true then o else o++[h]
def r3(l:List Hd):=l.foldl K0 []
theorem Rz{o} h (ho:(o.map (·.1)).Nodup):((K0 o h).map (·.1)).Nodup:=by
 unfold K0;split
 ·exact ho
 rename_i hn;rw[zaC,zaR];refine⟨ho,by simp,λa ha b hb e=> ?_⟩;simp at hb;subst hb;subst e;obtain⟨x,hx,he⟩:=zaq.1 ha;exact hn (za3.2 ⟨x,hx,by simpa using he⟩)
theorem Eg: ∀(l o:List Hd),(o.map (·.1)).Nodup->((l.foldl K0 o).map (·.1)).Nodup
 | [],_,h=>h
 |x::r,_,h=>Eg r _ (Rz x h)
theorem Eh l:((r3 l).map (·.1)).Nodup:=Eg l [] (by simp)
theorem qbS o h:(K0 o h).length<=o.length+1:=by
 unfold K0;split
 ·omega
 simp
theorem OP: ∀(l o:List Hd),(l.foldl K0 o).length<=o.length+l.length
 | [],_=>by simp
 |x::r,o=>by have:=OP r (K0 o x);have:=qbS o x;simp only[zaO,zao];omega
theorem rI l:(r3 l).length<=l.length:=by simpa [r3] using OP l []
theorem OQ: ∀(l o:List Hd),((o++l).map (·.1)).Nodup->l.foldl K0 o=o++l
 | [],o,_=>by simp
 |x::r,o,h=>by
  have e:K0 o x=o++[x]:=by unfold K0;rw[zan];intro hx;obtain⟨y,hy,he⟩:=za3.1 hx;rw[zaC,zaR] at h;exact h.2.2 y.1 (zaU hy) x.1 (by simp) (by simpa using he)
  rw[zaO,e,OQ r (o++[x]) (by simpa using h)];simp
theorem qbT{l}(h:(l.map (·.1)).Nodup):r3 l=l:=by unfold r3;rw[OQ l [] (by simpa using h)];rfl
def ltH(a b:Hd):=kA a.1 b.1
def oE l:=bT ltH (r3 l)
theorem u7{α β:Type}{f:α->β}: ∀{l:List α},(l.map f).Nodup-> ∀x∈l,∀y∈l,f x=f y->x=y
 | [],_,x,hx,_,_,_=>by cases hx
 |a::r,h,x,hx,y,hy,e=>by
  rw[za4,za9] at h;rcases zat.1 hx with Co |Co
  ·rcases zat.1 hy with Cp |Cp
   ·rw[Co,Cp]
   exact absurd (zaq.2 ⟨y,Cp,by rw[<-e,Co]⟩) h.1
  rcases zat.1 hy with Cp |Cp
  ·exact absurd (zaq.2 ⟨x,Co,by rw[e,Cp]⟩) h.1
  exact u7 h.2 x Co y Cp e
theorem OR{l a}(hp:a.Perm (r3 l))(ha:a.Pairwise λx y=>ltH y x=false):a=oE l:=
 pD mg (λa:Hd=>a.1) (λx hx y hy e=>u7 (Eh l) x (hp.mem_iff.1 hx) y (hp.mem_iff.1 hy) e) (hp.trans (bR _).symm) ha (rG mg (λa:Hd=>a.1) _)
theorem JL l:(oE l).length<=l.length:=by unfold oE;rw[(bR _).length_eq];exact rI l
def yY(on:List Hd) h:=if(on.any λx=>x.2==h.1)=true then on else on++[h]
def yZ(l on:List Hd):=l.foldl yY on
def Ei l:=((yZ (oE l).reverse []).map (·.1)).reverse
theorem qbU o h:(yY o h).length<=o.length+1:=by
 unfold yY;split
 ·omega
 simp
theorem u9: ∀l o,(yZ l o).length<=o.length+l.length
 | [],_=>by simp[yZ]
 |x::r,o=>by
  have:=u9 r (yY o x);have:=qbU o x;simp only[yZ,zaO,zao] at*
  omega
theorem Gq l:(Ei l).length<=l.length:=by unfold Ei;have h1:=u9 (oE l).reverse [];have h2:=JL l;simp at h1⊢;omega
def kX o g:=if cA g=true/\(o.any λx=>x.s==g.s)=false then o++[g] else o
def aJ(l:List ar):=l.foldl kX []
def j9(g:ar):Hd:=(g.s,g.dZ)
theorem Wi o g:(kX o g).length<=o.length+1:=by
 unfold kX;split
 ·simp
 omega
theorem JM: ∀(l o:List ar),(l.foldl kX o).length<=o.length+l.length
 | [],_=>by simp
 |x::r,o=>by have:=JM r (kX o x);have:=Wi o x;simp only[zaO,zao];omega
theorem mh l:(aJ l).length<=l.length:=by simpa [aJ] using JM l []
theorem JN l g:aJ (l++[g])=kX (aJ l) g:=by simp[aJ]
theorem Wj{P:ar->Prop}(hP: ∀g,cA g=true->P g): ∀(l o:List ar),(∀g∈o,P g)-> ∀g∈l.foldl kX o,P g
 | [],_,h=>h
 |x::r,o,h=>by
  refine Wj hP r _ ?_;intro g hg;unfold kX at hg;split at hg
  next hx=>
   rcases zaz.1 hg with hg |hg
   ·exact h g hg
   simp at hg;subst hg;exact hP _ hx.1
  exact h g hg
theorem Bg{l}: ∀g∈aJ l,cA g=true:=Wj (P:=λg=>cA g=true) (λ_ h=>h) l [] (λ_ h=>by cases h)
theorem Bh: ∀(l o:List ar),(o.map (·.s)).Nodup->((l.foldl kX o).map (·.s)).Nodup
 | [],_,h=>h
 |x::r,o,h=>by
  refine Bh r _ ?_;unfold kX;split
  next hx=>rw[zaC,zaR];refine⟨h,by simp,λa ha b hb e=> ?_⟩;simp at hb;subst hb;subst e;obtain⟨y,hy,he⟩:=zaq.1 ha;have:=hx.2;rw[zcm] at this;exact this y hy (by simpa using he)
  exact h
theorem Gr l:((aJ l).map (·.s)).Nodup:=Bh l [] (by simp)
theorem JO: ∀(l o:List ar),(∀g∈l,cA g=true)->((o++l).map (·.s)).Nodup->l.foldl kX o=o++l
 | [],o,_,_=>by simp
 |x::r,o,hc,h=>by
  have e:kX o x=o++[x]:=by unfold kX;rw[zap];refine⟨hc x (.head _),?_⟩;rw[zcm];intro y hy he;rw[zaC,zaR] at h;exact h.2.2 y.s (zaU hy) x.s (by simp) (by simpa using he)
  rw[zaO,e,JO r (o++[x]) (λg hg=>hc g (.tail _ hg)) (by simpa using h)];simp
theorem pG{l}(hc: ∀g∈l,cA g=true)(h:(l.map (·.s)).Nodup):aJ l=l:=by unfold aJ;rw[JO l [] hc (by simpa using h)];rfl
def mxS r m (g:ar):=if g.s.2=r then max m g.n else m
def mxN(l:List ar) r:=l.foldl (mxS r) 0
theorem Wk{r B}: ∀(l:List ar) (m:Int),m<=B->(∀g∈l,g.n<=B)->l.foldl (mxS r) m<=B
 | [],_,h,_=>h
 |g::t,m,h,hl=>by
  refine Wk t _ ?_ λx hx=>hl x (.tail _ hx);have:=hl g (.head _);unfold mxS;split
  ·omega
  exact h
theorem Wl{r}: ∀(l:List ar) (m:Int),m<=l.foldl (mxS r) m/\ ∀g∈l,g.s.2=r->g.n<=l.foldl (mxS r) m
 | [],m=>⟨zbF _,λ_ h=>by cases h⟩
 |g::t,m=>by
  obtain⟨h1,h2⟩:=Wl (r:=r) t (mxS r m g);have h3:m<=mxS r m g/\(g.s.2=r->g.n<=mxS r m g):=by
   unfold mxS;split
   ·exact⟨by omega,λ_=>by omega⟩
   rename_i h;exact⟨zbF _,λe=>absurd e h⟩
  refine⟨Int.le_trans h3.1 h1,λx hx hr=> ?_⟩;rcases zat.1 hx with rfl |hx
  ·exact Int.le_trans (h3.2 hr) h1
  exact h2 x hx hr
theorem ML l r:0<=mxN l r:=(Wl (r:=r) l 0).1
def gE(l:List ar):=l.foldl (λt g=>max t g.s.1) 0
theorem Wm l g:gE (l++[g])=max (gE l) g.s.1:=by simp[gE]
theorem Wn{B}(hB:0<=B): ∀l,(∀g∈l,g.s.1<=B)->gE l<=B:=by
 intro l h;have key: ∀(l:List ar) (m:Int),m<=B->(∀g∈l,g.s.1<=B)->l.foldl (λt g=>max t g.s.1) m<=B:=by
  intro l
  induction l with
  |nil=>intro m h _;exact h
  |cons g t ih=>intro m h hl;refine ih _ ?_ λx hx=>hl x (.tail _ hx);have:=hl g (.head _);show max m g.s.1<=B;omega
 exact key l 0 hB h
theorem pH l:0<=gE l/\ ∀g∈l,g.s.1<=gE l:=by
 have key: ∀(l:List ar) (m:Int),m<=l.foldl (λt g=>max t g.s.1) m/\ ∀g∈l,g.s.1<=l.foldl (λt g=>max t g.s.1) m:=by
  intro l
  induction l with
  |nil=>intro m;exact⟨zbF _,λ_ h=>by cases h⟩
  |cons g t ih=>
   intro m;obtain⟨h1,h2⟩:=ih (max m g.s.1);refine⟨by simp only[zaO];omega,λx hx=> ?_⟩;simp only[zaO];rcases zat.1 hx with rfl |hx
   ·omega
   exact h2 x hx
 exact key l 0
def qd7(l:List ar)(r:Int):Int:=if ¬(1<=r/\r<=16) then 1 else if max (gE l+1) (mxN l r+1)>1099511627776 then 2 else 0
def c8 l:=Ei ((aJ l).map j9)
noncomputable def cC H HN hk f id s:=
 zw (FQ PR (runK PR sH rE H 60 60) HN (aR f) hk (rE f) (bA PR f id)) (aR f id) s
noncomputable def gB H HN hk (f:Nat) ps R:=
 qdU PR (runK PR sH rE H 60 60) HN sH hk rE f ps R
def ND w0 (f:Nat) h:=KU PR w0 f h
def LN w0 (f id:Nat)(g:S->K (PX×S)):= ∀(val:Nat->Value) (lo:Nat) (mk:Bool) s ae,g s ae->TW PR ⟨val,w0,lo,mk⟩ (.loop (bA PR f id)) s ae
def LNT w0 (f id:Nat)(g:S->K (PX×S)):= ∀(val:Nat->Value) (lo:Nat) s ae,g s ae->TW PR ⟨val,w0,lo,true⟩ (.loop (bA PR f id)) s ae
def FN w0 (f id:Nat)(g:S->K (PX×S)):= ∀(val:Nat->Value) (lo:Nat) s ae,g s ae->TW PR ⟨val,w0,lo,true⟩ (nI PR f id).code s ae
theorem LN.T{w0 f id g}(h:LN w0 f id g):LNT w0 f id g:=λval lo s ae hp=>h val lo true s ae hp
inductive OS(w0:World):List (FuncId×a8)->Prop
 |nil:OS w0 []
 |cons {f:Nat} {h:a8} {r:List (FuncId×a8)} (hf:ND w0 f h) (hr:OS w0 r):OS w0 ((f,h)::r)
theorem OS.get{w0 HN}(h:OS w0 HN): ∀f g,lk HN f=some g->KU PR w0 f g:=by
 induction h with
 |nil=>intro f g h;cases h
 | @cons f' h' r hf hr ih=>
  intro f g h;unfold lk at h;split at h
  next he=>cases h;rw[<-zag he];exact hf
  exact ih f g h
inductive LNs(w0:World)(f:Nat):List (Nat×(S->K (PX×S)))->Prop
 |nil:LNs w0 f []
 |cons {id:Nat} {g:S->K (PX×S)} {r:List (Nat×(S->K (PX×S)))} (h:LN w0 f id g) (hr:LNs w0 f r):LNs w0 f ((id,g)::r)
theorem LNs.get{w0 f hk}(h:LNs w0 f hk): ∀id g,lk hk id=some g->LN w0 f id g:=by
 induction h with
 |nil=>intro f g h;cases h
 | @cons f' h' r hf hr ih=>
  intro f g h;unfold lk at h;split at h
  next he=>cases h;rw[<-zag he];exact hf
  exact ih f g h
inductive HKs(w0:World)(f:Nat):List (Nat×(S->K (PX×S)))->Prop
 |nil:HKs w0 f []
 |loop {id:Nat} {g:S->K (PX×S)} {r:List (Nat×(S->K (PX×S)))} (hid:id<500000) (h:LNT w0 f id g) (hr:HKs w0 f r):HKs w0 f ((id,g)::r)
 |range {id:Nat} {g:S->K (PX×S)} {r:List (Nat×(S->K (PX×S)))} (h:FN w0 f id g) (hr:HKs w0 f r):HKs w0 f ((500000+id,g)::r)
theorem HKs.loops{w0 f hk}(h:HKs w0 f hk): ∀id g,id<500000->lk hk id=some g->LNT w0 f id g:=by
 induction h with
 |nil=>intro id g _ h;cases h
 | @loop qA g' r qnI h hr ih=>
  intro id g hid hg;unfold lk at hg;split at hg
  next he=>cases hg;rw[<-zag he];exact h
  exact ih id g hid hg
 | @range qA g' r h hr ih=>
  intro id g hid hg;unfold lk at hg;split at hg
  next he=>have:=zag he;omega
  exact ih id g hid hg
theorem HKs.ranges{w0 f hk}(h:HKs w0 f hk): ∀id g,lk hk (500000+id)=some g->FN w0 f id g:=by
 induction h with
 |nil=>intro id g h;cases h
 | @loop qA g' r qnI h hr ih=>
  intro id g hg;unfold lk at hg;split at hg
  next he=>have:=zag he;omega
  exact ih id g hg
 | @range qA g' r h hr ih=>
  intro id g hg;unfold lk at hg;split at hg
  next he=>
   cases hg;have:=zag he;have e:qA=id:=by omega
   rw[<-e];exact h
  exact ih id g hg
theorem Bi{X H}(hH:HD X H):yd (runK PR sH rE H 60 60) (fj PR (Oh X)):=by have:=yL (lf:=60) (lh Q7) hH 60;rw[FM PR aR xsT X.cf (λ_ _ _=>none) rE H 60 60] at this;exact this
theorem ND.mk{X w0}(hX:cz PR w0 X.cf){H HN hk}{f:Nat}{h}(hdr:PR.follows .mixedOrders=true)(hu:uniq PR f=true)(huR:AB PR f=true)(hH:HD X H)(nO:OS w0 HN)(hl:HKs w0 f hk)
  (hb: ∀ps R ae,h ps R ae->gB H HN hk f ps R ae):ND w0 f h:=
 KU.mk (kp:=Oh X) nO.get (Bi hH) hX hdr Q7 hu huR hl.loops hl.ranges (λps R ae hp=>hb ps R ae hp)
theorem LN.par{X w0}(hX:cz PR w0 X.cf){H HN hk}{f id:Nat}{g}(hdr:PR.follows .mixedOrders=true)(hu:uniq PR f=true)(hc:cj (rE f) (bA PR f id)=true)(hnr:(bW (bA PR f id)).isEmpty=true)(hH:HD X H)(nO:OS w0 HN)(hl:LNs w0 f hk)
  {A B:Type} (hd:A->B->S) (Inv:A->B->Prop) (mu:A->B->Nat) (Out:A->PX×S->Prop)
  (hr: ∀a b,Inv a b->cC H HN hk f id (hd a b) (roundPost (mu a b) (λm s=> ∃b',s=hd a b'/\Inv a b'/\m=mu a b') (Out a)))
  (hg: ∀s ae,g s ae-> ∃a b,s=hd a b/\Inv a b/\ ∀x,Out a x->ae x):LN w0 f id (ah (aR f id) g):=by
 intro val lo mk s ae hp;unfold ah at hp;cases hh:cG (aR f id) s with
 |none=>simp only[hh] at hp
 |some s0=>
  simp only[hh] at hp;obtain⟨a,b,rfl,h1,h2⟩:=hg s0 ae hp;refine TW.mono (TW.loop (keep:=aR f id) (I:=λm s=> ∃b',s=hd a b'/\Inv a b'/\m=mu a b') (O:=Out a) (λn s hs=> ?_) hh ⟨b,rfl,h1,rfl⟩) h2;obtain⟨b',rfl,h3,rfl⟩:=hs;have:=hr a b' h3;unfold cC at this;refine TW.mono (rC (kp:=Oh X) (T:=⟨val,w0,lo,mk⟩) nO.get (Bi hH) hX hdr (kp1:=aR f) (bA PR f id) hc (λd hd h hh s ae hp=>by have:=hl.get _ _ hh val lo mk s ae hp;rwa [wi hu hd] at this) (λx hx=>by rw[zbZ.1 hnr] at hx;cases hx) _ _ this) ?_;rintro⟨e,s1⟩ hx;cases e with
  |normal=>obtain⟨s2,h4,m,h5,h6⟩:=KW.dU (p:=λs2=>cG (aR f id) s1=some s2) (λ_ h=>h) _ hx;exact⟨s2,h4,m,h5,h6⟩
  |exit i=>obtain⟨s2,h4,h5⟩:=KW.dU (p:=λs2=>dL (aR f id) s1=some s2) (λ_ h=>h) _ hx;exact⟨s2,h4,h5⟩
  |ret=>obtain⟨s2,h4,h5⟩:=KW.dU (p:=λs2=>dL (aR f id) s1=some s2) (λ_ h=>h) _ hx;exact⟨s2,h4,h5⟩
def tS(g:FuncId)(cf:D->D->Int)(ty:TypeId):a8:=λps R ae=> ∃es,ps=[.sl 0 0 es.length,.fn g []]/\R=[(0,⟨0,some 0,.arr ty false es⟩)]/\mW PR sH g es cf/\
 ∀dh:List D,dh.Perm es->dh.Pairwise (λa b=> ¬cf b a<0)->ae (.dz [],[(0,⟨0,some 0,.arr ty false dh⟩)])
theorem iP{g cf ty ps}{R ae}(h:tS g cf ty ps R ae):qdR PR sH ty ps R ae:=by obtain⟨es,rfl,rfl,hc,hp⟩:=h;exact⟨0,g,⟨0,some 0,.arr ty false es⟩,es,cf,rfl,rfl,rfl,hc,λdh h1 h2=>hp dh h1 h2⟩
def Gs{α β:Type}(g:FuncId)(ty:TypeId)(enc:α->D)(key:α->β)(lt:β->β->Bool):a8:=λps R ae=> ∃l:List α,ps=[.sl 0 0 l.length,.fn g []]/\R=[(0,⟨0,some 0,.arr ty false (l.map enc)⟩)]/\l.length<=1000000/\
 ∀l':List α,l'.Perm l->l'.Pairwise (λa b=>lt (key b) (key a)=false)->ae (.dz [],[(0,⟨0,some 0,.arr ty false (l'.map enc)⟩)])
theorem qgJ{α β:Type} f (g:β->α)(hg: ∀x,g (f x)=x){l l'}(h:l'.Perm (l.map f)): ∃l2:List α,l'=l2.map f/\l2.Perm l:=by
 refine⟨l'.map g,?_,?_⟩
 ·rw[zb3];refine(zcM l').symm.trans (zbu λb hb=> ?_);obtain⟨a,_,rfl⟩:=zaq.1 (h.mem_iff.1 hb);simp[hg]
 have:=h.map g;rw[zb3] at this;rwa [show(g∘f)=id from funext hg,zcM] at this
theorem Gt{X}{f g:FuncId}{ty}{α β:Type}{enc}{dec:D->α}{key:α->β}{lt}{c:α->α->Int}(ho: ∀cf,FD X f (tS g cf ty))(hde: ∀x,dec (enc x)=x)(hL:Jw lt)
  (hc: ∀x y,c x y<0↔lt (key x) (key y)=true) (KP: ∀x,∃cs,enc x= .agg cs) (hfc: ∀x y,CH PR sH g (enc x) (enc y) (c x y)) (gC: ∃fn,PR.funcs[g]?=some fn/\fn.body.isSome=true/\(fn.name== "runtime.NumGoroutine")=false):
  FD X f (Gs g ty enc key lt):=by
 intro ps R ae hh;obtain⟨l,rfl,rfl,hl,hp⟩:=hh;have bK: ∀x y,c (dec (enc x)) (dec (enc y))<0↔lt (key x) (key y)=true:=λx y=>by rw[hde,hde];exact hc x y
 refine ho (λa b=>c (dec a) (dec b)) _ _ ae ⟨l.map enc,by rw[zaa],rfl,?_,λdh h1 h2=> ?_⟩
 ·exact {
   fn:=gC
   ag:=λd hd=>by obtain⟨x,_,rfl⟩:=zaq.1 hd;exact KP x
   len:=by simp;omega
   run:=λa ha b hb=>by obtain⟨x,_,rfl⟩:=zaq.1 ha;obtain⟨y,_,rfl⟩:=zaq.1 hb;rw[hde,hde];exact hfc x y
   IV:=λa ha=>by obtain⟨x,_,rfl⟩:=zaq.1 ha;rw[bK,hL.IV];simp
   tr:=λa ha b hb d hd=>by obtain⟨x,_,rfl⟩:=zaq.1 ha;obtain⟨y,_,rfl⟩:=zaq.1 hb;obtain⟨z,_,rfl⟩:=zaq.1 hd;rw[bK,bK,bK];exact hL.tr _ _ _
   ntr:=λa ha b hb d hd=>by obtain⟨x,_,rfl⟩:=zaq.1 ha;obtain⟨y,_,rfl⟩:=zaq.1 hb;obtain⟨z,_,rfl⟩:=zaq.1 hd;rw[bK,bK,bK];intro h1 h2;simpa using hL.ntr (by simpa using h1) (by simpa using h2)}
 obtain⟨l2,rfl,h3⟩:=qgJ enc dec hde h1;rw[zbe] at h2;exact hp l2 h3 (h2.imp λ{a b} h=>by rw[bK] at h;simpa using h)
def cM(U:List aF)(d:D):=match d with
 | .agg [.int .i64 a,.int .i64 b]=>if U.count (a,b)=0 then none else some (iE (U.count (a,b):Int))
 |_=>none
theorem qd8 U x:cM U (bC x)=if U.count x=0 then none else some (iE (U.count x:Int)):=rfl
theorem MN:cM []=λ_=>none:=by
 funext d;unfold cM;split
 ·simp
 rfl
theorem wI U x:aQ (cM U (bC x)) (iE 0)=iE (U.count x:Int):=by
 rw[qd8];split
 next h=>rw[h];rfl
 rfl
theorem OT U x:aX (bC x) (iE ((U.count x:Int)+1)) (cM U)=cM (x::U):=by
 funext d;unfold aX;cases hd:D.gH (bC x) d with
 |true=>have:=(D.bS _ _).1 hd;subst this;simp only[zbY];rw[qd8,zbP,zan (by omega)];simp
 |false=>
  have cO:bC x≠d:=λe=>by rw[(D.bS _ _).2 e] at hd;cases hd
  simp only[zbl];unfold cM;split
  next a b=>have:x≠(a,b):=λe=>cO (by rw[e];rfl);rw[zcY this]
  rfl
theorem MO U x z:(λk'=>bif D.gH (bC x) k' then some (iE ((U.count x:Int)+1)) else aX (bC x) z (cM U) k')=cM (x::U):=by rw[<-OT];funext d;unfold aX;cases D.gH (bC x) d<;>rfl
theorem Ej k v u f:aX k v (aX k u f)=aX k v f:=by funext d;unfold aX;cases D.gH k d<;>rfl
theorem OU U x z:aX (bC x) (.int .i64 ((U.count x:Int)+1)) (aX (bC x) z (cM U))=cM (x::U):=by rw[Ej];exact OT U x
abbrev pW(z:Bool)(l:List ar):Obj:= .arr 31 z (l.map bZ)
abbrev mpS(f:D->Option D)(c:Int):Obj:= .map 27 f c false
def CW(l:List ar):=l.length<=1000000/\ ∀g∈l,VZ g
def qjI:a8:=λps R ae=> ∃l,ps=[dw l]/\R=[]/\CW l/\ ∀m,m=aJ l->ae (.sl 0 0 m.length,[(0,⟨0,none,pW false m⟩)])
def iQ(m:List ar) s:=yf (λg=>g.s==s) m
def Wo:a8:=λps R ae=> ∃m s,ps=[.sl 0 0 m.length,.d (bC s)]/\R=[(0,⟨0,some 0,pW false m⟩)]/\m.length<=1000000/\ ∀i,i=iQ m s->ae (iD i,[(0,⟨0,some 0,pW false m⟩)])
abbrev fdH(m:List ar)(s:aF)(i:Int):S:=⟨20,[(0,.sl 0 0 m.length),(3,.ref 1 0 0),(5,iD i)],[(0,⟨0,some 0,pW false m⟩),(1,⟨0,none,.box 27 [iD s.1,iD s.2]⟩)]⟩
def Z5J s:=En.mk 0 none (Obj.box (27:TypeId) [P.d (ni s),P.d (nf s)])
def K1 s:=[(1,Z5J s)]
def tT m:=Obj.arr (31:TypeId) false (List.map bZ m)
def je:=P.ref 1 0 0
def rJ:=(3,je)
def Wp m:=[(0,En.mk 0 (some 0) (tT m))]
def oR i:=(4,P.d (Zt i))
def CX i:=[oR i]
def fS(m:List ar):=List.length m
def rK m:=P.sl 0 0 (fS m)
def qm m:=(0,rK m)
def ln m i:=D.nth (List.map bZ m) (Ze i)
def Z5A m i (s:aF):=D.aj (D.au (ln m i) 0)==Prod.fst s&&(D.aj (D.au (ln m i) 1)==Prod.snd s&&true)
noncomputable def iY m i:=bO PR (31:TypeId) (ln m i)
def iu m:=List.length (List.map bZ m)
def B6 i m:=decide (Ze i<iu m)
def r4 m:=(↑(fS m):Int)
def B7 i m:=decide ((0:Int)<=i/\i<r4 m)
def SM i m:=decide (i<r4 m)
theorem qd9 m s i ae:(bif SM i m then ob (B7 i m) (ob (B6 i m) (ob (iY m i) (bif Z5A m i s then ae (PX.ret,S.mk 20 (qm m::CX i) (Wp m)) else ob (Zh i) (ae (PX.normal,S.mk 20 (qm m::rJ::Zn i) ((0,En.mk 0 (some 0) (tT m))::K1 s)))))) else ae (PX.exit 0,S.mk 20 [qm m] (Wp m)))=(aD [] [] 16 2 (fdH m s i)) ae:=by kernel_rfl
def gFd:S->K (PX×S):=λst ae=> ∃m s,st=fdH m s 0/\m.length<=1000000/\(∀i,i=iQ m s->0<=i->ae (.ret,⟨20,[(0,.sl 0 0 m.length),(4,iD i)],[(0,⟨0,some 0,pW false m⟩)]⟩))/\(iQ m s= -1->ae (.exit 0,⟨20,[(0,.sl 0 0 m.length)],[(0,⟨0,some 0,pW false m⟩)]⟩))
def mM cg:=fS cg<=1000000
def Z5L cg iW:=S.mk 20 (qm cg::rJ::ZK) ((0,En.mk 0 (some 0) (tT cg))::K1 iW)
theorem qnJ m s ae:(∃cg iW,Z5L m s=Z5L cg iW/\mM cg/\(∀i,i=iQ cg iW->(0:Int)<=i->ae (P.d (Zt i),Wp cg))/\(iQ cg iW=(-1:Int)->ae (My,Wp cg)))=(aI [] [(2,ah (aR 16 2) gFd)] 16 [.sl 0 0 m.length,.d (bC s)] [(0,⟨0,some 0,pW false m⟩)]) ae:=by kernel_rfl
abbrev qbV(l out:List ar)(i:Int):S:=⟨35,[(0,dw l),(3,.sl 0 0 out.length),(4,iD i)],[(0,⟨0,none,pW false out⟩)]⟩
def RA m:=[(0,En.mk 0 none (tT m))]
def gF l:=P.d (D.sl 7 (List.map bZ l))
def gl l:=(0,gF l)
def Bj l i:=D.int .i64 (D.aj (D.au (ln l i) 1))
def Bk l i:=D.int .i64 (D.aj (D.au (ln l i) 0))
def OV l i:=D.agg [Bk l i,Bj l i,D.int .i64 (D.aj (D.au (ln l i) 2)),D.sl 1 (D.gW (D.au (ln l i) 3)),D.int .i64 (D.aj (D.au (ln l i) 4)),D.int .i64 (D.aj (D.au (ln l i) 5)),D.sl 18 (D.gW (D.au (ln l i) 6))]
def SN out l i:=fS out+List.length [OV l i]
def Ek l i:=D.agg [Bk l i,Bj l i]
def qn i l:=decide ((0:Int)<=i/\i<(↑(iu l):Int))
def Bl i l:=decide (i<(↑(iu l):Int))
theorem qea l out i ae:(bif Bl i l then ob (qn i l) (ob (iY l i) (∃g,[P.d (OV l i)]=[nT g]/\Zx/\VZ g/\ ∀e,(e=if cA g=true then(0:Int) else(80:Int))->bif e==(0:Int) then ob (qn i l) (ob (iY l i) (∃m s,[rK out,P.d (Ek l i)]=rK m::oQ s/\Wp out=Wp m/\mM m/\ ∀bg,bg=iQ m s->bif Rb bg then ob (qn i l) (ob (iY l i) (ob (Nat.ble (fS out) (iu m)&&aG (SN out l i) 88) (ob (Zh i) (ae (PX.normal,S.mk 35 (gl l::(3,P.sl 0 0 (SN out l i))::wH i) [(0,En.mk 0 none (Obj.arr (31:TypeId) false (List.take (fS out) (List.map bZ m)++[OV l i])))]))))) else ob (Zh i) (ae (PX.normal,S.mk 35 (gl l::(3,rK out)::wH i) (RA m))))) else ob (Zh i) (ae (PX.normal,S.mk 35 (gl l::(3,rK out)::wH i) (RA out))))) else ae (PX.exit 0,S.mk 35 [(3,rK out)] (RA out)))=(aD [(94,qbI),(16,Wo)] [] 54 3 (qbV l out i)) ae:=by kernel_rfl
def qjJ:S->K (PX×S):=λst ae=> ∃l,st=qbV l [] 0/\CW l/\ ∀m,m=aJ l->ae (.exit 0,⟨35,[(3,.sl 0 0 m.length)],[(0,⟨0,none,pW false m⟩)]⟩)
def SO:=En.mk 0 none (Obj.arr (31:TypeId) false [])
def Z5Z:=[(0,SO)]
def Wq:=(3,ZN)::Ry
theorem qjK l ae:(∃av,S.mk 35 (gl l::Wq) Z5Z=S.mk 35 (gl av::Wq) Z5Z/\CW av/\ ∀m,m=aJ av->ae (rK m,RA m))=(aI [] [(3,ah (aR 54 3) qjJ)] 54 [dw l] []) ae:=by kernel_rfl
theorem ak{p:Prop}{i}{A:Prop}(h1:p)(h2:A):cond (@decide p i) A False:=by rw[za0 h1];exact h2
theorem dY{p:Prop}{i}{A B:Prop}(h1:p->A)(h2: ¬p->B):cond (@decide p i) A B:=by
 by_cases h:p
 ·rw[za0 h];exact h1 h
 rw[zaS h];exact h2 h
theorem bF{p:Prop}{i}{A B:Prop}(h1:p)(h2:A):cond (@decide p i) A B:=by rw[za0 h1];exact h2
theorem mD{p:Prop}{i}{A B:Prop}(h1: ¬p)(h2:B):cond (@decide p i) A B:=by rw[zaS h1];exact h2
theorem JP{a b:Int}{A B:Prop}(h1:a=b->A)(h2:a≠b->B):cond (a==b) A B:=by
 by_cases h:a=b
 ·rw[show(a==b)=true by simpa using h];exact h1 h
 rw[show(a==b)=false by simpa using h];exact h2 h
end Pi
