/- The texts X3Shelf XBld K3 X3 S3 StPure St1 St1H T1 T1H StV2 StV2H StV3H StV4 StV4H St5 St5H StTextP St7 St7H PathP StL2H P1 P1H P2H P3 P3H P4 T2 T2H T3 T3H TrA TrB TrC SN T4 T4H T5 T5H TrD T5N T6 T6H T7 T7H A1 A2 A2H A3 A3H A4 A4H B1 B2H WiP WiU Wi0 Wi0H LdP. -/
import Derived.Test.YtdgkdigdflkjhaaGreatDoorEac
import Derived.Shelf.SlLaysF0
import Derived.Shelf.LaysM
import Derived.Shelf.LaysC
import Derived.Shelf.Strings.OnBuilder
import Derived.Shelf.Strings.SlTrimAscii
import Derived.Shelf.Small.Wraps
import Derived.Shelf.Strconv.Itoa3
import Derived.Shelf.Unicode.ValidAny
import Derived.Shelf.Utf8.RuneCount
import Derived.Test.YtdgkdigdflkjhaaGreatDoorProg
import Derived.Ground.SlsfProg
import Derived.KernelRfl
import Derived.Lib.ConvBytes
import Derived.Lib.LastIndexLaws
import Derived.Lib.AtoiAll
import Derived.Lib.SplitLaws
import Derived.Lib.SlTrimSet
import Derived.Lib.IndexAny
import Derived.Lib.ValidLaws
import Derived.Lib.RuneCountTail
import Derived.Lib.MapLaws
open Option renaming some→Z,none→Y
open Bool renaming false→C,true→O
open List renaming length→J
open Go renaming TypeId→I,Value→W,Program→M
open List renaming map→aa,take→ab,replicate→ee,take_succ_eq_append_getElem→i6,count→ss,reverse→th,set→tz
open Prod renaming fst→ba,snd→bl
open Nat renaming beq→bo,ble→gr,eq_of_beq_eq_true→mi,testBit→mm
open Int renaming toNat→dd,tmod→so
open ByteArray renaming mk→gz
open Option renaming isSome→ir,map→i7
open Array renaming replicate→pt,range→te
open Pi.D renaming int→ue,aq→vc,aj→AC,agg→AM,nth→BC,str→FS,bool→ID,sl→IM,dq→NO,cq→Q1,c8→Q3
open Pi.En renaming mk→we
open Pi.PX renaming normal→xz,exit→CE,ret→Q2
open Pi.S renaming mk→AD
open Pi.Obj renaming arr→AS,box→GT,map→HH,iter→Q4
open Pi.P renaming d→Cs,sl→If,ref→RK
open Go.Op renaming operands→Do,bytesLess→IT,equalIn→PM
open Go.IntKind renaming i64→DD
open Pi.K renaming fail→GE,bind→IH
open Pi.KW renaming fail→H1,bind→IR,ret→IS,dN→PP
open Pi.Ext renaming refl→Mo
open Pi.Names renaming refl→Nm
open Pi.Code renaming nv→No
open Go.Instr renaming sliceBound→Of,sliceBounds→OF
open Go.Builtin renaming zeroCells→OK
namespace Go.Proofs
open Go.Shelf
theorem kY{P f B}(h:(match P.funcs[f]? with |some g=>g.name== "runtime.NumGoroutine" |none=>O)=C)(l:P.funcs[f]?=(P.funcs[f]?).map λg=>{B with name:=g.name}):Bears P f B:=by
 cases e:P.funcs[f]? with
 |none=>rw[e] at h;cases h
 |some g=>rw[e] at h l;exact⟨g.name,h,e.trans l⟩
def Tryz.aR:Go.Shelf.Ren:=⟨λ|169=>135 |n=>n,λ|70=>225 |9=>9 |0=>0 |72=>228 |37=>226 |127=>273 |3=>3 |5=>5 |n=>n,λ|n=>n⟩
theorem Tryz.vF:Go.Proofs.Lays.n169 Tryz.prog Tryz.aR:=by constructor<;>first | (refine kY ?_ ?_<;>kernel_rfl)|kernel_rfl | (intro _;kernel_rfl)
theorem Tryz.jt:Builder.Extra Tryz.prog Tryz.aR:={
 sizeBuilder:=by kernel_rfl
 liesBuilder:=by kernel_rfl
 t5:=Tryz.underlying5
 a5:=Tryz.isAgg5
 z5:=Tryz.sizeOf5
 v5:=Tryz.zeroValue5
 infoByte:=by kernel_rfl
 cellsByte:=by kernel_rfl
 sizeByte:=by kernel_rfl
 neB5:=by decide}
open Go.RowKit in
theorem Tryz.Builder_String(B b:Nat)(l:List UInt8)(w:World)(h:Lib.IsBuilder 228 5 B b (Lib.byteCells l) w)(A:l≠[]):
 Calls Tryz.prog 135 #[.pointer (some ⟨b,0,none⟩)] w λe w'=>e= .returned (.string ⟨l.toArray⟩)/\Below B w w':=Any.Builder_String Tryz.vF Tryz.jt B b l w h A
def Tryz.yJ:Go.Shelf.Ren:=⟨λ|156=>169 |165=>234 |166=>134 |169=>135 |240=>180 |241=>265 |276=>246 |277=>286 |n=>n,λ|31=>220 |9=>9 |3=>3 |4=>4 |0=>0 |20=>20 |72=>228 |76=>231 |70=>225 |37=>226 |75=>230 |127=>273 |164=>326 |5=>5 |80=>233 |n=>n,λ|n=>n⟩
theorem Tryz.QI:Go.Proofs.Lays.n156 Tryz.prog Tryz.yJ:=by constructor<;>first | (refine kY ?_ ?_<;>kernel_rfl)|kernel_rfl | (intro _;kernel_rfl)
theorem Tryz.nQ:Builder.Extra Tryz.prog Tryz.yJ:={
 sizeBuilder:=by kernel_rfl
 liesBuilder:=by kernel_rfl
 t5:=Tryz.underlying5
 a5:=Tryz.isAgg5
 z5:=Tryz.sizeOf5
 v5:=Tryz.zeroValue5
 infoByte:=by kernel_rfl
 cellsByte:=by kernel_rfl
 sizeByte:=by kernel_rfl
 neB5:=by decide}
open Go.RowKit in
theorem Tryz.strings_Join_none(a:Option Addr)(c:Nat)(h:ByteArray)(w:World):
 Calls Tryz.prog 169 #[.slice a 0 c,.string h] w λe w'=>e= .returned (.string ⟨#[]⟩)/\w'=w:=Any.strings_Join_none Tryz.QI Tryz.nQ a c h w
open Go.RowKit in
theorem Tryz.strings_Join(A o c:Nat)(xs:List ByteArray)(h:ByteArray)(w:World)(B: ∀(j:Nat) x,xs[j]?=some x->w.cell? ⟨A,o+j,none⟩=some (.string x))(H:A<w.heap.size)(G:xs.length<=140737488355328)(F:xs.length<=c)(l:(Lib.join (xs.map (·.data.toList)) h.data.toList).length<=140737488355328):
 Calls Tryz.prog 169 #[.slice (some ⟨A,o,none⟩) xs.length c,.string h] w λe w'=>e= .returned (.string ⟨(Lib.join (xs.map (·.data.toList)) h.data.toList).toArray⟩)/\Below w.heap.size w w':=Any.strings_Join Tryz.QI Tryz.nQ A o c xs h w B H G F l
def Tryz.KS:Go.Shelf.Ren:=⟨λ|160=>153 |232=>205 |231=>204 |227=>206 |234=>208 |233=>207 |236=>210 |235=>209 |228=>253 |271=>256 |151=>255 |197=>254 |120=>282 |152=>281 |260=>280 |137=>291 |119=>292 |224=>293 |225=>294 |217=>300 |266=>305 |n=>n,λ|9=>9 |4=>4 |3=>3 |5=>5 |117=>292 |116=>291 |0=>0 |124=>295 |21=>21 |105=>332 |46=>211 |119=>297 |139=>300 |138=>299 |n=>n,λ|3=>0 |4=>1 |n=>n⟩
theorem Tryz.QJ:Go.Proofs.Lays.n160 Tryz.prog Tryz.KS:=by constructor<;>first | (refine kY ?_ ?_<;>kernel_rfl)|kernel_rfl | (intro _;kernel_rfl)
open Go.RowKit in
theorem Tryz.strings_Trim_one(s:ByteArray)(c:UInt8)(l:c.toNat<128)(w:World)(h:s.size<=9223372036854775807):
 Calls Tryz.prog 153 #[.string s,.string ⟨#[c]⟩] w λe w'=>e= .returned (.string ⟨(Lib.trimB s.data.toList c).toArray⟩)/\(w'=w\/w'=w.drew):=Any.strings_Trim_one Tryz.QJ s c l w h
def Tryz.KT:Go.Shelf.Ren:=⟨λ|195=>155 |n=>n,λ|9=>9 |3=>3 |0=>0 |4=>4 |n=>n,λ|n=>n⟩
theorem Tryz.qcP:Go.Proofs.Lays.n195 Tryz.prog Tryz.KT:=by constructor<;>first | (refine kY ?_ ?_<;>kernel_rfl)|kernel_rfl | (intro _;kernel_rfl)
open Go.RowKit in
theorem Tryz.utf8_RuneCountInString(s:ByteArray)(w:World)(l:s.size<9223372036854775807):
 Calls Tryz.prog 155 #[.string s] w λe w'=>e= .returned (.int .i64 (Lib.runeCount s))/\ ∃h,w'=w.iter s h:=Any.utf8_RuneCountInString Tryz.qcP s w l
def Tryz.Hu:Go.Shelf.Ren:=⟨λ|171=>233 |243=>264 |246=>285 |283=>295 |284=>296 |285=>297 |286=>298 |129=>167 |317=>301 |318=>302 |319=>303 |320=>304 |337=>306 |338=>307 |n=>n,λ|3=>3 |9=>9 |2=>2 |4=>4 |171=>361 |0=>0 |53=>264 |37=>226 |5=>5 |173=>363 |212=>367 |51=>262 |20=>20 |213=>368 |46=>211 |232=>369 |233=>370 |n=>n,λ|17=>3 |18=>4 |19=>5 |n=>n⟩
theorem Tryz.Xr:Go.Proofs.LaysM.n171 Tryz.prog Tryz.Hu:=by constructor<;>first | (refine kY ?_ ?_<;>kernel_rfl)|kernel_rfl | (intro _;kernel_rfl)| (constructor<;>first |kernel_rfl | (intro _;kernel_rfl))
open Go.RowKit Go.Sort Go.Lib in
theorem Tryz.strconv_Itoa(n:Int)(l: -9223372036854775808<=n)(h:n<=9223372036854775807)(w:World)(A:Lib.TabIs Tryz.prog w "internal/strconv.uint64pow10" .u64 Lib.pow10Tab):
 Calls Tryz.prog 233 #[.int .i64 n] w λe w'=>e= .returned (.string ⟨(Lib.itoa n).toArray⟩)/\ ∃k os,w'=grow (w.drewN k) os:=Any.strconv_Itoa Tryz.Xr n l h w A
def Tryz.KV:Go.Shelf.Ren:=⟨λ|196=>154 |259=>211 |n=>n,λ|9=>9 |4=>4 |3=>3 |5=>5 |12=>12 |119=>297 |0=>0 |46=>211 |139=>300 |138=>299 |53=>264 |n=>n,λ|3=>0 |4=>1 |n=>n⟩
theorem Tryz.qcQ:Go.Proofs.Lays.n196 Tryz.prog Tryz.KV:=by constructor<;>first | (refine kY ?_ ?_<;>kernel_rfl)|kernel_rfl | (intro _;kernel_rfl)
open Go.RowKit in
theorem Tryz.utf8_ValidString(s:ByteArray)(w:World)(h:s.size<=9223372036854775807)(l:Lib.Utf8Tabs 0 1 w):
 Calls Tryz.prog 154 #[.string s] w λe w'=>e= .returned (.bool (Lib.validD s.data.toList))/\Below w.heap.size w w':=Any.utf8_ValidString Tryz.qcQ s w h l
def Tryz.BH:Go.Shelf.Ren:=⟨λ|6=>76 |15=>123 |14=>122 |28=>166 |29=>167 |20=>158 |21=>159 |22=>160 |23=>161 |24=>162 |25=>163 |26=>164 |27=>165 |46=>228 |47=>229 |48=>230 |49=>231 |50=>232 |57=>263 |n=>n,λ|22=>70 |24=>108 |25=>156 |3=>3 |39=>211 |0=>0 |53=>262 |55=>264 |4=>4 |46=>255 |45=>254 |50=>259 |5=>5 |9=>9 |66=>311 |70=>315 |76=>339 |77=>340 |n=>n,λ|n=>n⟩
theorem Tryz.qh6:Go.Proofs.SlLaysF0.n6 Tryz.prog Tryz.BH:=by constructor<;>first | (refine kY ?_ ?_<;>kernel_rfl)|kernel_rfl | (intro _;kernel_rfl)
def Tryz.BI:Go.Shelf.Ren:=⟨λ|6=>84 |15=>123 |14=>129 |28=>166 |29=>167 |20=>170 |21=>171 |22=>172 |23=>173 |24=>174 |25=>175 |26=>176 |27=>177 |46=>235 |47=>229 |48=>230 |49=>236 |50=>237 |57=>266 |n=>n,λ|22=>63 |24=>66 |25=>168 |3=>3 |39=>211 |0=>0 |53=>262 |55=>264 |4=>4 |46=>255 |45=>254 |50=>259 |5=>5 |9=>9 |66=>311 |70=>315 |76=>339 |77=>340 |n=>n,λ|n=>n⟩
theorem Tryz.qh7:Go.Proofs.SlLaysF0.n6 Tryz.prog Tryz.BI:=by constructor<;>first | (refine kY ?_ ?_<;>kernel_rfl)|kernel_rfl | (intro _;kernel_rfl)
def Tryz.yK:Go.Shelf.Ren:=⟨λ|6=>118 |15=>123 |14=>156 |28=>166 |29=>167 |20=>212 |21=>213 |22=>214 |23=>215 |24=>216 |25=>217 |26=>218 |27=>219 |46=>257 |47=>229 |48=>230 |49=>258 |50=>259 |57=>283 |n=>n,λ|22=>141 |24=>143 |25=>206 |3=>3 |39=>211 |0=>0 |53=>262 |55=>264 |4=>4 |46=>255 |45=>254 |50=>259 |5=>5 |9=>9 |66=>311 |70=>315 |76=>339 |77=>340 |n=>n,λ|n=>n⟩
theorem Tryz.qcR:Go.Proofs.SlLaysF0.n6 Tryz.prog Tryz.yK:=by constructor<;>first | (refine kY ?_ ?_<;>kernel_rfl)|kernel_rfl | (intro _;kernel_rfl)
def Tryz.yL:Go.Shelf.Ren:=⟨λ|6=>120 |15=>123 |14=>157 |28=>166 |29=>167 |20=>220 |21=>221 |22=>222 |23=>223 |24=>224 |25=>225 |26=>226 |27=>227 |46=>260 |47=>229 |48=>230 |49=>261 |50=>262 |57=>284 |n=>n,λ|22=>148 |24=>151 |25=>208 |3=>3 |39=>211 |0=>0 |53=>262 |55=>264 |4=>4 |46=>255 |45=>254 |50=>259 |5=>5 |9=>9 |66=>311 |70=>315 |76=>339 |77=>340 |n=>n,λ|n=>n⟩
theorem Tryz.qcS:Go.Proofs.SlLaysF0.n6 Tryz.prog Tryz.yL:=by constructor<;>first | (refine kY ?_ ?_<;>kernel_rfl)|kernel_rfl | (intro _;kernel_rfl)
def Tryz.yM:Go.Shelf.Ren:=⟨λ|6=>132 |15=>123 |14=>179 |28=>166 |29=>167 |20=>238 |21=>239 |22=>240 |23=>241 |24=>242 |25=>243 |26=>244 |27=>245 |46=>267 |47=>229 |48=>230 |49=>268 |50=>269 |57=>287 |n=>n,λ|22=>50 |24=>49 |25=>155 |3=>3 |39=>211 |0=>0 |53=>262 |55=>264 |4=>4 |46=>255 |45=>254 |50=>259 |5=>5 |9=>9 |66=>311 |70=>315 |76=>339 |77=>340 |n=>n,λ|n=>n⟩
theorem Tryz.qcT:Go.Proofs.SlLaysF0.n6 Tryz.prog Tryz.yM:=by constructor<;>first | (refine kY ?_ ?_<;>kernel_rfl)|kernel_rfl | (intro _;kernel_rfl)
def Tryz.yN:Go.Shelf.Ren:=⟨λ|6=>182 |15=>123 |14=>247 |28=>166 |29=>167 |20=>270 |21=>271 |22=>272 |23=>273 |24=>274 |25=>275 |26=>276 |27=>277 |46=>288 |47=>229 |48=>230 |49=>289 |50=>290 |57=>299 |n=>n,λ|22=>177 |24=>180 |25=>275 |3=>3 |39=>211 |0=>0 |53=>262 |55=>264 |4=>4 |46=>255 |45=>254 |50=>259 |5=>5 |9=>9 |66=>311 |70=>315 |76=>339 |77=>340 |n=>n,λ|n=>n⟩
theorem Tryz.qcU:Go.Proofs.SlLaysF0.n6 Tryz.prog Tryz.yN:=by constructor<;>first | (refine kY ?_ ?_<;>kernel_rfl)|kernel_rfl | (intro _;kernel_rfl)
end Go.Proofs
namespace Pi
open Go Go.Proofs Go.RowKit Go.Shelf
def u8s:List D->Option (List UInt8)
 | []=>Z []
 | .int .u8 n::r=>if 0<=n/\n<256 then(match u8s r with |Z l=>Z (UInt8.ofNat n.toNat::l)|Y=>Y) else Y
 |_=>Y
theorem QK: ∀l,u8s (l.map λb=>ue .u8 (b.toNat:Int))=Z l
 | []=>rfl
 |b::l=>by have h:=b.toNat_lt;simp only[zaS,u8s,QK l];rw[zau ⟨by omega,by omega⟩];simp
theorem KX: ∀es l,u8s es=Z l->es=l.map λb=>ue .u8 (b.toNat:Int)
 | [],l,h=>by simp[u8s] at h;subst h;rfl
 |x::r,l,h=>by
  unfold u8s at h;split at h
  next A=>cases A
  next n G A=>
   simp only[za9] at A;obtain⟨rfl,rfl⟩:=A;split at h
   ·rename_i H;split at h
    next B F=>simp at h;subst h;rw[KX r B F];simp only[zaS,za9,zcu];congr 1;simp only[UInt8.toNat_ofNat'];omega
    cases h
   cases h
  cases h
def Ov:TF
 | [.ref 0 v 0],R=>match lk R 0 with
  |Z e=>if bo e.aU v then(match e.obj with
   | .box 228 [.d .lW,x]=>Z (.cy [],ins 0 ⟨e.aU,e.tag,.box 228 [.ref 0 v 0,x]⟩ R)
   | .box 228 [.ref 0 v' 0,_]=>if bo v' v then Z (.cy [],R) else Y
   |_=>Y) else Y
  |Y=>Y
 |_,_=>Y
def Xs:TF
 | [.ref 0 v 0],R=>match lk R 0 with
  |Z e=>if bo e.aU v then(match e.obj with
   | .box 228 [_,.d .cd]=>Z (.d (.str []),R)
   | .box 228 [_,.sl m vm len]=>(match lk R m with
    |Z em=>if bo em.aU vm then(match em.obj with
     | .arr 5 C es=>(match u8s (es.take len) with
      |Z l=>if bo (J l) len&&Nat.blt 0 len then Z (.d (.str l),ins m ⟨em.aU,em.tag,.gone⟩ R) else Y
      |Y=>Y)
     |_=>Y) else Y
    |Y=>Y)
   |_=>Y) else Y
  |Y=>Y
 |_,_=>Y
section
variable{w0:World}
theorem QL{F w G R}:aL F w G R (.tuple #[]) (.cy []):= .cy [] [] rfl (λi v c h=>by simp at h)
theorem Hv{w:World}{b cs T l}(h:w.heap[b]?=Z (.cells cs T l)) i v:(w.setCell ⟨b,i,Y⟩ v).heap[b]?=Z (.cells (cs.setIfInBounds i v) T l):=by simp[World.setCell,zbN,h]
theorem tc{w:World}{b c i}(h:c≠b) v:(w.setCell ⟨b,i,Y⟩ v).heap[c]?=w.heap[c]?:=by simp[World.setCell,zbN,za0 h]
set_option maxHeartbeats 1000000 in
set_option maxRecDepth 100000 in
theorem qh8(b:Nat)(w:World)(h0:w.cell? ⟨b,0,none⟩=some (.pointer (some ⟨b,0,none⟩))):
  Calls Tryz.prog 180 #[.pointer (some ⟨b,0,none⟩)] w λe w'=>e= .returned (.tuple #[])/\w'=w:=by
 obtain⟨j,Q,_⟩:=zap.1 (show(Tryz.prog.info? 228).map (·.size)=some 2 by kernel_rfl);have R:=Tryz.isAgg228;have l:=Tryz.sizeOf228;have B:=Tryz.zeroValue228;have G:=run_underlying Tryz.underlying228;have U:=Tryz.isAgg225;have A:=Tryz.sizeOf225;have F:=Tryz.zeroValue225;have H:=run_underlying Tryz.underlying225;have a4:=Tryz.isAgg4;have V:=Tryz.sizeOf4;have v4:=Tryz.zeroValue4;have u4:=run_underlying Tryz.underlying4;have L:=run_underlying Tryz.underlying326;have h:Tryz.prog.follows .mixedOrders=true:=by kernel_rfl
 go_enter Tryz.func180,Tryz.ntmps180
 go_wp2
 rw[Lib.run_neq_ptr_same w _ Tryz.underlying225 Q]
 go_wp2
 go_end0
 exact⟨rfl,rfl⟩
set_option maxHeartbeats 1000000 in
set_option maxRecDepth 100000 in
theorem qcV(b:Nat)(w:World)(h0:w.cell? ⟨b,0,none⟩=some (.pointer none))(F:w.shape? b=some (228,2))(I3:w.frozen? ⟨b,0,none⟩=false):
  Calls Tryz.prog 180 #[.pointer (some ⟨b,0,none⟩)] w λe w'=>e= .returned (.tuple #[])/\w'=w.setCell ⟨b,0,none⟩ (.pointer (some ⟨b,0,none⟩)):=by
 obtain⟨j,B,A⟩:=zap.1 (show(Tryz.prog.info? 228).map (·.size)=some 2 by kernel_rfl);have l:liesAt Tryz.prog Tryz.prog.depth 228 (2/Tryz.prog.cellsOf 228) 0 228 1=true:=by kernel_rfl
 have a72:=Tryz.isAgg228;have G:=Tryz.sizeOf228;have L:=Tryz.zeroValue228;have R:=run_underlying Tryz.underlying228;have a70:=Tryz.isAgg225;have H:=Tryz.sizeOf225;have Q:=Tryz.zeroValue225;have U:=run_underlying Tryz.underlying225;have a4:=Tryz.isAgg4;have z4:=Tryz.sizeOf4;have v4:=Tryz.zeroValue4;have u4:=run_underlying Tryz.underlying4;have V:=run_underlying Tryz.underlying326;have h:Tryz.prog.follows .mixedOrders=true:=by kernel_rfl
 go_enter Tryz.func180,Tryz.ntmps180
 go_wp2
 rw[Lib.run_to_unsafe w ⟨b,0,none⟩ Tryz.underlying225 Tryz.underlying326 B (by rw[A];decide) F (Nat.zero_lt_succ 1)];simp only[Result.andThen];rw[Oper.upon_value]
 go_wp2
 rw[run_callFunc_extern Tryz.func246 (by kernel_rfl) (by kernel_rfl) (by kernel_rfl) (e:=Extern.AbiNoEscape.same) (by kernel_rfl)];rw[Lib.run_noEscape];simp only[Result.andThen];rw[Oper.upon_value]
 go_wp2
 rw[Lib.run_from_unsafe w ⟨b,0,none⟩ Tryz.underlying326 Tryz.underlying225 B F l];simp only[Result.andThen];rw[Oper.upon_value]
 go_wp2
 go_end0
 exact⟨rfl,rfl⟩
theorem Ty:zN Tryz.prog w0 180 Ov:=by
 intro h0 ps R p R1 h F G w vs hH hl hv;unfold Ov at h;split at h
 next v=>
  match vs,hl,hv with
  | [u],_,hv=>
   have L:=hv 0 u _ rfl rfl;split at h
   ·rename_i e A;split at h
    ·rename_i rl;have rl:=zad rl;have hO:=hH.rg 0 e A;cases L with
     |ref _ _ _ _ hr h1=>
      split at h
      ·rename_i x l;rw[l] at hO;obtain⟨b,B,rfl⟩:=hr.at A rl (by rw[l];rfl);obtain⟨b',cs,H,U,dy,gT,jU⟩:=hO;rw[B] at H;simp at H;subst H;simp only[zai,zbd] at h;obtain⟨rfl,rfl⟩:=h;have c0:cs[0]?=Z (.pointer Y):=by
        have Xd:0<cs.size:=by rw[dy];simp
        have:=jU 0 _ rfl;rw[vA Xd];generalize cs.getD 0 undef=c at this;cases this with
        |d hd=>exact congrArg Z (hd.fZ rfl)
       have rj:b<w.heap.size:=(zar.1 U).1;have jM:=qcV b w (by rw[hZ U];exact c0) (by simp[World.shape?,U,dy]) (by simp[World.frozen?,U]);refine .inl ⟨enters Tryz.func180 (by kernel_rfl) (by kernel_rfl) _ w,jM.mono λe' w' ⟨cP,zO⟩=>⟨_,cP,F,G,?_⟩⟩;subst zO;have fh:mj G R 0 ⟨e.aU,e.tag,.box 228 [.ref 0 v 0,x]⟩ (G 0):=λe1 zh=>by rw[A] at zh;cases zh;exact .inr ⟨rfl,λ_=>⟨by rw[l];rfl,rfl⟩⟩
       have xf:=fA fh;rw[bH] at xf;have Ws: ¬F b:=hH.jb 0 e b A (by rw[l];simp[a7,B,aI]);have hF: ∀c,F c->(w.setCell ⟨b,0,Y⟩ (.pointer (Z ⟨b,0,Y⟩))).heap[c]?=w.heap[c]?:=λc hc=>tc (λe=>Ws (by rw[<-e];exact hc)) _;obtain⟨d1,d2⟩:=ax.gj hH (e1:=⟨e.aU,e.tag,.box 228 [.ref 0 v 0,x]⟩) (g1:=G 0) (w':=w.setCell ⟨b,0,Y⟩ (.pointer (Z ⟨b,0,Y⟩))) fh
        (λc hc cD=>tc (λe'=>cD ⟨e,A,by rw[e',l];simp[a7,B,aI]⟩) _) (by simp[World.setCell]) rfl rfl rfl
        (λc hc=> .inr ⟨e,A,by rw[l];exact hc⟩)
        (by
         rw[bH];refine⟨b,_,B,Hv U 0 _,by simpa using dy,?_,?_⟩
         ·intro c hc;obtain⟨i,Q⟩:=List.mem_iff_getElem?.1 hc;rw[zbM,zdi] at Q;split at Q
          ·simp at Q;obtain⟨_,rfl⟩:=Q;rfl
          exact gT c (List.mem_iff_getElem?.2 ⟨i,by rw[zbM];exact Q⟩)
         intro i p L
         match i with
         |0=>
          simp at L;subst L;have e0:(cs.setIfInBounds 0 (.pointer (Z ⟨b,0,Y⟩))).getD 0 undef= .pointer (Z ⟨b,0,Y⟩):=by
           have Xd:0<cs.size:=by rw[dy];simp
           simp[Xd]
          rw[e0];exact .ref 0 v 0 _ ⟨_,aX _ _ _,by rw[rl];exact zag _,λ_ _=>⟨b,B,rfl⟩⟩ rfl
         |1=>
          simp at L;subst L;have e1:(cs.setIfInBounds 0 (.pointer (Z ⟨b,0,Y⟩))).getD 1 undef=cs.getD 1 undef:=by simp
          rw[e1];exact(jU 1 x rfl).mono (λ_ h=>h) hF xf
         |i+2=>simp at L)
        (λi Q hl=>hH.tag 0 e i A Q (by rw[l];rfl))
       rw[bH] at d1 d2;exact⟨d1,QL,d2⟩
      ·rename_i v' x l;split at h
       ·rename_i Ey;have Ey:=zad Ey;subst Ey;rw[l] at hO;obtain⟨b,B,rfl⟩:=hr.at A rl (by rw[l];rfl);obtain⟨b',cs,H,U,dy,gT,jU⟩:=hO;rw[B] at H;simp at H;subst H;simp only[zai,zbd] at h;obtain⟨rfl,rfl⟩:=h;have c0:cs[0]?=Z (.pointer (Z ⟨b,0,Y⟩)):=by
         have Xd:0<cs.size:=by rw[dy];simp
         have:=jU 0 _ rfl;rw[vA Xd];generalize cs.getD 0 undef=c at this;cases this with
         |ref _ _ _ _ hr2 _=>obtain⟨b2,V,rfl⟩:=hr2.at A rl (by rw[l];rfl);rw[B] at V;simp at V;subst V;rfl
        have jM:=qh8 b w (by rw[hZ U];exact c0);refine .inl ⟨enters Tryz.func180 (by kernel_rfl) (by kernel_rfl) _ w,jM.mono λe' w' ⟨cP,zO⟩=>⟨_,cP,F,G,?_⟩⟩;subst zO;exact⟨hH,QL,Mo _ _ _⟩
       cases h
      cases h
    cases h
   cases h
 cases h
theorem KY{w:World}{g c n}(h:c≠g):(w.freeze ⟨g,0,Y⟩ n).heap[c]?=w.heap[c]?:=by
 unfold World.freeze;split
 ·rfl
 simp[zbN,za0 h]
theorem KZ{w:World}{g n}:(w.freeze ⟨g,0,Y⟩ n).heap.size=w.heap.size:=by
 unfold World.freeze;split
 ·rfl
 simp
set_option maxHeartbeats 2000000 in
set_option maxRecDepth 100000 in
theorem qcW(b g cap len:Nat)(p:Value)(h:Array Value)(l:List UInt8)(w:World)(NZ:w.heap[b]?=some (.cells #[p,.slice (some ⟨g,0,none⟩) len cap] 228 (0,0)))(R:w.heap[g]?=some (.cells h 5 (0,0)))
  (U:l≠[]) (A:l.length=len) (u7:len<=cap) (yf:cap<=maxLen) (hcs:cap<=h.size) (hb: ∀(j:Nat) (x:UInt8),l[j]?=some x->h[j]?=some (Value.int IntKind.u8 (x.toNat:Int))):
  Calls Tryz.prog 135 #[.pointer (some ⟨b,0,none⟩)] w λe w'=>e= .returned (.string ⟨l.toArray⟩)/\w'=w.drew.freeze ⟨g,0,none⟩ l.length:=by
 subst A;have L:=Tryz.vF;have X:=Tryz.jt;have Qk:l.length≠0:=by simpa using U
 have c1:w.drew.cell? ⟨b,1,none⟩=some (.slice (some ⟨g,0,none⟩) l.length cap):=by have:w.drew.heap[b]?=some (.cells #[p,.slice (some ⟨g,0,none⟩) l.length cap] 228 (0,0)):=NZ;rw[Lib.cell_of_heap this];rfl
 have hSD:(Builtin.unsafeSliceData_ #[(Tryz.aR.t 37)] (Tryz.aR.t 127) #[.slice (some ⟨g,0,none⟩) l.length cap]).run Tryz.prog w.drew= .ok (.pointer (some ⟨g,0,none⟩)) w.drew:=
  Lib.run_unsafeSliceData_row _ _ _ _ _ _ (by omega)
 have hUS:(Builtin.unsafeString_ #[(Tryz.aR.t 127),(Tryz.aR.t 3)] (Tryz.aR.t 9) #[.pointer (some ⟨g,0,none⟩),.int .i64 l.length]).run Tryz.prog w.drew= .ok (.string ⟨l.toArray⟩) (w.drew.freeze ⟨g,0,none⟩ l.length):=by refine Lib.run_unsafeString_row w.drew (Tryz.aR.t 127) (Tryz.aR.t 3) (Tryz.aR.t 9) (Tryz.aR.t 5) L.t127 X.cellsByte g h.size (by have F:w.drew.heap[g]?=some (.cells h (Tryz.aR.t 5) (0,0)):=R;simp[World.shape?,F]) l U (by omega) (by unfold maxLen at yf;omega) ?_;intro j x hx;have F:w.drew.heap[g]?=some (.cells h 5 (0,0)):=R;rw[show(⟨g,0,none⟩:Addr).add j=⟨g,j,none⟩ by cases j<;>simp[Addr.add],hZ F];exact hb j x hx
 have B:=L.mixed;have t72:=L.t72;have a72:=L.a72;have z72:=L.z72;have v72:=L.v72;have u72:=run_underlying L.t72;have t70:=L.t70;have a70:=L.a70;have z70:=L.z70;have v70:=L.v70;have u70:=run_underlying L.t70;have t37:=L.t37;have a37:=L.a37;have z37:=L.z37;have v37:=L.v37;have u37:=run_underlying L.t37;have Q:=L.t127;have V:=L.a127;have G:=L.z127;have H:=L.v127;have qrt:=run_underlying L.t127;have t3:=L.t3;have a3:=L.a3;have z3:=L.z3;have v3:=L.v3;have u3:=run_underlying L.t3;have t9:=L.t9;have a9:=L.a9;have z9:=L.z9;have v9:=L.v9;have u9:=run_underlying L.t9;have t5:=X.t5;have a5:=X.a5;have z5:=X.z5;have v5:=X.v5;have u5:=run_underlying X.t5
 go_enter L.f169,Body.n169_ntmps Tryz.aR
 go_wp2
 go_region_o
 all_goals (go_wp2;go_ret;exact⟨rfl,rfl⟩)
set_option maxHeartbeats 2000000 in
set_option maxRecDepth 100000 in
theorem qcX(b:Nat)(p:Value)(w:World)(NZ:w.heap[b]?=some (.cells #[p,.slice none 0 0] 228 (0,0))):
  Calls Tryz.prog 135 #[.pointer (some ⟨b,0,none⟩)] w λe w'=>e= .returned (.string ⟨#[]⟩)/\w'=w.drew:=by
 have L:=Tryz.vF;have X:=Tryz.jt;have hUS:=λW q=>Lib.run_unsafeString_none (P:=Tryz.prog) W (Tryz.aR.t 127) (Tryz.aR.t 3) (Tryz.aR.t 9) q;have c1:w.drew.cell? ⟨b,1,none⟩=some (.slice none 0 0):=by have:w.drew.heap[b]?=some (.cells #[p,.slice none 0 0] 228 (0,0)):=NZ;rw[Lib.cell_of_heap this];rfl
 have hSD:(Builtin.unsafeSliceData_ #[(Tryz.aR.t 37)] (Tryz.aR.t 127) #[.slice none 0 0]).run Tryz.prog w.drew= .ok (.pointer none) w.drew:=rfl;have h:=L.mixed;have t72:=L.t72;have a72:=L.a72;have G:=L.z72;have R:=L.v72;have u72:=run_underlying L.t72;have t70:=L.t70;have a70:=L.a70;have H:=L.z70;have U:=L.v70;have u70:=run_underlying L.t70;have t37:=L.t37;have a37:=L.a37;have Q:=L.z37;have V:=L.v37;have u37:=run_underlying L.t37;have B:=L.t127;have F:=L.a127;have l:=L.z127;have A:=L.v127;have qrt:=run_underlying L.t127;have t3:=L.t3;have a3:=L.a3;have z3:=L.z3;have v3:=L.v3;have u3:=run_underlying L.t3;have t9:=L.t9;have a9:=L.a9;have z9:=L.z9;have v9:=L.v9;have u9:=run_underlying L.t9;have t5:=X.t5;have a5:=X.a5;have z5:=X.z5;have v5:=X.v5;have u5:=run_underlying X.t5
 go_enter L.f169,Body.n169_ntmps Tryz.aR
 go_wp2
 go_region_o
 all_goals (go_wp2;go_ret;exact⟨rfl,rfl⟩)
theorem de.drew{T F G w}{R}(h:de Tryz.prog T F G w R):de Tryz.prog T F G w.drew R:=by have A:Names G G R R:=Nm G R;exact⟨h.oR,h.size,λt p l=>by simp[lk] at l,λn e B=>(h.rg n e B).mono (λ_ h=>h) (λ_ _=>rfl) A rfl (λ_ _=>rfl),h.own,h.jb,h.gL,h.tag,h.z,Nat.le_succ_of_le h.dr,h.sz⟩
theorem xx{cs}(h:cs.size=2):cs= #[cs.getD 0 undef,cs.getD 1 undef]:=by
 apply Array.ext
 ·simp[h]
 intro i A l;have:i=0\/i=1:=by simp at l;omega
 rcases this with rfl |rfl<;>simp[Array.getD,h]
theorem qcY:zN Tryz.prog w0 135 Xs:=by
 intro h0 ps R p R1 h F G w vs hH hl hv;unfold Xs at h;split at h
 next v=>
  match vs,hl,hv with
  | [u],_,hv=>
   have hp:=hv 0 u _ rfl rfl;split at h
   ·rename_i e he;split at h
    ·rename_i rl;have rl:=zad rl;have hO:=hH.rg 0 e he;cases hp with
     |ref _ _ _ _ hr h1=>
      have V:=enters Tryz.func135 (by kernel_rfl) (by kernel_rfl);split at h
      ·rename_i x bZ;rw[bZ] at hO;obtain⟨b,hG,rfl⟩:=hr.at he rl (by rw[bZ];rfl);obtain⟨b',cs,B,U,dy,gT,jU⟩:=hO;rw[hG] at B;simp at B;subst B;simp only[zai,zbd] at h;obtain⟨rfl,rfl⟩:=h;have e1:cs.getD 1 undef= .slice Y 0 0:=by
        have:=jU 1 _ rfl;generalize cs.getD 1 undef=c at this;cases this with
        |d hd=>exact hd.fZ rfl
       have h2:=xx (by simpa using dy);rw[e1] at h2;rw[h2] at U;refine .inl ⟨V _ w,(qcX b _ w U).mono λe' w' ⟨cP,zO⟩=>⟨_,cP,F,G,?_,.d (.str []),?_⟩⟩
       ·subst zO;exact hH.drew
       subst zO;exact⟨λ_ h=>h,λ_ h=> .inl h,λ_ h=> .inl h,λ_ _ _=>rfl,zag _,rfl,rfl,rfl⟩
      ·rename_i x m vm len bZ;rw[bZ] at hO;obtain⟨b,hG,rfl⟩:=hr.at he rl (by rw[bZ];rfl);obtain⟨b',cs,B,U,dy,gT,jU⟩:=hO;rw[hG] at B;simp at B;subst B;split at h
       ·rename_i Q A;split at h
        ·rename_i H;have H:=zad H;split at h
         ·rename_i es L;split at h
          ·rename_i l hl8;split at h
           ·rename_i fa;simp only[zac,zdn] at fa;have xh:=zad fa.1;simp only[zai,zbd] at h;obtain⟨rfl,rfl⟩:=h;have ou:=jU 1 _ rfl;have hOm:=hH.rg m Q A;rw[L] at hOm;have h2:=xx (by simpa using dy);generalize cs.getD 1 undef=c1 at ou h2;cases ou with
            |sl _ _ _ _ _ hrm=>
             obtain⟨a,N,cap,hGm,rfl,hlN⟩:=hrm.at A H (by rw[L];rfl);have Da:=KX _ _ hl8;have Gv:len<=J es:=by have:=congrArg J Da;simp at this;omega
             rcases hOm with⟨_,rfl⟩| ⟨g,iZ,cur,k,K1,hg,hk,ix,hle,yf,hcs,_,hE⟩
             ·simp at Gv;omega
             rw[hGm] at K1;simp only[W.slice.injEq] at K1;obtain⟨rfl,rfl,rfl⟩:=K1;have C6:k=1:=by
              have:sz Tryz.prog 5=Z 1:=by kernel_rfl
              rw[this] at hk;exact(zaT hk).symm
             subst C6;rw[h2] at U;have cU:l≠[]:=λe0=>by subst e0;simp at xh;omega
             have cH: ∀(j:Nat) (x:UInt8),l[j]?=Z x->cur[j]?=Z (.int .u8 x.toNat):=λj x hx=>by
              have hj:j<J l:=(zab.1 hx).1;have hej:es[j]?=Z (.int .u8 x.toNat):=by
               have:(es.take len)[j]?=Z (ue .u8 (x.toNat:Int)):=by rw[Da,zaw,hx];rfl
               rw[zbB] at this;split at this
               ·exact this
               cases this
              obtain⟨q1,q2,q3⟩:=hE j _ hej;have:=q3 0 _ rfl;rw[vA (by omega)];simp only[zcF,zb9] at this;rw[this.fZ rfl]
             refine .inl ⟨V _ w,(qcW b g cap len _ cur l w U hg cU xh (by omega) yf (by omega) cH).mono λe' w' ⟨cP,zO⟩=>⟨_,cP,F,G,?_⟩⟩;subst zO;have fh:mj G R m ⟨Q.aU,Q.tag,.gone⟩ (G m):=λe1 zh=>by rw[A] at zh;cases zh;exact .inr ⟨rfl,λQv=>by cases Qv⟩
             obtain⟨d1,d2⟩:=ax.gj hH (e1:=⟨Q.aU,Q.tag,.gone⟩) (g1:=G m) (w':=w.drew.freeze ⟨g,0,Y⟩ (J l)) (hdr:=by unfold World.freeze;split<;>exact zb5 _) fh
              (λc hc cD=>KY (λe'=>cD ⟨Q,A,by rw[e',L];simp[a7,hGm,aI]⟩)) (by rw[KZ];exact zag _) (by unfold World.freeze;split<;>rfl) (by unfold World.freeze;split<;>rfl) (by unfold World.freeze;split<;>rfl)
              (λc hc=>by simp[a7] at hc) trivial (λi _ Qv=>by cases Qv)
             rw[bH] at d1 d2;exact⟨d1,.d (.str l),d2⟩
           cases h
          cases h
         cases h
        cases h
       cases h
      cases h
    cases h
   cases h
 cases h
end
end Pi
namespace Pi
open Go Go.Proofs
set_option maxRecDepth 100000
set_option maxHeartbeats 0
def qlM:=[(3,[(7,[1,5,6,7,8],[5,6,7])]),
 (6,[(6,[3,4,5],[2,3]),(12,[3,4,5,6,7],[3,4,5,6]),(18,[3,4,5,6,8,9],[3,4,5,8])]),
 (9,[(3,[0,3,4],[3])]),
 (10,[(4,[0,1,5],[4])]),
 (11,[(4,[3,4,12,13,14],[4])]),
 (12,[(4,[0,1,5],[4])]),
 (14,[(2,[0,3,5],[0,4])]),
 (15,[(3,[0,3,4],[3])]),
 (16,[(2,[0,3,5],[0,4])]),
 (17,[(4,[3,4,5],[4]),(8,[3,4,5,6,7],[3,4,5,6]),(15,[4,8,9],[8])]),
 (18,[(3,[0,3,4],[3])]),
 (20,[(3,[0,1,5,6],[5]),(6,[0,1,5,6,7],[0,1,5,6])]),
 (23,[(5,[2,3,4,5,6,7],[2,3,4,5,6])]),
 (24,[(5,[3,4,5,6,20,21,22],[3,5,6]),(15,[3,71,72,73],[3]),(20,[3,87,88,89],[3])]),
 (25,[(4,[0,1,3,18,19,20],[0,1,3])]),
 (26,[(3,[0,3,6,7,17,18,19],[0,6,7]),(6,[0,3,6,7,9,17,18,19,24,25,26],[0,3,6,7,17,18,19])]),
 (27,[(3,[0,3,4],[3]),(7,[0,3,4,5,6],[0,3,4,5]),(13,[0,3,4,7],[0,3,4])]),
 (28,[(7,[0,2,3,4,5,6],[0,2,3,4,5]),(11,[0,2,3,4,5,6,7,8],[0,2,3,4,5,6]),(20,[0,2,3,4,5,6,7,8,9,10],[0,2,3,4,5,6,7,8])]),
 (35,[(3,[0,1,5,7,8],[7]),(8,[0,1,5,7,8,9],[0,1,5,7,8])]),
 (38,[(3,[0,1,5,6],[5])]),
 (39,[(3,[0,1,5,6],[5])]),
 (42,[(5,[0,1,2,8,9],[8])]),
 (43,[(11,[3,48,49,50],[2])]),
 (45,[(3,[0,3,4,14,15,16],[0]),(13,[0,3,4,6,14,15,16,95,96,97],[0,3,4,14,15,16])]),
 (46,[(3,[5,17,18,19],[5]),(14,[11,60],[11])]),
 (47,[(5,[0,1,5,6],[0,1,5])]),
 (49,[(6,[5,6,27],[6])]),
 (50,[(3,[5,11],[5])]),
 (52,[(3,[0,2,8,9,16,17,18],[0,2,8,9]),(8,[0,8,9,29,30,31],[0,8,9])]),
 (54,[(3,[0,3,4],[3])]),
 (55,[(3,[0,1,5,6],[5]),(6,[0,1,5,6,7],[0,1,5,6]),(9,[0,1,5,6,7,8],[0,1,5,6,7])]),
 (56,[(4,[5,6,7],[6]),(14,[5,6,7,10],[5,6,7])]),
 (57,[(4,[1,5,6,7],[6]),(9,[1,5,6,7,9],[1,5,6,7])]),
 (58,[(3,[0,1,5,6],[5]),(9,[0,1,5,6,8],[0,1,5,6])]),
 (60,[(3,[0,3,5,6],[5]),(6,[0,3,5,6,7],[0,3,5,6])]),
 (63,[(2,[0,3,5],[4])]),
 (64,[(2,[0,3],[0,3])]),
 (66,[(4,[5,6,7],[6]),(8,[5,6,7,8],[5,6,7])]),
 (72,[(3,[0,1,5,6,14,15],[5])]),
 (73,[(1,[0,2,3],[0])]),
 (74,[(3,[0,1,5,6,14,15],[5])]),
 (75,[(2,[0,5,6,11,12],[0,8])]),
 (79,[(2,[0,1,7,8],[0,1,4])]),
 (80,[(3,[1,5,18,19,20],[1,5]),(10,[5,54,55,56],[5])]),
 (81,[(1,[0,13],[0]),(6,[0,13,26,27,28],[0,13])]),
 (82,[(2,[0,2,9,10,11],[0])]),
 (83,[(4,[0,5,7,19,20,21],[0,7])]),
 (87,[(3,[1,5,11,12,13],[1,5]),(8,[5,21,22,23],[5])]),
 (90,[(4,[4,5,11,12,13],[4,5])]),
 (91,[(5,[0,1,5,6],[0,1,5])]),
 (92,[(3,[3,4,5],[4])]),
 (94,[(11,[1,3,4],[2])]),
 (95,[(3,[0,1,5,6],[5]),(7,[0,1,5,6,7,8],[0,1,5,6,7]),(13,[0,1,5,6,9],[0,1,5,6])]),
 (96,[(2,[0,4,5,7],[0,6])]),
 (97,[(2,[0,3,5],[0,4])]),
 (99,[(4,[0,1,5,6],[5]),(8,[0,1,5,6,7,8],[0,1,5,6,7])]),
 (100,[(2,[0,3,5],[5])]),
 (101,[(2,[0,3,5],[0,4])]),
 (104,[(3,[0,3,4],[3]),(8,[0,3,4,5,7,8],[0,3,4]),(13,[0,3,4,5,7,8,9,10,11],[0,3,4,5,7,8,9,10])]),
 (105,[(2,[0,5,6,7],[0,2])]),
 (114,[(2,[0,1,7,8,9],[0,1,4])]),
 (116,[(2,[0,1,7,8,9],[0,1,4])]),
 (117,[(1,[0,1,3],[0,1])]),
 (125,[(3,[0,3,6,15,16],[0,4,5])]),
 (126,[(3,[0,3,15],[0,3])]),
 (133,[(1,[0,1,5],[0,1])]),
 (136,[(2,[0,1,7,8],[0,1,4])]),
 (137,[(3,[3,4,19,20,21],[3]),(8,[3,4,9,10,19,20,21,35,36,37],[3,4,19,20,21]),(18,[3,69],[3])]),
 (140,[(2,[0,3],[0,2])]),
 (143,[(3,[0,3,4],[3])]),
 (144,[(2,[0,3,5],[4])]),
 (145,[(2,[0,3,5],[3,4])]),
 (148,[(2,[0,4],[2,3,4])]),
 (181,[(5,[4,12],[4])]),
 (184,[(4,[0,1,5],[4])]),
 (186,[(4,[0,3],[2])]),
 (189,[(2,[1,2,5],[1,4])]),
 (191,[(2,[1,2,3,7],[1,6])]),
 (203,[(1,[0],[0])]),
 (278,[(4,[0,3],[0,3])])]
def qh9:=[(4,[(8,1),(16,1)]),
 (8,[(5,4)]),
 (21,[(4,1)]),
 (24,[(8,1),(10,1),(11,4)]),
 (27,[(15,1)]),
 (28,[(18,1),(22,1),(24,1)]),
 (29,[(1,1)]),
 (30,[(3,1)]),
 (35,[(10,1)]),
 (39,[(5,1)]),
 (41,[(7,1),(9,1),(11,6),(12,1),(14,6),(16,1),(20,1)]),
 (44,[(6,1)]),
 (45,[(8,1),(9,1),(11,1),(16,1)]),
 (49,[(8,1),(9,1)]),
 (51,[(1,1)]),
 (52,[(5,1),(10,1)]),
 (56,[(16,1)]),
 (57,[(7,1),(11,1)]),
 (58,[(11,1)]),
 (66,[(10,1)]),
 (67,[(1,1)]),
 (69,[(1,1)]),
 (70,[(5,1),(14,1)]),
 (72,[(5,1)]),
 (74,[(5,1)]),
 (78,[(1,1)]),
 (80,[(5,1)]),
 (81,[(8,1)]),
 (82,[(4,1),(7,1),(9,1)]),
 (94,[(1,1)]),
 (95,[(15,1)]),
 (104,[(10,1)]),
 (125,[(4,1)]),
 (135,[(1,1)]),
 (137,[(1,0),(6,6),(10,1)]),
 (146,[(10,1)]),
 (152,[(9,1),(11,1)]),
 (154,[(7,1),(9,1)]),
 (158,[(6,1)]),
 (159,[(10,1)]),
 (160,[(10,1)]),
 (163,[(11,1),(17,1),(23,1)]),
 (168,[(3,1)]),
 (170,[(6,1)]),
 (171,[(10,1)]),
 (172,[(10,1)]),
 (175,[(11,1),(17,1),(23,1)]),
 (194,[(6,1)]),
 (195,[(10,1)]),
 (196,[(10,1)]),
 (199,[(11,1),(17,1),(23,1)]),
 (212,[(6,1)]),
 (213,[(10,1)]),
 (214,[(10,1)]),
 (217,[(11,1),(17,1),(23,1)]),
 (220,[(6,1)]),
 (221,[(10,1)]),
 (222,[(10,1)]),
 (225,[(11,1),(17,1),(23,1)]),
 (228,[(6,1)]),
 (234,[(3,1)]),
 (235,[(6,1)]),
 (238,[(6,1)]),
 (239,[(10,1)]),
 (240,[(10,1)]),
 (243,[(11,1),(17,1),(23,1)]),
 (249,[(3,1)]),
 (250,[(6,1)]),
 (257,[(6,1)]),
 (260,[(6,1)]),
 (265,[(0,1)]),
 (267,[(6,1)]),
 (270,[(6,1)]),
 (271,[(10,1)]),
 (272,[(10,1)]),
 (275,[(11,1),(17,1),(23,1)]),
 (288,[(6,1)]),
 (297,[(7,1),(8,1),(9,1),(10,1),(17,1),(18,1),(23,1)])]
def xsB:=[233,153,169,180,135,154,155,84,132,118,120,76,182]
def xsT:=xsB++[13,11,46,50,49,8]
def qru:=[178]
def aV(f id:Nat):=if bo id 999999 then(if gE f qru then Z ([],[]) else Y) else match lk qlM f with |Z l=>lk l id |Y=>Y
abbrev oB:qB:=⟨aV,xsT,λ_ _ _=>Y⟩
end Pi
namespace Pi
open Go Go.Proofs Go.RowKit
def rH(l:List UInt8):Int:=match Lib.atoiAll l with | .ok v=>v | .range=>Lib.atoiSat l |_=>0
def QM:TF
 | [.d (.int DD n)],[]=>if-9223372036854775808<=n/\n<=9223372036854775807 then Z (.d (.str (Lib.itoa n)),[]) else Y
 |_,_=>Y
def QN:TF
 | [.d (.str s),.d (.str c)],[]=>if J s<=9223372036854775807/\J c<4294967281/\c.all (λb=>decide (b.toNat<128))=O then Z (.d (.str (Lib.trimS s c)),[]) else Y
 |_,_=>Y
def rI:List D->Option (List (List UInt8))
 | []=>Z []
 | .str s::r=>match rI r with |Z l=>Z (s::l)|Y=>Y
 |_=>Y
def K2:TF
 | [.d (.sl 1 es),.d (.str c)],[]=>match rI es with
  |Z l=>if J l<=140737488355328/\J (Lib.join l c)<=140737488355328 then Z (.d (.str (Lib.join l c)),[]) else Y
  |Y=>Y
 |_,_=>Y
def Ow:TF
 | [.d (.str s)],[]=>if J s<=9223372036854775807 then Z (.d (.bool (Lib.validD s)),[]) else Y
 |_,_=>Y
def Ox:TF
 | [.d (.str s)],[]=>if J s<9223372036854775807 then Z (.d (.int DD (Lib.runeCount ⟨⟨s⟩⟩)),[]) else Y
 |_,_=>Y
noncomputable def E6:=rG Tryz.prog oB 66
noncomputable def QO:=rG Tryz.prog oB 49
noncomputable def E7:=rG Tryz.prog oB 143
noncomputable def E8:=rG Tryz.prog oB 151
noncomputable def BJ:=rG Tryz.prog oB 108
noncomputable def E9:=rG Tryz.prog oB 180
noncomputable def xL:=[(233,QM),(153,QN),(169,K2),(180,Ov),(135,Xs),(154,Ow),(155,Ox),(84,E6),(132,QO),(118,E7),(120,E8),(76,BJ),(182,E9)]
noncomputable def xB:=xOf xL
theorem ub{w0 w:World}{v b o}(l: ∀b,b<w0.heap.size->w.heap[b]?=w0.heap[b]?)(h:w0.cell? ⟨b,o,Y⟩=Z v):w.cell? ⟨b,o,Y⟩=Z v:=by
 by_cases A:b<w0.heap.size
 ·unfold World.cell? at h⊢;rw[l b A];exact h
 unfold World.cell? at h;rw[show w0.heap[({block:=b,off:=o,spot:=Y}:Addr).block]?=Y from zcL (by show w0.heap.size<=b;omega)] at h;simp at h
structure StW(w0:World):Prop where
 m: ∃m,w0.cell? ⟨2,0,Y⟩=Z (.int DD m)
 tab: ∀w:World,(∀b,b<w0.heap.size->w.heap[b]?=w0.heap[b]?)->Lib.TabIs Tryz.prog w "internal/strconv.uint64pow10" .u64 Lib.pow10Tab
 u8:Lib.Utf8Tabs 0 1 w0
theorem StW.zero{w0:World}(h:StW w0):StW {w0 with drawn:=0} where
 m:=h.m
 tab:=h.tab
 u8:=h.u8
theorem Tz{w0 w a b}(l: ∀b,b<w0.heap.size->w.heap[b]?=w0.heap[b]?)(h:Lib.Utf8Tabs a b w0):Lib.Utf8Tabs a b w:=
 ⟨λc B=>ub l (h.1 c B),λi A=>⟨ub l (h.2 i A).1,ub l (h.2 i A).2⟩⟩
theorem Oy w k os:Below w.heap.size w (Go.Sort.grow (w.drewN k) os):=
 ⟨rfl,rfl,rfl,by simp[Go.Sort.grow,World.drewN],λb h=>by have l:b<(w.drewN k).heap.size:=h;simp only[Go.Sort.grow];rw[zb0 l];rfl⟩
section
variable{w0:World}
theorem BK{F w G R}{v s}(h:aL F w G R v (.d (.str s))):v= .string ⟨⟨s⟩⟩:=aL.cY (p:= .d (.str s)) h rfl
theorem Xt(Q:StW w0):zN Tryz.prog w0 233 QM:=by
 intro h0 ps R p R1 h F G w vs B V l;have L: ∀b,b<w0.heap.size->w.heap[b]?=w0.heap[b]?:=λb hb=>(B.z b hb).2;unfold QM at h;split at h
 next n=>
  split at h
  next A=>
   simp only[zai,zbd] at h;obtain⟨rfl,rfl⟩:=h
   match vs,V,l with
   | [v],_,l=>have U:=l 0 v _ rfl rfl;have e:v= .int DD n:=aL.cY (p:= .d (.int DD n)) U rfl;subst e;refine oZ h0 B (enters Tryz.func233 (by kernel_rfl) (by kernel_rfl) _ w) ?_;exact(Tryz.strconv_Itoa n A.1 A.2 w (Q.tab w L)).mono λe w' ⟨he,k,os,H⟩=>⟨_,he,by rw[H];exact Oy _ _ _,λF G=> .d (.str _)⟩
  cases h
 cases h
theorem Xu:zN Tryz.prog w0 153 QN:=by
 intro U ps R p R1 h F G w vs Q B l;unfold QN at h;split at h
 next s c=>
  split at h
  next A=>
   simp only[zai,zbd] at h;obtain⟨rfl,rfl⟩:=h
   match vs,B,l with
   | [v,u],_,l=>have e1:v= .string ⟨⟨s⟩⟩:=BK (l 0 v _ rfl rfl);have V:u= .string ⟨⟨c⟩⟩:=BK (l 1 u _ rfl rfl);subst e1;subst V;refine oZ U Q (enters Tryz.func153 (by kernel_rfl) (by kernel_rfl) _ w) ?_;exact(Go.Proofs.Any.strings_Trim_laid Tryz.QJ (by kernel_rfl) ⟨⟨s⟩⟩ ⟨⟨c⟩⟩ w (by simpa [ByteArray.size] using A.1) (by simpa [ByteArray.size] using A.2.1) (Go.Proofs.ascii_of_all A.2.2)).mono λe w' ⟨H,L⟩=>⟨_,H,L,λF G=> .d (.str _)⟩
  cases h
 cases h
theorem yO: ∀es l,rI es=Z l->es=l.map FS
 | [],l,h=>by simp[rI] at h;subst h;rfl
 |x::es,l,h=>by
  cases x<;>try (simp[rI] at h;done)
  rename_i s;simp only[rI] at h;split at h
  next A B=>simp at h;subst h;rw[yO es A B];rfl
  cases h
theorem Xv:zN Tryz.prog w0 169 K2:=by
 intro h0 ps R p R1 h F G w vs hH hl L;unfold K2 at h;split at h
 next es c=>
  split at h
  next l A=>
   have A:=yO es l A;subst A;split at h
   ·rename_i hc;simp only[zai,zbd] at h;obtain⟨rfl,rfl⟩:=h
    match vs,hl,L with
    | [v,u],_,L=>
     have U:=L 0 v _ rfl rfl;have e2:u= .string ⟨⟨c⟩⟩:=BK (L 1 u _ rfl rfl);subst e2;refine oZ h0 hH (enters Tryz.func169 (by kernel_rfl) (by kernel_rfl) _ w) ?_;cases U with
     |d U=>
      generalize A:l.map FS=es at U;cases U with
      |Qd a k cap=>
       have:l=[]:=by simpa using A
       subst this;exact(Tryz.strings_Join_none a cap ⟨⟨c⟩⟩ w).mono λe w' ⟨he,H⟩=>⟨_,he,H▸Below.refl _ _,λF G=> .d (.str _)⟩
      |Qe b off k cap es f u7 H hk cH hw hr=>
       subst A;have V:=Tryz.strings_Join b off cap (l.map λx=>⟨⟨x⟩⟩) ⟨⟨c⟩⟩ w (λj x B=>by
        rw[zaw] at B;cases Q:l[j]? with
        |none=>rw[Q] at B;cases B
        |some s=>rw[Q] at B;cases B;have J0:j<J l:=(zab.1 Q).1;rw[hw j (by simpa using J0)];have:=hr j 0 (.str s) (.str s) (by rw[zaw,Q];rfl) rfl;simp only[zcF,zb9] at this;rw[this.fZ rfl]) (hH.gL b H) (by simpa using hc.1) (by simpa using u7) (by simpa [zch] using hc.2)
       simp only[zaa] at V⊢;have e:(aa (λx=>x.data.toList) (aa (λx=>(⟨⟨x⟩⟩:ByteArray)) l))=l:=by simp[zch]
       rw[e] at V;exact V.mono λe w' ⟨he,H⟩=>⟨_,he,H,λF G=> .d (.str _)⟩
   cases h
  cases h
 cases h
theorem TA(L:StW w0):zN Tryz.prog w0 154 Ow:=by
 intro h0 ps R p R1 h F G w vs B Q l;have H: ∀b,b<w0.heap.size->w.heap[b]?=w0.heap[b]?:=λb A=>(B.z b A).2;unfold Ow at h;split at h
 next s=>
  split at h
  next V=>
   simp only[zai,zbd] at h;obtain⟨rfl,rfl⟩:=h
   match vs,Q,l with
   | [v],_,l=>have e1:v= .string ⟨⟨s⟩⟩:=BK (l 0 v _ rfl rfl);subst e1;refine oZ h0 B (enters Tryz.func154 (by kernel_rfl) (by kernel_rfl) _ w) ?_;exact(Tryz.utf8_ValidString ⟨⟨s⟩⟩ w (by simpa [ByteArray.size] using V) (Tz H L.u8)).mono λe w' ⟨U,A⟩=>⟨_,U,A,λF G=> .d (.bool _)⟩
  cases h
 cases h
theorem TB:zN Tryz.prog w0 155 Ox:=by
 intro V ps R p R1 h F G w vs U B l;unfold Ox at h;split at h
 next s=>
  split at h
  next L=>
   simp only[zai,zbd] at h;obtain⟨rfl,rfl⟩:=h
   match vs,B,l with
   | [v],_,l=>have e1:v= .string ⟨⟨s⟩⟩:=BK (l 0 v _ rfl rfl);subst e1;refine oZ V U (enters Tryz.func155 (by kernel_rfl) (by kernel_rfl) _ w) ?_;exact(Tryz.utf8_RuneCountInString ⟨⟨s⟩⟩ w (by simpa [ByteArray.size] using L)).mono λe w' ⟨H,A,Q⟩=>⟨_,H,by rw[Q];exact(Below.refl _ _).alloc (zag _) _,λF G=> .d (.int _ _)⟩
  cases h
 cases h
set_option maxRecDepth 100000 in
theorem Hw w0:zN Tryz.prog w0 84 E6:=
 o4 (kp:=oB) (λw=>xw _ w) Tryz.qh7 (by kernel_rfl) (λvs w=>enters Tryz.func84 (by kernel_rfl) (by kernel_rfl) vs w) (ty:=66) (k:=6) (by kernel_rfl) (λw=>iL (d:=_) (show Tryz.prog.underlying (Tryz.BI.t 24)=some _ from Tryz.underlying66) w) (run_sizeOf (by kernel_rfl)) w0
set_option maxRecDepth 100000 in
theorem Oz w0:zN Tryz.prog w0 132 QO:=
 o4 (kp:=oB) (λw=>xw _ w) Tryz.qcT (by kernel_rfl) (λvs w=>enters Tryz.func132 (by kernel_rfl) (by kernel_rfl) vs w) (ty:=49) (k:=3) (by kernel_rfl) (λw=>iL (d:=_) (show Tryz.prog.underlying (Tryz.yM.t 24)=some _ from Tryz.underlying49) w) (run_sizeOf (by kernel_rfl)) w0
set_option maxRecDepth 100000 in
theorem Hx w0:zN Tryz.prog w0 118 E7:=
 o4 (kp:=oB) (λw=>xw _ w) Tryz.qcR (by kernel_rfl) (λvs w=>enters Tryz.func118 (by kernel_rfl) (by kernel_rfl) vs w) (ty:=143) (k:=4) (by kernel_rfl) (λw=>iL (d:=_) (show Tryz.prog.underlying (Tryz.yK.t 24)=some _ from Tryz.underlying143) w) (run_sizeOf (by kernel_rfl)) w0
set_option maxRecDepth 100000 in
theorem Hy w0:zN Tryz.prog w0 120 E8:=
 o4 (kp:=oB) (λw=>xw _ w) Tryz.qcS (by kernel_rfl) (λvs w=>enters Tryz.func120 (by kernel_rfl) (by kernel_rfl) vs w) (ty:=151) (k:=11) (by kernel_rfl) (λw=>iL (d:=_) (show Tryz.prog.underlying (Tryz.yL.t 24)=some _ from Tryz.underlying151) w) (run_sizeOf (by kernel_rfl)) w0
set_option maxRecDepth 100000 in
theorem DS w0:zN Tryz.prog w0 76 BJ:=
 o4 (kp:=oB) (λw=>xw _ w) Tryz.qh6 (by kernel_rfl) (λvs w=>enters Tryz.func76 (by kernel_rfl) (by kernel_rfl) vs w) (ty:=108) (k:=8) (by kernel_rfl) (λw=>iL (d:=_) (show Tryz.prog.underlying (Tryz.BH.t 24)=some _ from Tryz.underlying108) w) (run_sizeOf (by kernel_rfl)) w0
set_option maxRecDepth 100000 in
theorem Hz w0:zN Tryz.prog w0 182 E9:=
 o4 (kp:=oB) (λw=>xw _ w) Tryz.qcU (by kernel_rfl) (λvs w=>enters Tryz.func182 (by kernel_rfl) (by kernel_rfl) vs w) (ty:=180) (k:=4) (by kernel_rfl) (λw=>iL (d:=_) (show Tryz.prog.underlying (Tryz.yN.t 24)=some _ from Tryz.underlying180) w) (run_sizeOf (by kernel_rfl)) w0
theorem K3{w1}(h:StW w1):b7 Tryz.prog {w1 with drawn:=0} xB:=by have l:=h.zero;exact Tw.ok rfl (.cons (Xt l) (.cons Xu (.cons Xv (.cons Ty (.cons qcY (.cons (TA l) (.cons TB (.cons (Hw _) (.cons (Oz _) (.cons (Hx _) (.cons (Hy _) (.cons (DS _) (.cons (Hz _) .nil)))))))))))))
end
end Pi
namespace Pi
open Go Go.Proofs
set_option maxRecDepth 100000
set_option maxHeartbeats 0
structure XF where
 cf:CF
 eq: ∀f,gE f xsB=O-> ∀ps R,cf f ps R=xB f ps R
abbrev yP(X:XF):qB:=⟨aV,xsT,X.cf⟩
def qv(f id:Nat):Nat:=match lk qh9 f with |Z l=>(lk l id).getD 2 |Y=>2
theorem K4:l7 qv 0 Tryz.prog.funcs.toList=O:=by kernel_rfl
noncomputable abbrev PR:=Tryz.prog
theorem sK:PR.follows .mixedOrders=O:=by kernel_rfl
theorem mD{dc d}: ∀{c:Code},cC dc c=O->d∈aH c->cC dc d=O
 | .seq a b,h,hd | .cond _ a b,h,hd=>by simp only[cC,zac] at h;simp only[aH,zaK] at hd;exact hd.elim (mD h.1) (mD h.2)
 | .block _ c,h,hd | .scope c,h,hd=>mD (c:=c) h hd
 | .loop c,h,hd=>by
  rcases zao.1 hd with rfl |hd
  ·exact h
  exact mD (c:=c) h hd
 | .region ..,_,hd | .skip,_,hd | .label _,_,hd | .exit _,_,hd | .ret,_,hd | .rangeFunc ..,_,hd | .goto _,_,hd | .refuse _,_,hd=>by cases hd
theorem qcZ f id:cC (qv f) (bA PR f id)=O:=by
 unfold bA;split
 next fn h=>
  split
  next c A=>
   cases l:hY id (aH c) with
   |none=>rfl
   |some d=>exact mD (iP K4 f fn c h A) (lB _ l)
  rfl
 rfl
noncomputable def aG H hk f id s:=
 w7 (gi PR (runK PR oB qv H 60 60) (aV f) hk (qv f) 60 (bA PR f id)) (aV f id) s
noncomputable def aO H hk (f:Nat) ps R:=
 oO PR (runK PR oB qv H 60 60) oB hk qv 60 f ps R
def FD X (f:Nat) h:=W8 PR (yP X) f h
def HD X H:=Qz PR (yP X) H
def LD X f id (g:S->K (PX×S)):= ∀s,KW (g s) (λx=>Ev λa b=>jK (cv PR (eL PR (yP X) a b) (aV f) a (bA PR f id)) (aV f id) a s=Z x)
theorem HD.nil{X}:HD X []:=Qz.nil
theorem HD.cons{X f h H}(l:FD X f h)(A:HD X H):HD X ((f,h)::H):=Qz.cons l A
inductive TC(X:XF)(f:Nat):List (Nat×(S->K (PX×S)))->Prop
 |nil:TC X f []
 |cons {id:Nat} {g:S->K (PX×S)} {r:List (Nat×(S->K (PX×S)))} (h:LD X f id g) (hr:TC X f r):TC X f ((id,g)::r)
theorem TC.get{X f hk}(h:TC X f hk): ∀id g,lk hk id=Z g->LD X f id g:=by
 induction h with
 |nil=>exact QB
 |cons h hr ih=>exact qcI h ih
theorem FD.mk{X H hk f}{h}(F:HD X H)(A:TC X f hk)(B: ∀ps R E,h ps R E->aO H hk f ps R E)(hu:uniq PR f=O:=by kernel_rfl):FD X f h:=
 W8.mk K4 F hu A.get (λps R E l=>by have:=B ps R E l;unfold aO at this;rw[Oq PR aV xsT _ X.cf qv H 60 60] at this;exact this)
theorem LD.par{X H hk f id}{g}(hH:HD X H)(U:TC X f hk)
  {A B:Type} (hd:A->B->S) (Inv:A->B->Prop) (G:A->B->Nat) (F:A->PX×S->Prop)
  (Q: ∀a b,Inv a b->aG H hk f id (hd a b) (roundPost (G a b) (λm s=> ∃l,s=hd a l/\Inv a l/\m=G a l) (F a)))
  (hg: ∀s E,g s E-> ∃a b,s=hd a b/\Inv a b/\ ∀x,F a x->E x) (hu:uniq PR f=O:=by kernel_rfl):LD X f id (ah (aV f id) g):=by
 refine KD λs0 E R=> ?_;obtain⟨a,b,rfl,h1,h2⟩:=hg s0 E R;obtain⟨x,g1,g2⟩:=qcB (keep:=aV f id) (kp1:=aV f) (O:=F a) K4 hH (qcZ f id) (λd hd h V=>by have:=U.get _ _ V;unfold LD at this;rwa [sc hu hd] at this) (I:=λm s=> ∃l,s=hd a l/\Inv a l/\m=G a l) (λn s L=>by obtain⟨l,rfl,h3,rfl⟩:=L;have:=Q a l h3;unfold aG at this;rw[Oq PR aV xsT _ X.cf qv H 60 60] at this;exact this) (G a b) (hd a b) ⟨b,rfl,h1,rfl⟩;exact⟨x,g2,h2 x g1⟩
theorem FD.weaken{X f A l}(h:FD X f A)(B: ∀ps R E,l ps R E->A ps R E):FD X f l:=λps R E F=>h ps R E (B ps R E F)
theorem FD.M6{X f fn h}(H:PR.funcs[f]?=Z fn)(l:gE f xsT=O)(L:gE f xsB=O)(B: ∀ps R E,h ps R E-> ∃x,xB f ps R=Z x/\E x):FD X f h:=
 W8.M6 H l λps R E A=>by obtain⟨x,G,F⟩:=B ps R E A;exact⟨x,by rw[<-G];exact X.eq f L ps R,F⟩
theorem FD.run{X f h}(A:FD X f h){ps R y}(l:h ps R (λx=>x=y)): ∃lf k,eL PR (yP X) lf k f ps R=Z y:=by obtain⟨x,F,B⟩:=A ps R _ l;subst B;exact F.some
def FC(f:Nat) h:=W8 PR oB f h
def HC H:=Qz PR oB H
theorem HC.nil:HC []:=Qz.nil
theorem HC.cons{f h H}(l:FC f h)(A:HC H):HC ((f,h)::H):=Qz.cons l A
theorem FC.mk{H f h}(A:HC H)(l: ∀ps R E,h ps R E->aO H [] f ps R E)(hu:uniq PR f=O:=by kernel_rfl):FC f h:=
 W8.mk K4 A hu QB l
noncomputable def K5:XF:=⟨xB,λ_ _ _ _=>rfl⟩
def j8(l:List Int)(r:Int):=if r<1\/r>J l then 0 else l.getD (r-1).toNat 0
def rJ(l:List Int):Nat->Nat
 |0=>0
 |k+1=>if l.getD k 0=0 then rJ l k else k+1
def cc(l:List Int):=l.take (rJ l (J l))
def rK n (f:Nat->Int):=(List.range n).map f
def qc0 v w:=rK (max (J v) (J w)) λi=>max (j8 v (i+1)) (j8 w (i+1))
def lh v r n:=rK (max (J v) r.toNat) λi=>if(i:Int)+1=r then n else j8 v (i+1)
def pZ v w:=cc (qc0 v w)
def gO v:=decide ((∀n∈v,0<=n)/\J v<=16/\J (cc v)=J v)
@[simp] theorem K6 n f:J (rK n f)=n:=by simp[rK]
theorem uc l: ∀k,rJ l k<=k
 |0=>zag 0
 |k+1=>by have:=uc l k;unfold rJ;split<;>omega
@[simp] theorem ud l:J (cc l)=rJ l (J l):=by have:=uc l (J l);simp[cc];omega
theorem HA l (i:Nat):j8 l ((i:Int)+1)=l.getD i 0:=by
 unfold j8;split
 next h=>
  have h:J l<=i:=by omega
  simp[zbq h]
 have:((i:Int)+1-1).toNat=i:=by omega
 rw[this]
theorem p7 l {r}(h:1<=r):j8 l r=l.getD (r-1).toNat 0:=by
 obtain⟨k,rfl⟩: ∃k:Nat,r=(k:Int)+1:=⟨(r-1).toNat,by omega⟩
 rw[HA];congr 1;omega
theorem BL n f i:(rK n f).getD i 0=if i<n then f i else 0:=by
 simp only[rK,zaj,zaw];split
 next h=>simp[h]
 rename_i h;simp[h]
theorem K7 l: ∀k i,rJ l k<=i->i<k->l.getD i 0=0
 |0,i,_,h=>by omega
 |k+1,i,h1,h2=>by
  unfold rJ at h1;split at h1
  ·by_cases e:i=k
   ·subst e;assumption
   exact K7 l k i h1 (by omega)
  omega
theorem K8 l: ∀k,rJ l k≠0->l.getD (rJ l k-1) 0≠0
 |0,h=>by simp[rJ] at h
 |k+1,h=>by
  unfold rJ at h⊢;split
  next A=>rw[zau A] at h;exact K8 l k h
  simpa
theorem OA l i:(cc l).getD i 0=l.getD i 0:=by
 have B:=uc l (J l);unfold cc;by_cases h:i<rJ l (J l)
 ·simp[h]
 rw[zaj,zbq (by simp;omega)];by_cases A:i<J l
 ·exact(K7 l (J l) i (by omega) A).symm
 simp[zbq (show J l<=i by omega)]
theorem K9 l n: ∀k,k<=n->rJ (l.take n) k=rJ l k
 |0,_=>rfl
 |k+1,h=>by
  have e:(l.take n).getD k 0=l.getD k 0:=by simp[show k<n by omega]
  unfold rJ;rw[e,K9 l n k (by omega)]
theorem qc1 l k:rJ l (rJ l k)=rJ l k:=by
 cases h:rJ l k with
 |zero=>rfl
 |succ m=>have:=K8 l k (by omega);rw[h] at this;unfold rJ;rw[zat (by simpa using this)]
theorem La l:cc (cc l)=cc l:=by
 have h:=uc l (J l);have:rJ (cc l) (J (cc l))=rJ l (J l):=by rw[ud];unfold cc;rw[K9 _ _ _ (zag _),qc1]
 rw[cc,this,zak (by simp)]
theorem ext_get{a b:List Int}(l:J a=J b)(h: ∀i,a.getD i 0=b.getD i 0):a=b:=by apply zbU l;intro i B A;have:=h i;simpa [zaj,B,A] using this
theorem HB{v:List Int}{i}(h:J v<=i):v.getD i 0=0:=by simp[zbq h]
theorem Xw v w i:(qc0 v w).getD i 0=max (v.getD i 0) (w.getD i 0):=by
 unfold qc0;rw[BL];split
 ·rw[HA,HA]
 rw[HB (v:=v) (by omega),HB (v:=w) (by omega)];rfl
abbrev OB(t r i:Int):D:= .agg [.int DD t,.int DD r,.int DD i]
abbrev stD(t r:Int):D:= .agg [.int DD t,.int DD r]
def BM(t r:Int):=decide (1<=t/\t<=1099511627776/\1<=r/\r<=16)
def bt(t r i:Int):=decide (1<=t/\t<=1099511627776/\1<=r/\r<=16/\0<=i/\i<=400000)
def Z2:=ID C
def Z3(E:P×List (Nat×En)->Prop):=E (Cs Z2,[])
def Z1 i:=decide (i>=(0:Int))
def Z0 t:=decide (t>=(1:Int))
theorem TD t r i E:(bif Z0 t then bif decide (t<=(1099511627776:Int)) then bif Z0 r then bif decide (r<=(16:Int)) then bif Z1 i then E (Cs (ID (decide (i<=(400000:Int)))),[]) else Z3 E else Z3 E else Z3 E else Z3 E else Z3 E)=(aO [] [] 124 [.d (OB t r i)] []) E:=by kernel_rfl
theorem OC t r i E:(bif Z0 t then bif decide (t<=(1099511627776:Int)) then bif Z0 r then bif decide (r<=(16:Int)) then bif Z1 i then E (Cs (ID (decide (i<=(400000:Int)))),[]) else Z3 E else Z3 E else Z3 E else Z3 E else Z3 E)=(aO [] [] 192 [.d (OB t r i)] []) E:=by kernel_rfl
def o5:bc:=λps R E=> ∃t r i,ps=[.d (OB t r i)]/\R=[]/\E (.d (.bool (bt t r i)),[])
def bL(l:List Int):=l.map (ue DD)
abbrev vD(v:List Int):P:= .d (.sl 1 (bL v))
def hAt:bc:=λps R E=> ∃l r,ps=[vD l,.d (.int DD r)]/\R=[]/\J l<=9223372036854775807/\E (.d (.int DD (j8 l r)),[])
def Za r:=dd (r-(1:Int))
def Zb es r:=BC es (Za r)
def Z8:=(9223372036854775807:Int)
def Z7:=(-9223372036854775808:Int)
def Z9 r:=decide (Z7<=r-(1:Int)/\r-(1:Int)<=Z8)
def Z5:=ue DD (0:Int)
def Z6(E:P×List (Nat×En)->Prop):=E (Cs Z5,[])
theorem qrv es r E:(bif decide (r<(1:Int)) then Z6 E else bif decide (r>(↑(J es):Int)) then Z6 E else ob (Z9 r) (ob (decide ((0:Int)<=r-(1:Int)/\r-(1:Int)<(↑(J es):Int))) (ob (bE PR (3:I) (Zb es r)) (E (Cs (ue DD (AC (Zb es r))),[])))))=(aO [] [] 106 [.d (.sl 1 es),.d (.int DD r)] []) E:=by kernel_rfl
theorem qlN es r E:(bif decide (r<(1:Int)) then Z6 E else bif decide (r>(↑(J es):Int)) then Z6 E else ob (Z9 r) (ob (decide ((0:Int)<=r-(1:Int)/\r-(1:Int)<(↑(J es):Int))) (ob (bE PR (3:I) (Zb es r)) (E (Cs (ue DD (AC (Zb es r))),[])))))=(aO [] [] 40 [.d (.sl 1 es),.d (.int DD r)] []) E:=by kernel_rfl
variable{X:XF}
theorem Xx{E:P×List (Nat×En)->Prop}{k a b R}(l:E (Cs (ue k a),R))(h:a=b):E (Cs (ue k b),R):=h▸l
theorem iT{E:P×List (Nat×En)->Prop}{a b R}(l:E (Cs (ID a),R))(h:a=b):E (Cs (ID b),R):=h▸l
theorem xy:FD X 124 o5:=FD.mk .nil .nil (by
 intro ps R E l;obtain⟨t,r,i,rfl,rfl,h⟩:=l
 (rw[<-TD];delta Z2 Z3 Z1 Z0)
 repeat' (first |refine az (λ_=> ?_) (λ_=> ?_))
 all_goals exact iT h (by simp only[zam,zbl,zcI,bt] at*;omega))
theorem uf:FD X 192 o5:=FD.mk .nil .nil (by
 intro ps R E l;obtain⟨t,r,i,rfl,rfl,h⟩:=l
 (rw[<-OC];delta Z2 Z3 Z1 Z0)
 repeat' (first |refine az (λ_=> ?_) (λ_=> ?_))
 all_goals exact iT h (by simp only[zam,zbl,zcI,bt] at*;omega))
@[simp] theorem eF l:J (bL l)=J l:=by simp[bL]
theorem mE{l i}(h:i<J l):BC (bL l) i= .int DD (l.getD i 0):=by simp[BC,bL,h]
theorem OD n:bE PR 3 (.int DD n)=O:=by kernel_rfl
theorem Xy{E:P×List (Nat×En)->Prop}{l r}(G:J l<=9223372036854775807)(B:E (.d (.int DD (j8 l r)),[])):
  bif decide (r<1) then E (.d (.int DD 0),[]) else bif decide (r>(J l:Int)) then E (.d (.int DD 0),[]) else
   bif decide (-9223372036854775808<=r-1/\r-1<=9223372036854775807) then bif decide (0<=r-1/\r-1<(J l:Int)) then bif bE PR 3 (BC (bL l) (r-1).toNat) then E (.d (.int DD (BC (bL l) (r-1).toNat).aj),[]) else False else False else False:=by
 refine az (λh=> ?_) λh=>az (λA=> ?_) λA=> ?_
 ·exact Xx B (by simp only[zam] at h;simp[j8,h])
 ·exact Xx B (by simp only[zam] at A;simp[j8,A])
 simp only[zbl] at h A;have F:(r-1).toNat<J l:=by omega
 rw[mE F];refine ao (by simp;omega) (ao (by simp;omega) (ao (OD _) ?_));exact Xx B (by rw[j8,zat (by omega)];rfl)
theorem qrw:FD X 106 hAt:=FD.mk .nil .nil (by
 intro ps R E B;obtain⟨l,r,rfl,rfl,A,h⟩:=B
 (rw[<-qrv];delta Za Zb Z8 Z7 Z9 Z5 Z6)
 simp only[eF];exact Xy A h)
theorem Lb:FD X 40 hAt:=FD.mk .nil .nil (by
 intro ps R E B;obtain⟨l,r,rfl,rfl,A,h⟩:=B
 (rw[<-qlN];delta Za Zb Z8 Z7 Z9 Z5 Z6)
 simp only[eF];exact Xy A h)
def sL(x y:Int):=if x<y then-1 else if x>y then 1 else 0
def TE(x y:Int):=if x≠0 then x else y
def vG t r h l:=TE (sL t h) (sL r l)
def lj t r i h l A:=TE (vG t r h l) (sL i A)
def ug(t r h l:Int):=decide (t<h\/t=h/\r<l)
abbrev itD(t r i:Int)(p:List UInt8)(d b:Bool):D:= .agg [.int DD t,.int DD r,.int DD i,.str p,.bool d,.bool b]
def Zf:=ue DD (1:Int)
def Zg(E:P×List (Nat×En)->Prop):=E (Cs Zf,[])
def Zd:=Cs (ue DD (-1:Int))
def Ze(E:P×List (Nat×En)->Prop):=E (Zd,[])
def Zh(x:Int) y:=decide (x<y)
def Zi x y E:=bif Zh x y then Ze E else bif decide (x>y) then Zg E else Z6 E
theorem TG x y E:(bif x !=x then bif y !=y then Z6 E else Ze E else bif y !=y then Zg E else Zi x y E)=(aO [] [] 108 [.d (.int DD x),.d (.int DD y)] []) E:=by kernel_rfl
theorem OE x y E:(bif !x==x then bif !y==y then Z6 E else Ze E else bif !y==y then Zg E else bif IT x y then Ze E else bif !(IT x y ||x==y) then Zg E else Z6 E)=(aO [] [] 86 [.d (.str x),.d (.str y)] []) E:=by kernel_rfl
def Zj x:=ue DD x
def Zk y:=[Zj y]
theorem qrx x y E:(bif AC (BC (Zj x::Zk y) 0) !=(0:Int) then E (Cs (ue DD (AC (BC (Zj x::Zk y) 0))),[]) else bif AC (BC (Zj x::Zk y) 1) !=(0:Int) then E (Cs (ue DD (AC (BC (Zj x::Zk y) 1))),[]) else Z6 E)=(aO [] [] 107 [.d (.sl 1 [.int DD x,.int DD y])] []) E:=by kernel_rfl
theorem Xz t r h l E:(bif decide (t<h) then E (Cs (ID O),[]) else bif t==h then E (Cs (ID (decide (r<l))),[]) else E (Cs (ID C),[]))=(aO [] [] 53 [.d (stD t r),.d (stD h l)] []) E:=by kernel_rfl
def mF:bc:=λps R E=> ∃x y,ps=[.d (.int DD x),.d (.int DD y)]/\R=[]/\E (.d (.int DD (sL x y)),[])
def hOr:bc:=λps R E=> ∃x y,ps=[.d (.sl 1 [.int DD x,.int DD y])]/\R=[]/\E (.d (.int DD (TE x y)),[])
def HE:bc:=λps R E=> ∃t r h l,ps=[.d (stD t r),.d (stD h l)]/\R=[]/\E (.d (.bool (ug t r h l)),[])
def Lc:bc:=λps R E=> ∃t r h l,ps=[.d (stD t r),.d (stD h l)]/\R=[]/\E (.d (.int DD (vG t r h l)),[])
def mG:bc:=λps R E=> ∃t r i h l A,ps=[.d (OB t r i),.d (OB h l A)]/\R=[]/\E (.d (.int DD (lj t r i h l A)),[])
def Zn:=EqR [] []
def Zo(E:P×List (Nat×En)->Prop):=λs0=> ∃l h,s0=[Cs (IM 1 (Zj l::Zk h))]/\Zn/\E (Cs (ue DD (TE l h)),[])
def Zl x:=Cs (Zj x)
def Zm y:=[Zl y]
theorem qlO t r h l E:(∃x y,Zl t::Zm h=Zl x::Zm y/\Zn/\ ∃A B,Zl r::Zm l=Zl A::Zm B/\Zn/\Zo E [Cs (IM 1 [ue DD (sL x y),ue DD (sL A B)])])=(aO [(108,mF),(107,hOr)] [] 69 [.d (stD t r),.d (stD h l)] []) E:=by kernel_rfl
def Zp h l B A:=[Cs (AM (Zj h::Zk l)),Cs (AM (Zj B::Zk A))]
theorem qia t r B F E:(∃G H R Q,Zp t r B F=Zp G H R Q/\Zn/\bif ug G H R Q then Ze E else∃h L A l,Zp B F t r=Zp h L A l/\Zn/\bif ug h L A l then Zg E else Z6 E)=(aO [(53,HE)] [] 142 [.d (stD t r),.d (stD B F)] []) E:=by kernel_rfl
theorem qc2 t r i h l B E:(∃A F H G,Zp t r h l=Zp A F H G/\Zn/\ ∃x y,Zl i::Zm B=Zl x::Zm y/\Zn/\Zo E [Cs (IM 1 [ue DD (vG A F H G),ue DD (sL x y)])])=(aO [(108,mF),(107,hOr),(69,Lc)] [] 78 [.d (OB t r i),.d (OB h l B)] []) E:=by kernel_rfl
theorem XA t r i F G H E:(∃h l B A,Zp t r F G=Zp h l B A/\Zn/\bif vG h l B A !=(0:Int) then E (Cs (ue DD (vG h l B A)),[]) else Zi i H E)=(aO [(142,Lc)] [] 98 [.d (OB t r i),.d (OB F G H)] []) E:=by kernel_rfl
theorem mI{E:P×List (Nat×En)->Prop}{k a b R}(l:E (Cs (ue k a),R))(h:a=b):E (Cs (ue k b),R):=h▸l
theorem OG{E:P×List (Nat×En)->Prop}{a b R}(l:E (Cs (ID a),R))(h:a=b):E (Cs (ID b),R):=h▸l
theorem BP(x:Int):(x !=x)=C:=by simp
theorem Ld: ∀ps R E,mF ps R E->aO [] [] 108 ps R E:=by
 intro ps R E B;obtain⟨x,y,rfl,rfl,A⟩:=B
 (rw[<-TG];delta Z5 Z6 Zf Zg Zd Ze Zh Zi)
 refine nN (BP x) (nN (BP y) ?_);refine az (λh=> ?_) λh=>az (λl=> ?_) λl=> ?_
 ·exact mI A (by
   have h:x<y:=by simpa using h
   simp[sL,h])
 ·exact mI A (by
   have h: ¬x<y:=by simpa using h
   have l:x>y:=by simpa using l
   simp[sL,h,l])
 exact mI A (by
  have h: ¬x<y:=by simpa using h
  have l: ¬x>y:=by simpa using l
  simp[sL,h,l])
def HF x y:=if IT x y=O then-1 else if x=y then 0 else 1
def xA:bc:=λps R E=> ∃x y,ps=[.d (.str x),.d (.str y)]/\R=[]/\E (.d (.int DD (HF x y)),[])
theorem TI: ∀ps R E,xA ps R E->aO [] [] 86 ps R E:=by
 intro ps R E B;obtain⟨x,y,rfl,rfl,A⟩:=B
 (rw[<-OE];delta Zf Zg Zd Ze Z5 Z6)
 refine nN (by simp) (nN (by simp) ?_);refine az (λh=> ?_) λh=>az (λl=> ?_) λl=> ?_
 ·exact mI A (by simp[HF,h])
 ·exact mI A (by
   have l: ¬x=y:=by simp[h] at l;simpa using l
   simp[HF,h,l])
 exact mI A (by
  have l:x=y:=by simp[h] at l;simpa using l
  subst l;simp[HF,h])
theorem bOr: ∀ps R E,hOr ps R E->aO [] [] 107 ps R E:=by
 intro ps R E B;obtain⟨x,y,rfl,rfl,A⟩:=B
 (rw[<-qrx];delta Z5 Z6 Zj Zk)
 refine az (λh=> ?_) λh=>az (λl=> ?_) λl=> ?_
 ·exact mI A (by
   have h:x≠0:=by simpa [BC,AC] using h
   simp[TE,h,BC,AC])
 ·exact mI A (by
   have h:x=0:=by simpa [BC,AC] using h
   simp[TE,h,BC,AC])
 exact mI A (by
  have h:x=0:=by simpa [BC,AC] using h
  have l:y=0:=by simpa [BC,AC] using l
  simp[TE,h,l])
theorem qc3: ∀ps R E,HE ps R E->aO [] [] 53 ps R E:=by
 intro ps R E F;obtain⟨t,r,A,G,rfl,rfl,B⟩:=F;rw[<-Xz];refine az (λh=> ?_) λh=>az (λl=> ?_) λl=> ?_
 ·exact OG B (by
   have h:t<A:=by simpa using h
   simp[ug,h])
 ·exact OG B (by
   have l:t=A:=by simpa using l
   simp[ug,l])
 exact OG B (by
  have h: ¬t<A:=by simpa using h
  have l: ¬t=A:=by simpa using l
  simp[ug,l];omega)
theorem qlR: ∀ps R E,Lc ps R E->aO [(108,mF),(107,hOr)] [] 69 ps R E:=by
 intro ps R E l;obtain⟨t,r,A,B,rfl,rfl,h⟩:=l
 (rw[<-qlO];delta Zn Zj Zk Zo Zl Zm)
 exact⟨_,_,rfl,rfl,_,_,rfl,rfl,_,_,rfl,rfl,h⟩
theorem XB: ∀ps R E,mG ps R E->aO [(108,mF),(107,hOr),(69,Lc)] [] 78 ps R E:=by
 intro ps R E l;obtain⟨t,r,i,A,B,F,rfl,rfl,h⟩:=l
 (rw[<-qc2];delta Zn Zj Zk Zo Zl Zm Zp)
 exact⟨_,_,_,_,rfl,rfl,_,_,rfl,rfl,_,_,rfl,rfl,h⟩
section
variable{X:XF}
theorem Le:FD X 53 HE:=FD.mk .nil .nil qc3
theorem qib:FD X 142 Lc:=FD.mk (.cons Le .nil) .nil (by
 intro ps R E A;obtain⟨t,r,F,G,rfl,rfl,l⟩:=A
 (rw[<-qia];delta Z5 Z6 Zf Zg Zd Ze Zn Zj Zk Zp)
 refine⟨_,_,_,_,rfl,rfl,az (λh=> ?_) λh=>⟨_,_,_,_,rfl,rfl,az (λB=> ?_) λB=> ?_⟩⟩
 all_goals exact mI l (by simp only[ug,zam,zbl] at*;simp only[vG,TE,sL];(repeat' split)<;>omega))
theorem o8:FD X 98 mG:=FD.mk (.cons qib .nil) .nil (by
 intro ps R E B;obtain⟨t,r,i,G,H,L,rfl,rfl,A⟩:=B
 (rw[<-XA];delta Z5 Z6 Zf Zg Zd Ze Zh Zi Zn Zj Zk Zp)
 refine⟨_,_,_,_,rfl,rfl,az (λh=> ?_) λh=>az (λF=> ?_) λF=>az (λl=> ?_) λl=> ?_⟩
 all_goals exact mI A (by simp only[bne_iff_ne,bne_eq_false_iff_eq,ne_eq,zam,zbl] at*;simp only[lj,TE,sL];(repeat' split)<;>omega))
theorem Fa:FD X 108 mF:=FD.mk .nil .nil Ld
theorem qlS:FD X 107 hOr:=FD.mk .nil .nil bOr
theorem qgb:FD X 69 Lc:=FD.mk (.cons Fa (.cons qlS .nil)) .nil qlR
theorem qc4:FD X 78 mG:=FD.mk (.cons Fa (.cons qlS (.cons qgb .nil))) .nil XB
end
theorem Fb:FC 108 mF:=FC.mk .nil Ld
theorem OH:FC 86 xA:=FC.mk .nil TI
theorem qlT:FC 107 hOr:=FC.mk .nil bOr
theorem qgc:FC 69 Lc:=FC.mk (.cons Fb (.cons qlT .nil)) qlR
theorem zT:FC 78 mG:=FC.mk (.cons Fb (.cons qlT (.cons qgc .nil))) XB
theorem FC.TJ{g h}(A:FC g h){x y i}(l:h [.d x,.d y] [] (λz=>z=(.d (.int DD i),[]))):DQ PR oB g x y i:=by obtain⟨z,F,B⟩:=A _ _ _ l;subst B;exact F
abbrev iD(n:Int):P:= .d (.int DD n)
abbrev qic(v w:List Int)(k:Int):S:=⟨26,[(0,vD v),(1,vD w),(5,iD k)],[]⟩
abbrev qc5(v:List Int):S:=⟨21,[(0,vD v)],[]⟩
abbrev qid(v:List Int)(k:Int):S:=⟨21,[(0,vD v),(3,iD k)],[]⟩
abbrev qlU(v w o:List Int)(m:Nat)(k:Int):S:=⟨28,[(0,vD v),(1,vD w),(5,If 0 0 m),(6,iD k)],[(0,⟨0,Y,.arr 3 C (bL o)⟩)]⟩
abbrev qlV(v o:List Int)(r n:Int)(m:Nat)(k:Int):S:=⟨39,[(0,vD v),(1,iD r),(2,iD n),(8,If 0 0 m),(9,iD k)],[(0,⟨0,Y,.arr 3 C (bL o)⟩)]⟩
abbrev qie(v:List Int)(n k:Int):S:=⟨25,[(0,vD v),(5,vD v),(6,iD n),(7,iD k)],[]⟩
abbrev qif(v:List Int)(k:Int):S:=⟨24,[(0,vD v),(3,iD k)],[]⟩
def ZC(E:PX×S->Prop):=E (CE 0,AD 26 [] [])
def Zz k:=ue DD (k+(1:Int))
def ZA k:=Cs (Zz k)
def ZB k:=[(5,ZA k)]
def Zw v:=Cs (IM 1 (bL v))
def Zy w:=(1,Zw w)
def Zx v:=(0,Zw v)
def Zv k:=decide (Z7<=k+(1:Int)/\k+(1:Int)<=Z8)
def Zu:=[(4,Cs Z2)]
def Zs k:=dd k
noncomputable def Zt v k:=bE PR (3:I) (BC (bL v) (Zs k))
def Zq v:=(↑(J (bL v)):Int)
def Zr k v:=decide ((0:Int)<=k/\k<Zq v)
theorem qig v w k E:(bif decide (k<Zq v) then ob (Zr k v) (ob (Zt v k) (ob (Zr k w) (ob (Zt w k) (bif AC (BC (bL v) (Zs k)) !=AC (BC (bL w) (Zs k)) then E (Q2,AD 26 Zu []) else ob (Zv k) (E (xz,AD 26 (Zx v::Zy w::ZB k) [])))))) else ZC E)=(aG [] [] 184 4 (qic v w k)) E:=by kernel_rfl
def ZE(E:PX×S->Prop) v:=E (CE 0,AD 21 [Zx v] [])
def ZD v:=decide (Z7<=Zq v-(1:Int)/\Zq v-(1:Int)<=Z8)
theorem qih v E:(bif decide (Zq v>(0:Int)) then ob (ZD v) (ob (decide ((0:Int)<=Zq v-(1:Int)/\Zq v-(1:Int)<Zq v)) (ob (bE PR (3:I) (BC (bL v) (dd (Zq v-(1:Int))))) (bif AC (BC (bL v) (dd (Zq v-(1:Int))))==(0:Int) then ob (ZD v) (ob (decide ((0:Int)<=Zq v-(1:Int)/\Zq v-(1:Int)<=Zq v)) (E (xz,AD 21 [(0,Cs (IM 1 (List.drop 0 (ab (dd (Zq v-(1:Int))) (bL v)))))] []))) else ZE E v))) else ZE E v)=(aG [] [] 203 1 (qc5 v)) E:=by kernel_rfl
def ZH k:=[(3,Zl k)]
def ZG k:=Cs (ue DD (k-(1:Int)))
def ZF k:=decide (k>(0:Int))
theorem qii v k E:(bif ZF k then ob (Z9 k) (ob (decide ((0:Int)<=k-(1:Int)/\k-(1:Int)<Zq v)) (ob (bE PR (3:I) (BC (bL v) (Za k))) (bif AC (BC (bL v) (Za k))==(0:Int) then ob (Z9 k) (E (xz,AD 21 [Zx v,(3,ZG k)] [])) else E (CE 0,AD 21 (Zx v::ZH k) [])))) else E (CE 0,AD 21 (Zx v::ZH k) []))=(aG [] [] 64 2 (qid v k)) E:=by kernel_rfl
def ZO o:=[(0,we 0 Y (AS (3:I) C (bL o)))]
def ZM m:=If 0 0 m
def ZN m:=(5,ZM m)
def ZL k:=[(6,ZA k)]
def ZJ:=9223372036854775807
def ZK(l:List Int):=J l<=ZJ
theorem qij v w o (m:Nat) k E:(bif decide (k<=max (Zq v) (Zq w)) then∃l r,Zw v::Zm k=Zw l::Zm r/\Zn/\ZK l/\ ∃h A,Zw w::Zm k=Zw h::Zm A/\Zn/\ZK h/\ob (gr m (J (bL o))&&aB (m+J [ue DD (max (j8 l r) (j8 h A))]) 8) (ob (Zv k) (E (xz,AD 28 (Zx v::Zy w::(5,If 0 0 (m+J [ue DD (max (j8 l r) (j8 h A))]))::ZL k) [(0,we 0 Y (AS (3:I) C (ab m (bL o)++[ue DD (max (j8 l r) (j8 h A))])))]))) else E (CE 0,AD 28 [ZN m] (ZO o)))=(aG [(40,hAt)] [] 38 3 (qlU v w o m k)) E:=by kernel_rfl
def ZP k:=[(9,ZA k)]
theorem qik v o r n (m:Nat) k E:(bif decide (k<=max (Zq v) r) then bif k==r then ob (gr m (J (bL o))&&aB (m+J (Zk n)) 8) (ob (Zv k) (E (xz,AD 39 (Zx v::(1,Zl r)::(2,Zl n)::(8,If 0 0 (m+J (Zk n)))::ZP k) [(0,we 0 Y (AS (3:I) C (ab m (bL o)++Zk n)))]))) else∃l h,Zw v::Zm k=Zw l::Zm h/\Zn/\ZK l/\ob (gr m (J (bL o))&&aB (m+J [ue DD (j8 l h)]) 8) (ob (Zv k) (E (xz,AD 39 (Zx v::(1,Zl r)::(2,Zl n)::(8,If 0 0 (m+J [ue DD (j8 l h)]))::ZP k) [(0,we 0 Y (AS (3:I) C (ab m (bL o)++[ue DD (j8 l h)])))]))) else E (CE 0,AD 39 [(8,ZM m)] (ZO o)))=(aG [(40,hAt)] [] 42 5 (qlV v o r n m k)) E:=by kernel_rfl
def ZR k:=[(7,ZA k)]
def ZQ n:=(6,Zl n)
theorem qil v n k E:(bif Zh k n then ob (Zr k v) (ob (Zt v k) (bif decide (AC (BC (bL v) (Zs k))<(0:Int)) then E (Q2,AD 25 [Zx v,(2,Cs Z2)] []) else ob (Zv k) (E (xz,AD 25 (Zx v::(5,Zw v)::ZQ n::ZR k) [])))) else E (CE 0,AD 25 [Zx v] []))=(aG [] [] 105 2 (qie v n k)) E:=by kernel_rfl
theorem qim v k E:(bif decide (k<Zq v) then ob (Zr k v) (ob (Zt v k) (bif decide (AC (BC (bL v) (Zs k))<(0:Int)) then E (Q2,AD 24 [Zx v,(2,Cs Z2)] []) else ob (Zv k) (E (xz,AD 24 [Zx v,(3,ZA k)] [])))) else E (CE 0,AD 24 [Zx v] []))=(aG [] [] 140 2 (qif v k)) E:=by kernel_rfl
variable{X:XF}
theorem j9{k}(l: -9223372036854775808<=k)(h:k<9223372036854775807):decide ((-9223372036854775808:Int)<=k+(1:Int)/\k+(1:Int)<=(9223372036854775807:Int))=O:=by simp;omega
theorem o9{p:Prop}[Decidable p] (h:p):decide p=O:=by grind
theorem rL{p:Prop}[Decidable p] (h: ¬p):decide p=C:=by grind
theorem bj{p:Prop}[Decidable p] {A B:Prop}(F:p->A)(l: ¬p->B):cond (decide p) A B:=az (λh=>F (by grind)) (λh=>l (by grind))
theorem bu{p:Prop}[Decidable p] {A:Prop}(l:p)(h:A):cond (decide p) A False:=ao (by grind) h
theorem ju{a b:Int}{A B:Prop}(F:a=b->A)(l:a≠b->B):cond (a==b) A B:=az (λh=>F (by grind)) (λh=>l (by grind))
theorem Lf{a b:Int}{A B:Prop}(F:a≠b->A)(l:a=b->B):cond (a !=b) A B:=az (λh=>F (by grind)) (λh=>l (by grind))
theorem xC{o m}(h:m=J o) x:ab m (bL o)++[ue DD x]=bL (o++[x]):=by grind [List.take_of_length_le,bL]
theorem XC{m n b}(h:(m+n)*b<=140737488355328)(B:m+n<=9223372036854775807)(l:List D)(A:m<=J l):(gr m (J l)&&aB (m+n) b)=O:=by simp[A,bP h B]
abbrev nq(v:List Int):=J v<=1000000
def qlW:S->K (PX×S):=λs E=> ∃v w,s=qic v w 0/\(J v=J w/\nq v)/\(v≠w->E (.ret,⟨26,[(4,.d (.bool C))],[]⟩))/\(v=w->E (.exit 0,⟨26,[],[]⟩))
theorem qc6:LD X 184 4 (ah (aV 184 4) qlW):=LD.par .nil .nil
 (A:=List Int×List Int) (B:=Int) (λa k=>qic a.1 a.2 k)
 (λa k=>(J a.1=J a.2/\nq a.1)/\0<=k/\k<=J a.1/\ ∀i:Nat,(i:Int)<k->a.1.getD i 0=a.2.getD i 0)
 (λa k=>(J a.1-k).toNat)
 (λa x=>(a.1≠a.2/\x=(.ret,⟨26,[(4,.d (.bool C))],[]⟩))\/(a.1=a.2/\x=(.exit 0,⟨26,[],[]⟩)))
 (by
  rintro⟨v,w⟩ k ⟨⟨hl,hs⟩,h0,F,he⟩;dsimp only at*
  (rw[<-qig];delta ZC Zz ZA ZB Zw Zy Zx Z8 Z7 Zv Z2 Zu Zs Zt Zq Zr)
  simp only[eF];unfold nq at hs;refine bj (λh=> ?_) λh=> ?_
  ·rw[mE (by omega),mE (by omega)];refine bu (by omega) (ao (OD _) (bu (by omega) (ao (OD _) (Lf (λl=> ?_) λl=>ao (j9 (by omega) (by omega)) ?_))))
   ·exact .inl ⟨λe=>l (by rw[e]),rfl⟩
   exact⟨_,by omega,k+1,rfl,⟨⟨hl,hs⟩,by omega,by omega,λi G=>by
    by_cases e:(i:Int)=k
    ·have:i=k.toNat:=by omega
     rw[this];exact l
    grind⟩,rfl⟩
  exact .inr ⟨ext_get hl λi=>by grind,rfl⟩)
 (by rintro s E ⟨v,w,rfl,F,L,H⟩;refine⟨(v,w),0,rfl,⟨F,by omega,by omega,λi G=>by omega⟩,?_⟩;grind)
theorem TK v n:(bL v).take n=bL (v.take n):=by simp[bL]
def qlX:S->K (PX×S):=λs E=> ∃v,s=qc5 v/\nq v/\E (.exit 0,⟨21,[(0,vD (cc v))],[]⟩)
theorem qc7:LD X 203 1 (ah (aV 203 1) qlX):=LD.par .nil .nil
 (A:=List Int) (B:=Nat) (λa k=>qc5 (a.take k))
 (λa k=>nq a/\k<=J a/\rJ a k=rJ a (J a))
 (λa k=>k)
 (λa x=>x=(.exit 0,⟨21,[(0,vD (cc a))],[]⟩))
 (by
  rintro v k ⟨H,L,G⟩
  (rw[<-qih];delta Zw Zx ZE Z8 Zq Z7 ZD)
  have F:J (v.take k)=k:=by simp;omega
  unfold nq at H;simp only[eF,F];refine bj (λh=> ?_) λh=> ?_
  ·have hk:((k:Int)-1).toNat=k-1:=by omega
   have Q:(v.take k).getD (k-1) 0=v.getD (k-1) 0:=by grind
   obtain⟨j,rfl⟩: ∃j,k=j+1:=⟨k-1,by omega⟩
   simp only[hk];rw[mE (by omega),Q];refine bu (by omega) (bu (by omega) (ao (OD _) (ju (λl=> ?_) λl=> ?_)))
   ·replace l:v.getD j 0=0:=l
    refine bu (by omega) (bu (by omega) ?_);refine⟨_,zdg j,j,?_,⟨H,by omega,by rw[<-G,rJ,zau l]⟩,rfl⟩;simp[qc5,bL,List.take_take]
   replace l:v.getD j 0≠0:=l
   have:cc v=v.take (j+1):=by rw[cc,<-G,rJ,zat l]
   show _=_;rw[this]
  have:k=0:=by omega
  subst this;have:cc v=v.take 0:=by rw[cc,<-G];rfl
  show _=_;rw[this])
 (by rintro s E ⟨v,rfl,L,R⟩;refine⟨v,J v,by rw[zan],⟨L,zag _,rfl⟩,?_⟩;grind)
def qlY:S->K (PX×S):=λs E=> ∃v n,s=qid v n/\(n=(J v:Int)/\nq v)/\E (.exit 0,⟨21,[(0,vD v),(3,iD (rJ v (J v)))],[]⟩)
theorem qc8:LD X 64 2 (ah (aV 64 2) qlY):=LD.par .nil .nil
 (A:=List Int) (B:=Int) (λa k=>qid a k)
 (λa k=>nq a/\0<=k/\k<=J a/\rJ a k.toNat=rJ a (J a))
 (λa k=>k.toNat)
 (λa x=>x=(.exit 0,⟨21,[(0,vD a),(3,iD (rJ a (J a)))],[]⟩))
 (by
  rintro v k ⟨G,U,L,F⟩
  (rw[<-qii];delta Zj Zl ZH ZG Zw Zx Za Zq Z8 Z7 Z9 ZF)
  unfold nq at G;simp only[eF];refine bj (λh=> ?_) λh=> ?_
  ·have H:k.toNat=(k-1).toNat+1:=by omega
   rw[mE (by omega)];refine bu (by omega) (bu (by omega) (ao (OD _) (ju (λl=> ?_) λl=> ?_)))
   ·replace l:v.getD (k-1).toNat 0=0:=l
    refine bu (by omega) ⟨_,by omega,k-1,rfl,⟨G,by omega,by omega,by rw[<-F,H,rJ,zau l]⟩,rfl⟩
   replace l:v.getD (k-1).toNat 0≠0:=l
   rw[H,rJ,zat l] at F;show _=_;simp;omega
  have:k=0:=by omega
  subst this;show _=_;rw[<-F];rfl)
 (by rintro s E ⟨v,n,rfl,⟨Q,L⟩,R⟩;grind)
variable{X:XF}
def XD(f:Nat->Int) k (o:List Int):= ∀i,i<k->o.getD i 0=f i
theorem XD.set{f k o}(h:XD f k o)(hk:k<J o):XD f (k+1) (o.set k (f k)):=λi l=>by
 by_cases e:i=k
 ·grind
 have:=h i (by omega);grind
theorem XD.all{f o}(h:XD f (J o) o):o=rK (J o) f:=ext_get (by simp) λi=>by
 rw[BL];split
 ·exact h i (by assumption)
 grind
theorem TL n f:rK (n+1) f=rK n f++[f n]:=by simp[rK,List.range_succ]
theorem qgd{m}(h:m<=1000000)(x:D):aB (m+J [x]) 8=O:=bP (by simp;omega) (by simp;omega)
def Lg(g:Int->Int->Int) v w n:=rK n λi=>g (j8 v (i+1)) (j8 w (i+1))
theorem QQ{f id n t H}(hH:HD X H)
  {A:Type} (hd:A->List Int->Nat->Int->S) (l:A->Prop) (len:A->Nat) (F:A->Nat->Int)
  (G: ∀(a:A) (o:List Int) (m:Nat) (k:Int),l a->len a<=1000000->1<=k->k<=len a+1->m=J o->(m:Int)+1=k-> ∀E,(k<=len a->E (.normal,hd a (o++[F a m]) (m+1) (k+1)))->(¬k<=len a->E (.exit 0,⟨n,[(t,If 0 0 m)],[(0,⟨0,Y,.arr 3 C (bL o)⟩)]⟩))->aG H [] f id (hd a o m k) E)
  {g} (V: ∀s E,g s E-> ∃a,s=hd a [] 0 1/\l a/\len a<=1000000/\E (.exit 0,⟨n,[(t,If 0 0 (len a))],[(0,⟨0,Y,.arr 3 C (bL (rK (len a) (F a)))⟩)]⟩)) (hu:uniq PR f=O:=by kernel_rfl):
  LD X f id (ah (aV f id) g):=LD.par hH .nil (hu:=hu)
 (A:=A) (B:=List Int×Nat×Int) (λa b=>hd a b.1 b.2.1 b.2.2)
 (λa b=>l a/\len a<=1000000/\b.2.1<=len a/\b.1=rK b.2.1 (F a)/\b.2.2=b.2.1+1)
 (λa b=>len a+1-b.2.1)
 (λa x=>x=(.exit 0,⟨n,[(t,If 0 0 (len a))],[(0,⟨0,Y,.arr 3 C (bL (rK (len a) (F a)))⟩)]⟩))
 (by
  rintro a ⟨o,m,k⟩ ⟨Q,R,hm,L,hk⟩;dsimp only at*
  refine G a o m k Q R (by omega) (by omega) (by rw[L];simp) (by omega) _ (λh=> ?_) λh=> ?_
  ·exact⟨_,by grind,(o++[F a m],m+1,k+1),rfl,⟨Q,R,by grind,by rw[L,TL],by grind⟩,rfl⟩
  have:m=len a:=by omega
  subst this;subst L;rfl)
 (by intro s E U;obtain⟨a,rfl,h1,h2,h3⟩:=V s E U;refine⟨a,([],0,1),rfl,⟨h1,h2,za4 _,rfl,rfl⟩,?_⟩;grind)
def qlZ(g:Int->Int->Int):S->K (PX×S):=λs E=> ∃v w es,s=⟨28,[(0,vD v),(1,vD w),(5,If 0 0 0),(6,iD 1)],[(0,⟨0,Y,.arr 3 C es⟩)]⟩/\(es=[]/\nq v/\nq w)/\
 E (.exit 0,⟨28,[(5,If 0 0 (max (J v) (J w)))],[(0,⟨0,Y,.arr 3 C (bL (Lg g v w (max (J v) (J w))))⟩)]⟩)
theorem qc9:LD X 38 3 (ah (aV 38 3) (qlZ max)):=QQ (.cons Lb .nil)
 (A:=List Int×List Int) (λa o m k=>qlU a.1 a.2 o m k) (λa=>nq a.1/\nq a.2) (λa=>max (J a.1) (J a.2)) (λa i=>max (j8 a.1 (i+1)) (j8 a.2 (i+1)))
 (by
  rintro⟨v,w⟩ o m k ⟨B,l⟩ hl h1 h2 hm hk E p1 p2;dsimp only at*
  unfold nq at B l
  (rw[<-qij];delta ZO ZM ZN Zz ZA ZL Zw Zy Zx Z8 Z7 Zv ZJ ZK Zn Zj Zl Zm Zq)
  simp only[eF];refine bj (λh=> ?_) λh=>p2 (by omega);refine⟨v,k,rfl,rfl,by omega,w,k,rfl,rfl,by omega,ao ?_ (ao (j9 (by omega) (by omega)) ?_)⟩
  ·rw[qgd (by omega)];simp;omega
  grind [xC])
 (by rintro s E ⟨v,w,es,rfl,⟨rfl,B,l⟩,F⟩;refine⟨(v,w),rfl,⟨B,l⟩,by grind,F⟩)
def ql0:S->K (PX×S):=λs E=> ∃v r n es,s=⟨39,[(0,vD v),(1,iD r),(2,iD n),(8,If 0 0 0),(9,iD 1)],[(0,⟨0,Y,.arr 3 C es⟩)]⟩/\(es=[]/\nq v/\1<=r/\r<=16)/\
 E (.exit 0,⟨39,[(8,If 0 0 (max (J v) r.toNat))],[(0,⟨0,Y,.arr 3 C (bL (lh v r n))⟩)]⟩)
theorem qda:LD X 42 5 (ah (aV 42 5) ql0):=QQ (.cons Lb .nil)
 (A:=List Int×Int×Int) (λa o m k=>qlV a.1 o a.2.1 a.2.2 m k) (λa=>nq a.1/\1<=a.2.1/\a.2.1<=16) (λa=>max (J a.1) a.2.1.toNat) (λa i=>if(i:Int)+1=a.2.1 then a.2.2 else j8 a.1 (i+1))
 (by
  rintro⟨v,r,n⟩ o m k ⟨B,oi,hr1⟩ hl H G hm hk E p1 p2;dsimp only at*
  unfold nq at B
  (rw[<-qik];delta ZO ZM ZJ ZK Zn Zj Zl Zm Zw Zz ZA ZP Zx Z8 Z7 Zv Zk Zq)
  simp only[eF];have l: ∀x:D,(gr m (J (bL o))&&aB (m+J [x]) 8)=O:=λx=>by rw[qgd (by omega)];simp;omega
  simp only[eF] at l;refine bj (λh=> ?_) λh=>p2 (by omega);have:=p1 (by omega);rw[hk] at this;refine ju (λF=> ?_) λF=> ?_
  ·rw[zau F] at this;refine ao (l _) (ao (j9 (by omega) (by omega)) ?_);rw[xC hm];exact this
  rw[zat F] at this;refine⟨v,k,rfl,rfl,by omega,ao (l _) (ao (j9 (by omega) (by omega)) ?_)⟩;rw[xC hm];exact this)
 (by rintro s E ⟨v,r,n,es,rfl,⟨rfl,B,H,G⟩,L⟩;refine⟨(v,r,n),rfl,⟨B,H,G⟩,by grind,L⟩)
def ql1:S->K (PX×S):=λs E=> ∃v n,s=qie v n 0/\(n=J v/\nq v)/\(¬(∀x∈v,0<=x)->E (.ret,⟨25,[(0,vD v),(2,.d (.bool C))],[]⟩))/\((∀x∈v,0<=x)->E (.exit 0,⟨25,[(0,vD v)],[]⟩))
def ql2:S->K (PX×S):=λs E=> ∃v,s=qif v 0/\nq v/\(¬(∀x∈v,0<=x)->E (.ret,⟨24,[(0,vD v),(2,.d (.bool C))],[]⟩))/\((∀x∈v,0<=x)->E (.exit 0,⟨24,[(0,vD v)],[]⟩))
def qge:bc:=λps R E=> ∃v w,ps=[vD v,vD w]/\R=[]/\nq v/\E (.d (.bool (decide (v=w))),[])
def uh:bc:=λps R E=> ∃v,ps=[vD v]/\R=[]/\nq v/\E (vD (cc v),[])
def XE:bc:=λps R E=> ∃v w,ps=[vD v,vD w]/\R=[]/\(nq v/\nq w)/\E (vD (pZ v w),[])
def ql3:bc:=λps R E=> ∃v r n,ps=[vD v,iD r,iD n]/\R=[]/\nq v/\(¬(1<=r/\r<=16)->E (.cy [.sl 0 0 0,iD 1],[(0,⟨0,Y,.arr 3 C []⟩)]))/\((1<=r/\r<=16)->E (.cy [vD (cc (lh v r n)),iD 0],[]))
def ql4:bc:=λps R E=> ∃v,ps=[vD v]/\R=[]/\nq v/\E (.d (.bool (gO v)),[])
def ZT:=Cs (ID O)
def ZU(E:P×List (Nat×En)->Prop):=E (ZT,[])
def ZS:=[(5,Cs Z5)]
theorem ql5 v w E:(bif Zq v !=Zq w then Z3 E else∃h l,AD 26 (Zx v::Zy w::ZS) []=AD 26 (Zx h::Zy l::ZS) []/\(J h=J l/\nq h)/\(h≠l->Z3 E)/\(h=l->ZU E))=(aO [] [(4,ah (aV 184 4) qlW)] 184 [vD v,vD w] []) E:=by kernel_rfl
theorem ql6 v E:(∃h,AD 21 [(0,Cs (IM 1 (bL v)))] []=AD 21 [(0,Cs (IM 1 (bL h)))] []/\nq h/\E (Cs (IM 1 (bL (cc h))),[]))=(aO [] [(1,ah (aV 203 1) qlX)] 203 [vD v] []) E:=by kernel_rfl
theorem ql7 v E:(∃h n,AD 21 [Zx v,(3,Cs (ue DD (Zq v)))] []=AD 21 (Zx h::ZH n) []/\(n=(↑(J h):Int)/\nq h)/\ob (decide ((0:Int)<=(↑(rJ h (J h)):Int)/\(↑(rJ h (J h)):Int)<=Zq h)) (E (Cs (IM 1 (List.drop 0 (ab (rJ h (J h)) (bL h)))),[])))=(aO [] [(2,ah (aV 64 2) qlY)] 64 [vD v] []) E:=by kernel_rfl
def ZY v:=[Zw v]
def ZX es:=[(0,we 0 Y (AS (3:I) C es))]
def ZZ:=[(0,we 0 Y (AS (3:I) C []))]
def ZV:=If 0 0 0
def ZW h l:=[Zx h,Zy l,(5,ZV),(6,Cs Zf)]
theorem XG v w E:(∃h l es,AD 28 (ZW v w) ZZ=AD 28 (ZW h l) (ZX es)/\(es=[]/\nq h/\nq l)/\ ∃v,[Cs (IM 1 (ab (max (J h) (J l)) (bL (Lg max h l (max (J h) (J l))))))]=ZY v/\Zn/\nq v/\E (Cs (IM 1 (bL (cc v))),[]))=(aO [(64,uh)] [(3,ah (aV 38 3) (qlZ max))] 38 [vD v,vD w] []) E:=by kernel_rfl
def QR:=[Cs Z5]
def Z11 A l h:=[Zx A,(1,Zl l),(2,Zl h),(8,ZV),(9,Cs Zf)]
def Z10(E:P×List (Nat×En)->Prop):=E (P.cy [ZV,Cs Zf],ZZ)
theorem qdb v r n E:(bif decide (r<(1:Int)) then Z10 E else bif decide (r>(16:Int)) then Z10 E else∃l h A es,AD 39 (Z11 v r n) ZZ=AD 39 (Z11 l h A) (ZX es)/\(es=[]/\nq l/\(1:Int)<=h/\h<=(16:Int))/\ ∃v,[Cs (IM 1 (ab (max (J l) (Zs h)) (bL (lh l h A))))]=ZY v/\Zn/\nq v/\E (P.cy (Cs (IM 1 (bL (cc v)))::QR),[]))=(aO [(64,uh)] [(5,ah (aV 42 5) ql0)] 42 [vD v,iD r,iD n] []) E:=by kernel_rfl
def Z14(h:List Int):= ∀x,x∈h->(0:Int)<=x
def xD:=[(7,Cs Z5)]
theorem ql8 v E:(∃h n,AD 25 (Zx v::(5,Zw v)::(6,Cs (ue DD (Zq v)))::xD) []=AD 25 (Zx h::(5,Zw h)::ZQ n::xD) []/\(n=(↑(J h):Int)/\nq h)/\(¬Z14 h->Z3 E)/\(Z14 h->bif decide (Zq h<=(16:Int)) then∃v,ZY h=ZY v/\Zn/\nq v/\E (Cs (ID ((↑(J (bL (cc v))):Int)==Zq h)),[]) else Z3 E))=(aO [(149,uh)] [(2,ah (aV 105 2) ql1)] 105 [vD v] []) E:=by kernel_rfl
def Z15 h:=AD 24 [Zx h,(3,Cs Z5)] []
theorem ql9 v E:(∃l,Z15 v=Z15 l/\nq l/\(¬Z14 l->Z3 E)/\(Z14 l->bif decide (Zq l<=(16:Int)) then∃v,ZY l=ZY v/\Zn/\nq v/\ ∃h w,[Zw l,Cs (IM 1 (bL (cc v)))]=Zw h::ZY w/\Zn/\nq h/\E (Cs (ID (decide (h=w))),[]) else Z3 E))=(aO [(64,uh),(184,qge)] [(2,ah (aV 140 2) ql2)] 140 [vD v] []) E:=by kernel_rfl
variable{X:XF}
theorem HG(v:List Int):(∀x∈v,0<=x)↔ ∀i,i<J v->0<=v.getD i 0:=by grind [List.getElem_mem,List.getElem_of_mem]
theorem qdc:LD X 105 2 (ah (aV 105 2) ql1):=LD.par .nil .nil
 (A:=List Int×Int) (B:=Int) (λa k=>qie a.1 a.2 k)
 (λa k=>(a.2=J a.1/\nq a.1)/\0<=k/\k<=J a.1/\ ∀i:Nat,(i:Int)<k->0<=a.1.getD i 0)
 (λa k=>(J a.1-k).toNat)
 (λa x=>((¬ ∀x∈a.1,0<=x)/\x=(.ret,⟨25,[(0,vD a.1),(2,.d (.bool C))],[]⟩))\/((∀x∈a.1,0<=x)/\x=(.exit 0,⟨25,[(0,vD a.1)],[]⟩)))
 (by
  rintro⟨v,n⟩ k ⟨⟨F,hs⟩,h0,H,he⟩;dsimp only at*
  subst F
  (rw[<-qil];delta Zz ZA ZR Zj Zl ZQ Zw Z8 Z7 Zv Z2 Zx Zs Zt Zq Zr Zh)
  unfold nq at hs;simp only[eF];refine bj (λh=> ?_) λh=> ?_
  ·rw[mE (by omega)];refine bu (by omega) (ao (OD _) (bj (λl=> ?_) λl=>ao (j9 (by omega) (by omega)) ?_))
   ·replace l:v.getD k.toNat 0<0:=l
    refine .inl ⟨λL=> ?_,rfl⟩;have:=(HG v).1 L k.toNat (by omega);omega
   replace l: ¬v.getD k.toNat 0<0:=l
   exact⟨_,by omega,k+1,rfl,⟨⟨by simp,hs⟩,by omega,by grind,λi G=>by grind⟩,rfl⟩
  exact .inr ⟨(HG v).2 λi G=>he i (by omega),rfl⟩)
 (by rintro s E ⟨v,n,rfl,⟨F,H⟩,R,Q⟩;refine⟨(v,n),0,rfl,⟨⟨F,H⟩,by omega,by omega,λi G=>by omega⟩,?_⟩;grind)
theorem qdd:LD X 140 2 (ah (aV 140 2) ql2):=LD.par .nil .nil
 (A:=List Int) (B:=Int) (λa k=>qif a k)
 (λa k=>nq a/\0<=k/\k<=J a/\ ∀i:Nat,(i:Int)<k->0<=a.getD i 0)
 (λa k=>(J a-k).toNat)
 (λa x=>((¬ ∀x∈a,0<=x)/\x=(.ret,⟨24,[(0,vD a),(2,.d (.bool C))],[]⟩))\/((∀x∈a,0<=x)/\x=(.exit 0,⟨24,[(0,vD a)],[]⟩)))
 (by
  rintro v k ⟨F,V,Q,L⟩
  (rw[<-qim];delta Zz ZA Z8 Z7 Zv Z2 Zw Zx Zs Zt Zq Zr)
  unfold nq at F;simp only[eF];refine bj (λh=> ?_) λh=> ?_
  ·rw[mE (by omega)];refine bu (by omega) (ao (OD _) (bj (λl=> ?_) λl=>ao (j9 (by omega) (by omega)) ?_))
   ·replace l:v.getD k.toNat 0<0:=l
    refine .inl ⟨λH=> ?_,rfl⟩;have:=(HG v).1 H k.toNat (by omega);omega
   replace l: ¬v.getD k.toNat 0<0:=l
   exact⟨_,by omega,k+1,rfl,⟨F,by omega,by omega,λi G=>by grind⟩,rfl⟩
  exact .inr ⟨(HG v).2 λi G=>L i (by omega),rfl⟩)
 (by rintro s E ⟨v,rfl,Q,U,R⟩;grind)
theorem qin:FD X 184 qge:=FD.mk .nil (.cons qc6 .nil) (by
 intro ps R E B;obtain⟨v,w,rfl,rfl,l,A⟩:=B
 (rw[<-ql5];delta ZT ZU Z5 ZS Zw Zy Zx Z2 Z3 Zq)
 simp only[eF];refine Lf (λh=> ?_) λh=>⟨v,w,rfl,⟨by omega,l⟩,λF=> ?_,λG=> ?_⟩
 ·exact iT A (rL λe=>h (by rw[e]))
 ·grind
 grind)
theorem qma:FD X 203 uh:=FD.mk .nil (.cons qc7 .nil) (by intro ps R E h;obtain⟨v,rfl,rfl,l,A⟩:=h;rw[<-ql6];grind)
theorem qde:FD X 149 uh:=FD.mk (.cons qma .nil) .nil (by intro ps R E A;obtain⟨v,rfl,rfl,h,l⟩:=A;exact⟨v,rfl,rfl,h,l⟩)
theorem XH:FD X 64 uh:=FD.mk .nil (.cons qc8 .nil) (by
 intro ps R E A;obtain⟨v,rfl,rfl,h,l⟩:=A
 (rw[<-ql7];delta Zj Zl ZH Zq Zw Zx)
 simp only[eF];refine⟨v,_,rfl,⟨rfl,h⟩,bu ?_ ?_⟩
 ·have:=uc v (J v);omega
 rw[TK];exact l)
theorem QS g v w m:J (Lg g v w m)=m:=by simp[Lg]
theorem vH{o m}(h:J o=m):(bL o).take m=bL o:=by rw[zak (by simp[h])]
theorem XI:FD X 38 XE:=FD.mk (.cons XH .nil) (.cons qc9 .nil) (by
 intro ps R E A;obtain⟨v,w,rfl,rfl,h,l⟩:=A
 (rw[<-XG];delta Zn Zw ZY ZX ZZ Zf ZV Zy Zx ZW)
 refine⟨v,w,_,rfl,⟨rfl,h⟩,Lg max v w (max (J v) (J w)),by rw[vH (QS ..)],rfl,?_,l⟩;unfold nq at*;rw[QS];omega)
theorem qmb:FD X 105 ql4:=FD.mk (.cons qde .nil) (.cons qdc .nil) (by
 intro ps R E l;obtain⟨v,rfl,rfl,B,A⟩:=l
 (rw[<-ql8];delta Zn Zw ZY Z2 Z3 Z14 Zj Zl ZQ Z5 xD Zq Zx)
 simp only[eF];refine⟨v,_,rfl,⟨rfl,B⟩,λh=>iT A (rL λl=>h l.1),λh=>bj (λF=>⟨v,rfl,rfl,B,?_⟩) λF=> ?_⟩
 ·refine iT A ?_;rw[gO,zbf];grind
 exact iT A (rL λl=>F (by omega)))
theorem qmc:FD X 140 ql4:=FD.mk (.cons XH (.cons qin .nil)) (.cons qdd .nil) (by
 intro ps R E l;obtain⟨v,rfl,rfl,A,B⟩:=l
 (rw[<-ql9];delta Zw Zn ZY Zq Z2 Z3 Z14 Z5 Zx Z15)
 simp only[eF];refine⟨v,rfl,A,λh=>iT B (rL λl=>h l.1),λh=>bj (λF=>⟨v,rfl,rfl,A,v,cc v,rfl,rfl,A,?_⟩) λF=> ?_⟩
 ·refine iT B ?_;rw[gO,zbf];grind [uc,ud,cc]
 exact iT B (rL λl=>F (by omega)))
theorem qdf:FD X 42 ql3:=FD.mk (.cons XH .nil) (.cons qda .nil) (by
 intro ps R E F;obtain⟨v,r,n,rfl,rfl,l,A,L⟩:=F
 (rw[<-qdb];delta Z5 QR Zn Zw ZY Zs ZX ZZ Zf ZV Zj Zl Zx Z11 Z10)
 have H:=l;unfold nq at H;have B:J (lh v r n)=max (J v) r.toNat:=by simp[lh]
 refine bj (λh=>A (by omega)) λh=>bj (λG=>A (by omega)) λG=>⟨v,r,n,_,rfl,⟨rfl,l,by omega,by omega⟩,lh v r n,by rw[vH B],rfl,by grind,L (by omega)⟩)
def qgf:bc:=λps R E=> ∃n,ps=[.d (.int DD n)]/\R=[]/\(-9223372036854775808<=n/\n<=9223372036854775807)/\E (.d (.str (Lib.itoa n)),[])
def gQ t r i:=Lib.itoa t++[46]++Lib.itoa r++[46]++Lib.itoa i
def jv t r i:=if bt t r i=O then gQ t r i else []
def QT:bc:=λps R E=> ∃t r i,ps=[.d (OB t r i)]/\R=[]/\E (.d (.str (jv t r i)),[])
def Vh:=[(46:UInt8)]
def Z1c n h:=Lib.itoa n++Vh++Lib.itoa h++Vh
def Z1d n h l (E:P×List (Nat×En)->Prop):=ob (decide (J (Z1c n h)+J (Lib.itoa l)<=ZJ)) (E (Cs (FS (Z1c n h++Lib.itoa l)),[]))
def Z1b n h:=decide (J (Lib.itoa n++Vh++Lib.itoa h)+1<=ZJ)
def Z1a n h:=decide (J (Lib.itoa n++Vh)+J (Lib.itoa h)<=ZJ)
def Z18 n:=decide (J (Lib.itoa n)+1<=ZJ)
def nA:=FS []
def sM h l A:=[Cs (AM (Zj h::Zj l::Zk A))]
theorem qio t r i E:(∃A B F,sM t r i=sM A B F/\Zn/\bif !bt A B F then E (Cs nA,[]) else∃n,Zm t=Zm n/\Zn/\(Z7<=n/\n<=Z8)/\ob (Z18 n) (∃h,Zm r=Zm h/\Zn/\(Z7<=h/\h<=Z8)/\ob (Z1a n h) (ob (Z1b n h) (∃l,Zm i=Zm l/\Zn/\(Z7<=l/\l<=Z8)/\Z1d n h l E))))=(aO [(124,o5),(233,qgf)] [] 168 [.d (OB t r i)] []) E:=by kernel_rfl
variable{X:XF}
theorem qip:FD X 233 qgf:=FD.M6 Tryz.func233 (by kernel_rfl) (by kernel_rfl) (by intro ps R E l;obtain⟨n,rfl,rfl,A,h⟩:=l;refine⟨_,?_,h⟩;show QM [.d (.int DD n)] []=_;exact zau A)
theorem DT: ∀u,J (Lib.decDigits u)<=u+1:=by
 intro u
 induction u using Nat.strongRecOn with
 |_ u ih=>
  rw[Lib.decDigits];split
  ·simp
  have:=ih (u/10) (by omega);simp only[zaf,zav,zaI];omega
theorem pb{n}(l:0<=n)(h:n<=1099511627776):J (Lib.itoa n)<=1099511627777:=by unfold Lib.itoa;rw[zat (by omega)];have:=DT n.toNat;omega
theorem qiq:FD X 168 QT:=FD.mk (.cons xy (.cons qip .nil)) .nil (by
 intro ps R E A;obtain⟨t,r,i,rfl,rfl,l⟩:=A
 (rw[<-qio];delta ZJ Vh Z1c Z1d Z1b Z1a Z18 Z8 Z7 Zj Zl Zm nA Zn Zk sM)
 refine⟨_,_,_,rfl,rfl,az (λh=> ?_) λh=> ?_⟩
 ·have h:bt t r i=C:=by simpa using h
  rw[jv,zat (by simp[h])] at l;exact l
 have h:bt t r i=O:=by simpa using h
 rw[jv,zau h] at l;simp only[bt,zam] at h;have G:=pb (n:=t) (by omega) (by omega);have F:=pb (n:=r) (by omega) (by omega);have B:=pb (n:=i) (by omega) (by omega);refine⟨_,rfl,rfl,⟨by omega,by omega⟩,ao (by simp;omega) ⟨_,rfl,rfl,⟨by omega,by omega⟩,ao (by simp;omega) (ao (by simp;omega) ⟨_,rfl,rfl,⟨by omega,by omega⟩,ao (by simp;omega) l⟩)⟩⟩)
def BR(s:List UInt8):Option (Int×Int×Int):=match Lib.split s [46] with
 | [a,b,c]=>if bt (rH a) (rH b) (rH c)=O/\gQ (rH a) (rH b) (rH c)=s then Z (rH a,rH b,rH c) else Y
 |_=>Y
structure qqZ(s:List UInt8):Prop where
 len:J s<4294967281
 cnt:J (Lib.split s [46])=Lib.count s [46]+1
 lim:Lib.count s [46]<=4294967281
 each: ∀x∈Lib.split s [46],J x<=281474976710656
def splitBy(c:UInt8):List UInt8->List (List UInt8)
 | []=>[[]]
 |b::l=>if b=c then []::splitBy c l else match splitBy c l with |h::t=>(b::h)::t | []=>[[b]]
theorem Fe c: ∀s,Lib.splitK [c] 0 (s.count c) s=splitBy c s
 | []=>rfl
 |b::l=>by
  have B:=Fe c l;by_cases h:b=c
  ·subst h;rw[zb1,splitBy,zau rfl,Lib.splitK];have A:Lib.index (b::l) [b]=0:=by rw[Lib.index];simp
   rw[zat (by rw[A];decide),A];simp[B]
  have H:([c]:List UInt8).isPrefixOf (b::l)=C:=by grind
  have A:Lib.index (b::l) [c]=if Lib.index l [c]== -1 then-1 else Lib.index l [c]+1:=by rw[Lib.index,H];simp
  rw[zcQ (by grind),splitBy,zat h];cases hk:l.count c with
  |zero=>rw[hk] at B;rw[<-B];rfl
  |succ m=>
   rw[hk] at B;have G:Lib.count l [c]=m+1:=by rw[Lib.count_one,hk]
   by_cases L:Lib.index l [c]= -1
   ·rw[Lib.count_miss L] at G;omega
   have Q:=Lib.index_ge l [c];obtain⟨j,F⟩: ∃j:Nat,Lib.index l [c]=j:=⟨(Lib.index l [c]).toNat,by omega⟩
   rw[Lib.splitK,zat (by rw[F];simp),F] at B;rw[Lib.splitK,A,F];rw[<-B];rfl
theorem XK c s:Lib.split s [c]=splitBy c s:=by rw[Lib.split,Lib.count_one,Fe]
theorem BS c: ∀s,c∉s->splitBy c s=[s]
 | [],_=>rfl
 |b::l,h=>by simp at h;unfold splitBy;rw[zat (za0 h.1),BS c l h.2]
theorem rM c t: ∀s,c∉s->splitBy c (s++c::t)=s::splitBy c t
 | [],_=>by simp[splitBy]
 |b::l,h=>by simp at h;rw[zdc,splitBy,zat (za0 h.1),rM c t l h.2]
def yQ(b:UInt8):=decide (48<=b.toNat/\b.toNat<=57)
def tf a (b:UInt8):=a*10+(b.toNat-48)
def xE(l:List UInt8):=l.foldl tf 0
def kZ k:=UInt8.ofNat (48+k)
theorem BT{k}(h:k<10):(kZ k).toNat=48+k:=by grind [kZ,UInt8.toNat_ofNat']
theorem OI{k}(h:k<10):yQ (kZ k)=O:=by grind [yQ,BT]
theorem pc{u}(h:u<10):Lib.decDigits u=[kZ u]:=by rw[Lib.decDigits,dif_pos h];rfl
theorem zU{u}(h: ¬u<10):Lib.decDigits u=Lib.decDigits (u/10)++[kZ (u%10)]:=by rw[Lib.decDigits,dif_neg h];rfl
theorem OJ l b:xE (l++[b])=tf (xE l) b:=by simp[xE]
theorem zV: ∀u,∀b∈Lib.decDigits u,yQ b=O:=by
 intro u
 induction u using Nat.strongRecOn with
 |_ u ih=>grind [pc,OI,zU]
theorem qdg: ∀u,xE (Lib.decDigits u)=u:=by
 intro u
 induction u using Nat.strongRecOn with
 |_ u ih=>grind [pc,xE,tf,BT,zU,OJ]
theorem QU: ∀k u,u<10^(k+1)->J (Lib.decDigits u)<=k+1
 |0,u,h=>by rw[pc (by grind)];simp
 |k+1,u,h=>by
  by_cases hu:u<10
  ·rw[pc hu];simp
  rw[zU hu];have:=QU k (u/10) (by rw[zcN (by omega)];exact h);simp;omega
theorem Ff: ∀(l:List UInt8) (a:Nat),a<=l.foldl tf a
 | [],a=>zag _
 |b::l,a=>by have:=Ff l (tf a b);grind [tf]
theorem XL: ∀l a,(∀b∈l,yQ b=O)->l.foldl tf a<18446744073709551616->Lib.parseUint10 a l= .ok (l.foldl tf a)
 | [],a,_,_=>rfl
 |b::l,a,hd,aZ=>by have h:=hd b (by simp);unfold yQ at h;simp only[zam] at h;simp only[zbh] at aZ⊢;have A:=Ff l (tf a b);have e:a*10+(b.toNat-48)=tf a b:=rfl;rw[Lib.parseUint10,zau h,zat (by grind),e,zat (by omega)];exact XL l _ (λb h=>hd b (by simp[h])) aZ
theorem BU{u}(h:u<9223372036854775808):rH (Lib.decDigits u)=u:=by
 have A:=qdg u;unfold xE at A;have l:=XL (Lib.decDigits u) 0 (zV u) (by omega);rw[A] at l;unfold rH Lib.atoiAll;cases hd:Lib.decDigits u with
 |nil=>grind
 |cons c r=>
  have B:=zV u c (by rw[hd];simp);unfold yQ at B;simp only[zam] at B;have e1: ¬(c.toNat=43\/c.toNat=45):=by omega
  have L: ¬c.toNat=45:=by omega
  rw[hd] at l;have F:Lib.parseMag (c::r)= .ok u:=by rw[Lib.parseMag,zat (by simp),l]
  have H: ¬(¬c.toNat=45/\9223372036854775808<=u):=by omega
  have G: ¬(c.toNat=45/\9223372036854775808<u):=by omega
  dsimp only;rw[zat e1,F];dsimp only;rw[zat H,zat G,zat L]
theorem XM(a:Nat):Lib.itoa (a:Int)=Lib.decDigits a:=by rfl
theorem qir a:(46:UInt8)∉Lib.decDigits a:=λh=>by have:=zV a 46 h;simp[yQ] at this
theorem OL a b c:splitBy 46 (Lib.decDigits a++46::(Lib.decDigits b++46::Lib.decDigits c))=[Lib.decDigits a,Lib.decDigits b,Lib.decDigits c]:=by rw[rM _ _ _ (qir a),rM _ _ _ (qir b),BS _ _ (qir c)]
abbrev sD(s:List UInt8):P:= .d (.str s)
abbrev qis(n:Int)(s:List UInt8):S:=⟨37,[(0,iD n),(3,sD s)],[]⟩
def qmd:S->K (PX×S):=λs E=> ∃n,s=qis n []/\(0<=n/\n<=9223372036854775807)/\ ∀h s',(0<=h/\h<=9/\J s'<=9223372036854775807/\Lib.decDigits n.toNat=kZ h.toNat::s')->E (.exit 0,⟨37,[(0,iD h),(3,sD s')],[]⟩)
def QV:bc:=λps R E=> ∃n,ps=[iD n]/\R=[]/\(0<=n/\n<=9223372036854775807)/\E (sD (Lib.itoa n),[])
def jO(s:List UInt8):=J s
def Z1e(n:Int):=[UInt8.ofNat (dd (AC (ue .u8 (IntKind.wrap IntKind.u8 ((48:Int)+so n (10:Int))))))]
theorem qit n s E:(bif decide (n>(9:Int)) then ob (decide (Z7<=(48:Int)+so n (10:Int)/\(48:Int)+so n (10:Int)<=Z8)) (ob (decide (J (Z1e n)+jO s<=ZJ)) (ob (decide (Z7<=Int.tdiv n (10:Int)/\Int.tdiv n (10:Int)<=Z8)) (E (xz,AD 37 [(0,Cs (ue DD (Int.tdiv n (10:Int)))),(3,Cs (FS (Z1e n++s)))] [])))) else E (CE 0,AD 37 [(0,Zl n),(3,Cs (FS s))] []))=(aG [] [] 278 4 (qis n s)) E:=by kernel_rfl
def Z1j h:=[UInt8.ofNat (dd (AC (ue .u8 (IntKind.wrap IntKind.u8 ((48:Int)+h)))))]
def Z1i h:=(0:Int)<=h/\h<=Z8
def Z1h h:=AD 37 [(0,Zl h),(3,Cs nA)] []
def Z1g n:=decide (n<(0:Int))
theorem qme n E:(bif Z1g n then ob (decide (Z7<=(0:Int)-n/\(0:Int)-n<=Z8)) False else∃l,Z1h n=Z1h l/\Z1i l/\ ∀h s',(0:Int)<=h/\h<=(9:Int)/\jO s'<=ZJ/\Lib.decDigits (Zs l)=kZ (Zs h)::s'->ob (decide (Z7<=(48:Int)+h/\(48:Int)+h<=Z8)) (ob (decide (J (Z1j h)+jO s'<=ZJ)) (E (Cs (FS (Z1j h++s')),[]))))=(aO [(278,λ_ _ _=>False)] [(4,ah (aV 278 4) qmd)] 278 [iD n] []) E:=by kernel_rfl
theorem qdh t r i E:(∃A B F,sM t r i=sM A B F/\Zn/\bif !bt A B F then E (Cs nA,[]) else∃n,Zm t=Zm n/\Zn/\Z1i n/\ob (Z18 n) (∃h,Zm r=Zm h/\Zn/\Z1i h/\ob (Z1a n h) (ob (Z1b n h) (∃l,Zm i=Zm l/\Zn/\Z1i l/\Z1d n h l E))))=(aO [(278,QV),(192,o5)] [] 249 [.d (OB t r i)] []) E:=by kernel_rfl
variable{X:XF}
theorem BV{k}(l:0<=k)(h:k<=9):UInt8.ofNat (dd (AC (ue .u8 (IntKind.wrap .u8 (48+k)))))=kZ k.toNat:=by have:IntKind.wrap .u8 (48+k)=48+k:=IntWalk.u8_in (48+k) ⟨by omega,by omega⟩;grind [AC,kZ]
theorem qdi:LD X 278 4 (ah (aV 278 4) qmd):=LD.par .nil .nil
 (A:=Int) (B:=Int×List UInt8) (λ_ b=>qis b.1 b.2)
 (λa b=>0<=b.1/\b.1<=9223372036854775807/\b.1.toNat+J b.2<=9223372036854775807/\Lib.decDigits a.toNat=Lib.decDigits b.1.toNat++b.2)
 (λ_ b=>b.1.toNat)
 (λa x=> ∃l s',(0<=l/\l<=9/\J s'<=9223372036854775807/\Lib.decDigits a.toNat=kZ l.toNat::s')/\x=(.exit 0,⟨37,[(0,iD l),(3,sD s')],[]⟩))
 (by
  rintro a ⟨n,s⟩ ⟨L,G,U,F⟩;dsimp only at*
  (rw[<-qit];delta Zj Zl ZJ jO Z1e Z8 Z7)
  refine bj (λh=> ?_) λh=> ?_
  ·have R:Int.tdiv n 10=((n.toNat/10:Nat):Int):=by rw[Int.tdiv_eq_ediv_of_nonneg (by omega)];omega
   have Q:so n 10=((n.toNat%10:Nat):Int):=by rw[Int.tmod_eq_emod_of_nonneg (by omega)];omega
   rw[R,Q,BV (by omega) (by omega)];refine bu (by omega) (bu (by simp;omega) (bu (by omega) ?_));refine⟨_,?_,(((n.toNat/10:Nat):Int),kZ (n.toNat%10)::s),rfl,⟨by omega,by grind,by simp;omega,?_⟩,rfl⟩
   ·grind
   grind [zU,Int.toNat_natCast,List.append_assoc,List.singleton_append]
  rw[pc (u:=n.toNat) (by omega)] at F;exact⟨n,s,⟨L,by omega,by omega,F⟩,rfl⟩)
 (by rintro s E ⟨n,rfl,⟨G,H⟩,V⟩;refine⟨n,(n,[]),rfl,⟨G,H,by simp;omega,by simp⟩,?_⟩;grind)
theorem mJ{n}(A:0<=n)(l:n<=9223372036854775807):J (Lib.itoa n)<=21:=by have h:=QU 20 n.toNat (by grind);unfold Lib.itoa;rw[zat (by omega)];exact h
theorem XO:FD X 278 QV:=FD.mk (H:=[(278,λ_ _ _=>False)]) (.cons (λ_ _ _ h=>h.elim) .nil) (.cons qdi .nil) (by
 intro ps R E F;obtain⟨n,rfl,rfl,⟨A,l⟩,V⟩:=F
 (rw[<-qme];delta Z1j Zs ZJ jO Z8 Z1i nA Zj Zl Z1h Z7 Z1g)
 refine bj (λh=>by omega) λh=>⟨n,rfl,⟨A,l⟩,?_⟩
 rintro B s' ⟨Q,L,a2,G⟩;have U:Lib.itoa n=kZ B.toNat::s':=by rw[<-G];unfold Lib.itoa;rw[zat (by omega)]
 rw[BV Q L];have hl:J (Lib.itoa n)<=21:=mJ A l;grind)
theorem rN{α:Type}(p:α->Bool): ∀l,J (l.takeWhile p)<J l-> ∃x,l[J (l.takeWhile p)]?=Z x/\p x=C
 | [],h=>by simp at h
 |x::l,h=>by
  cases A:p x with
  |false=>simp_all
  |true=>simp only[List.takeWhile,A,zav] at h⊢;obtain⟨y,F,B⟩:=rN p l (by omega);grind
theorem qdj:FD X 249 QT:=FD.mk (.cons XO (.cons uf .nil)) .nil (by
 intro ps R E A;obtain⟨t,r,i,rfl,rfl,l⟩:=A
 (rw[<-qdh];delta ZJ Vh Z1c Z1d Z1b Z1a Z18 Z8 Z1i Zj Zl Zm nA Zn Zk sM)
 refine⟨_,_,_,rfl,rfl,az (λh=> ?_) λh=> ?_⟩
 ·grind [bt,jv]
 have h:bt t r i=O:=by grind
 rw[jv,zau h] at l;simp only[bt,zam] at h;have G:=pb (n:=t) (by omega) (by omega);have F:=pb (n:=r) (by omega) (by omega);have B:=pb (n:=i) (by omega) (by omega);exact⟨_,rfl,rfl,⟨by omega,by omega⟩,ao (by simp;omega) ⟨_,rfl,rfl,⟨by omega,by omega⟩,ao (by simp;omega) (ao (by simp;omega) ⟨_,rfl,rfl,⟨by omega,by omega⟩,ao (by simp;omega) l⟩)⟩⟩)
theorem OM{a b c:Nat}(h:bt a b c=O):a<10^15/\b<10^15/\c<10^15:=by grind [bt]
theorem xF(a b c:Nat):gQ a b c=Lib.decDigits a++46::(Lib.decDigits b++46::Lib.decDigits c):=by simp[gQ,XM]
theorem yR{a b c:Nat}(h:bt a b c=O):BR (gQ a b c)=Z ((a:Int),(b:Int),(c:Int)):=by obtain⟨B,A,l⟩:=OM h;unfold BR;rw[XK,xF,OL];simp only[BU (u:=a) (by omega),BU (u:=b) (by omega),BU (u:=c) (by omega)];rw[zau ⟨h,by rw[xF]⟩]
theorem Lh{s t r i}(h:BR s=Z (t,r,i)):bt t r i=O/\gQ t r i=s:=by grind [BR]
theorem qiu{t r i}(h:bt t r i=O): ∃a b c:Nat,t=a/\r=b/\i=c:=by simp only[bt,zam] at h;exact⟨t.toNat,r.toNat,i.toNat,by omega,by omega,by omega⟩
def ON:List UInt8:=[48,49,50,51,52,53,54,55,56,57,65,66,67,68,69,70,71,72,73,74,75,76,77,78,79,80,81,82,83,84,85,86,87,88,89,90,97,98,99,100,101,102,103,104,105,106,107,108,109,110,111,112,113,114,115,116,117,118,119,120,121,122,46,45,95]
def jx(b:UInt8):=decide ((48<=b.toNat/\b.toNat<=57)\/(65<=b.toNat/\b.toNat<=90)\/(97<=b.toNat/\b.toNat<=122)\/b.toNat=46\/b.toNat=45\/b.toNat=95)
theorem TM: ∀n:Fin 256,ON.contains (UInt8.ofNat n.val)=jx (UInt8.ofNat n.val):=by decide+kernel
theorem OO b:ON.contains b=jx b:=by have:=TM ⟨b.toNat,b.toNat_lt⟩;simpa using this
def cR s:=decide (s≠[]/\J s<=32/\s≠[46]/\s≠[46,46]/\ ∀b∈s,jx b=O)
theorem dropWhile_nil{α:Type} p: ∀l:List α,l.dropWhile p=[]↔ ∀b∈l,p b=O
 | []=>by simp
 |x::l=>by
  cases h:p x with
  |true=>simp[List.dropWhile,h,dropWhile_nil p l]
  |false=>simp_all
theorem XP s cs:Lib.trimS s cs=[]↔ ∀b∈s,cs.contains b=O:=by
 unfold Lib.trimS Lib.trimLeftS Lib.trimRightS;rw[dropWhile_nil];constructor
 ·intro h b B;have A:b∈s.reverse:=by grind
  rw[<-List.takeWhile_append_dropWhile (p:=(cs.contains ·)) (l:=s.reverse)] at A;grind [List.all_eq_true,List.all_takeWhile]
 grind [List.dropWhile_sublist]
def pre c (s:List UInt8):=s.takeWhile (· !=c)
theorem XQ c s:J (pre c s)<=J s:=(List.takeWhile_prefix _).length_le
theorem BW c s:s.take (J (pre c s))=pre c s:=(List.prefix_iff_eq_take.1 (List.takeWhile_prefix _)).symm
theorem qiv c s:c∉pre c s:=λh=>by have:=za8.1 (List.all_takeWhile (p:=(· !=c)) (l:=s)) c h;simp at this
theorem Li{c s}(h:J (pre c s)<J s):s.getD (J (pre c s)) 0=c:=by obtain⟨x,l,A⟩:=rN (· !=c) s h;have l:s[J (pre c s)]?=Z x:=l;grind
theorem Lj{c s}:J (pre c s)=J s↔c∉s:=by
 constructor
 ·grind [BW,qiv]
 grind [XQ,Li]
theorem HI{c s}(h:c∉s):pre c s=s:=by have:=BW c s;rw[Lj.2 h,zan] at this;grind
theorem QW{c} t: ∀{s:List UInt8},c∉s->pre c (s++c::t)=s
 | [],_=>by simp[pre]
 |b::l,h=>by
  simp at h;have B:(b !=c)=O:=by grind
  have A:=QW t h.2;simp_all [pre]
def rO s:=cR (pre 126 s)&&(decide (126∉s)|| (BR (s.drop (J (pre 126 s)+1))).isSome)
def vI l:=47::Lib.join l [47]
theorem OP x y l:Lib.join (x::y::l) [47]=x++47::Lib.join (y::l) [47]:=by rfl
theorem zW{s c}(h:cR s=O)(A:jx c=C):c∉s:=λl=>by grind [cR]
theorem qdk{t r i}(h:bt t r i=O){c}(l:yQ c=C)(hd:c≠46):c∉gQ t r i:=by grind [qiu,xF,zV]
theorem QX{s}(h:rO s=O):(47:UInt8)∉s:=by
 simp only[rO,zac,zbn,zam] at h;obtain⟨R,l⟩:=h;have A:(47:UInt8)∉pre 126 s:=zW R rfl;rcases l with l |l
 ·rwa [HI l] at A
 by_cases H:(126:UInt8)∈s
 ·obtain⟨x,G⟩:=Option.isSome_iff_exists.1 l;obtain⟨Q,L⟩:=Lh G;have hd:(47:UInt8)∉s.drop (J (pre 126 s)+1):=by rw[<-L];exact qdk Q rfl (by decide)
  intro F;have B:J (pre 126 s)<J s:=by have:=XQ 126 s;grind [Lj]
  rw[<-zbg (J (pre 126 s)) s,BW,za3 B] at F;have U:=Li B;grind
 rwa [HI H] at A
def fG(s:List UInt8)(t r i:Int):List UInt8×Int:=if cR s=O then(if bt t r i=O then(s++126::gQ t r i,0) else([],1)) else([],70)
theorem xG{s t r i}(h:cR s=O):pre 126 (s++126::gQ t r i)=s:=QW _ (zW h rfl)
theorem OQ{s t r i}(h:cR s=O)(l:bt t r i=O):rO (s++126::gQ t r i)=O:=by
 have hd:(s++126::gQ t r i).drop (J s+1)=gQ t r i:=by simp
 grind [rO,xG,qiu,yR]
theorem BX{s t r i}:cR (s++126::gQ t r i)=C:=by
 cases h:cR (s++126::gQ t r i) with
 |false=>rfl
 |true=>exact absurd (by simp) (zW h (c:=126) rfl)
theorem TN{s s' t r i l A B}(h:cR s=O)(L:bt t r i=O)(G:cR s'=O)(Q:bt l A B=O)(e:s++126::gQ t r i=s'++126::gQ l A B):s=s'/\t=l/\r=A/\i=B:=by
 have F:=congrArg (pre 126) e;rw[xG h,xG G] at F;subst F;have H:gQ t r i=gQ l A B:=by simpa using e
 grind [qiu,yR]
section
variable{X:XF}
theorem BY t r i:J (jv t r i)<=2000000:=by
 unfold jv;split
 next h=>simp only[bt,zam] at h;have B:=mJ (n:=t) (by omega) (by omega);have A:=mJ (n:=r) (by omega) (by omega);have l:=mJ (n:=i) (by omega) (by omega);simp[gQ];omega
 simp
end
abbrev tD(l:List (List UInt8)):P:= .d (.sl 1 (l.map FS))
abbrev lG(b:Bool):P:= .d (.bool b)
def qgg:bc:=λps R E=> ∃s c,ps=[sD s,sD c]/\R=[]/\(J s<=9223372036854775807/\J c<4294967281/\c.all (λb=>decide (b.toNat<128))=O)/\E (sD (Lib.trimS s c),[])
def XR:bc:=λps R E=> ∃l c,ps=[tD l,sD c]/\R=[]/\(J l<=140737488355328/\J (Lib.join l c)<=140737488355328)/\E (sD (Lib.join l c),[])
def Fg:bc:=λps R E=> ∃s,ps=[sD s]/\R=[]/\E (lG (cR s),[])
def HJ:bc:=λps R E=> ∃s t r i,ps=[sD s,.d (OB t r i)]/\R=[]/\E (.cy [sD (fG s t r i).1,iD (fG s t r i).2],[])
abbrev nmH(s:List UInt8)(k:Int):S:=⟨64,[(0,sD s),(3,iD k)],[]⟩
def lH c:=[Cs (FS c)]
def BZ s:=(↑(jO s):Int)
theorem qiw s E:(bif !s==[] then bif decide (BZ s<=(32:Int)) then bif !s==Vh then bif !s==(46:UInt8)::Vh then∃h c,[Cs (FS s),Cs (FS (have y:List UInt8:=have y:List UInt8:=have y:List UInt8:=have y:List UInt8:=[(121:UInt8),(122:UInt8),(46:UInt8),(45:UInt8),(95:UInt8)];(117:UInt8)::(118:UInt8)::(119:UInt8)::(120:UInt8)::y;have y:List UInt8:=(113:UInt8)::(114:UInt8)::(115:UInt8)::(116:UInt8)::y;(109:UInt8)::(110:UInt8)::(111:UInt8)::(112:UInt8)::y;have y:List UInt8:=have y:List UInt8:=(105:UInt8)::(106:UInt8)::(107:UInt8)::(108:UInt8)::y;(101:UInt8)::(102:UInt8)::(103:UInt8)::(104:UInt8)::y;have y:List UInt8:=(97:UInt8)::(98:UInt8)::(99:UInt8)::(100:UInt8)::y;(87:UInt8)::(88:UInt8)::(89:UInt8)::(90:UInt8)::y;have y:List UInt8:=have y:List UInt8:=have y:List UInt8:=(83:UInt8)::(84:UInt8)::(85:UInt8)::(86:UInt8)::y;(79:UInt8)::(80:UInt8)::(81:UInt8)::(82:UInt8)::y;have y:List UInt8:=(75:UInt8)::(76:UInt8)::(77:UInt8)::(78:UInt8)::y;(71:UInt8)::(72:UInt8)::(73:UInt8)::(74:UInt8)::y;have y:List UInt8:=have y:List UInt8:=(67:UInt8)::(68:UInt8)::(69:UInt8)::(70:UInt8)::y;(56:UInt8)::(57:UInt8)::(65:UInt8)::(66:UInt8)::y;have y:List UInt8:=(52:UInt8)::(53:UInt8)::(54:UInt8)::(55:UInt8)::y;(48:UInt8)::(49:UInt8)::(50:UInt8)::(51:UInt8)::y))]=Cs (FS h)::lH c/\Zn/\(jO h<=ZJ/\jO c<4294967281/\(List.all c λb=>decide (UInt8.toNat b<128))=O)/\E (Cs (ID (Lib.trimS h c==[])),[]) else Z3 E else Z3 E else Z3 E else Z3 E)=(aO [(153,qgg)] [] 112 [sD s] []) E:=by kernel_rfl
def Z1n k (E:PX×S->Prop) s:=ob (Zv k) (E (xz,AD 64 [(0,Cs (FS s)),(3,ZA k)] []))
def Z1m s k:=(↑(UInt8.toNat (List.getD s (Zs k) (0:UInt8))):Int)
def Z1o s k E:=bif Z1m s k==(46:Int) then Z1n k E s else bif Z1m s k==(45:Int) then Z1n k E s else bif !Z1m s k==(95:Int) then E (Q2,AD 64 [(2,Cs Z2)] []) else Z1n k E s
def Z1p s k E:=bif decide (Z1m s k>=(97:Int)) then bif decide (Z1m s k<=(122:Int)) then Z1n k E s else Z1o s k E else Z1o s k E
def Z1q s k E:=bif decide (Z1m s k>=(65:Int)) then bif decide (Z1m s k<=(90:Int)) then Z1n k E s else Z1p s k E else Z1p s k E
theorem qmf s k E:(bif decide (k<BZ s) then ob (decide ((0:Int)<=k/\k<BZ s)) (bif decide (Z1m s k>=(48:Int)) then bif decide (Z1m s k<=(57:Int)) then Z1n k E s else Z1q s k E else Z1q s k E) else E (CE 0,AD 64 [] []))=(aG [] [] 186 4 (nmH s k)) E:=by kernel_rfl
def Z1s h l A (E:P×List (Nat×En)->Prop) s:=bif jv h l A==[] then E (P.cy [Cs nA,Cs Zf],[]) else ob (decide (jO s+1<=ZJ)) (ob (decide (J (s++[(126:UInt8)])+J (jv h l A)<=ZJ)) (E (P.cy (Cs (FS (s++[(126:UInt8)]++jv h l A))::QR),[])))
def Z1r(E:P×List (Nat×En)->Prop):=E (P.cy [Cs nA,Cs (ue DD (70:Int))],[])
theorem qdl s t r i E:(∃h A B,sM t r i=sM h A B/\Zn/\ ∃l,lH s=lH l/\Zn/\bif !cR l then Z1r E else Z1s h A B E s)=(aO [(112,Fg),(168,QT)] [] 127 [sD s,.d (OB t r i)] []) E:=by kernel_rfl
theorem XS s t r i E:(∃l,lH s=lH l/\Zn/\bif !cR l then Z1r E else∃h A B,sM t r i=sM h A B/\Zn/\Z1s h A B E s)=(aO [(186,Fg),(249,QT)] [] 193 [sD s,.d (OB t r i)] []) E:=by kernel_rfl
def p8(h:List (List UInt8)):=J h
def Z1w:=[Cs (FS [(47:UInt8)])]
def Z1t h:=Cs (IM 1 (aa FS h))
theorem qix l E:(∃h c,Z1t l::Z1w=Z1t h::lH c/\Zn/\(p8 h<=140737488355328/\J (Lib.join h c)<=140737488355328)/\ob (decide (1+J (Lib.join h c)<=ZJ)) (E (Cs (FS ([(47:UInt8)]++Lib.join h c)),[])))=(aO [(169,XR)] [] 128 [tD l] []) E:=by kernel_rfl
section
variable{X:XF}
theorem qiy:FD X 153 qgg:=FD.M6 Tryz.func153 (by kernel_rfl) (by kernel_rfl) (by intro ps R E l;obtain⟨s,c,rfl,rfl,A,h⟩:=l;refine⟨_,?_,h⟩;show QN [.d (.str s),.d (.str c)] []=_;exact zau A)
theorem B0: ∀l,rI (l.map FS)=Z l
 | []=>rfl
 |x::l=>by simp[rI,B0 l]
theorem qdm:FD X 169 XR:=FD.M6 Tryz.func169 (by kernel_rfl) (by kernel_rfl) (by intro ps R E A;obtain⟨l,c,rfl,rfl,B,h⟩:=A;refine⟨_,?_,h⟩;show K2 [.d (.sl 1 (l.map FS)),.d (.str c)] []=_;unfold K2;simp only[B0];exact zau B)
theorem OR:FD X 112 Fg:=FD.mk (.cons qiy .nil) .nil (by
 intro ps R E G;obtain⟨s,rfl,rfl,l⟩:=G
 (rw[<-qiw];delta Z2 Z3 ZJ jO Zn lH Vh BZ)
 refine az (λF=>bj (λH=>az (λB=>az (λA=>⟨s,ON,rfl,rfl,⟨by omega,by decide,by decide⟩,?_⟩) λA=> ?_) λB=> ?_) λH=> ?_) λF=> ?_
 ·refine iT l ?_;rw[zbf,cR,zbV,XP];simp only[OO,zam];constructor
  ·intro h;exact h.2.2.2.2
  intro h;exact⟨by simpa using F,by omega,by simpa using B,by simpa using A,h⟩
 ·exact iT l (rL λh=>by simp at A;exact h.2.2.2.1 A)
 ·exact iT l (rL λh=>by simp at B;exact h.2.2.1 B)
 ·exact iT l (rL λh=>by omega)
 exact iT l (rL λh=>by simp at F;exact h.1 F))
theorem TO b:jx b=O↔((48<=(b.toNat:Int)/\(b.toNat:Int)<=57)\/(65<=(b.toNat:Int)/\(b.toNat:Int)<=90)\/(97<=(b.toNat:Int)/\(b.toNat:Int)<=122)\/(b.toNat:Int)=46\/(b.toNat:Int)=45\/(b.toNat:Int)=95):=by unfold jx;simp only[zam];omega
theorem Lk(p:UInt8->Bool) s:(∀b∈s,p b=O)↔ ∀i,i<J s->p (s.getD i 0)=O:=by
 constructor
 ·intro h i l;have:=h s[i] (zay l);simpa [zaj,l] using this
 intro h x A;obtain⟨i,l,rfl⟩:=zaM A;have:=h i l;simpa [zaj,l] using this
def gNm:S->K (PX×S):=λs E=> ∃l,s=nmH l 0/\J l<=32/\(¬(∀b∈l,jx b=O)->E (.ret,⟨64,[(2,lG C)],[]⟩))/\((∀b∈l,jx b=O)->E (.exit 0,⟨64,[],[]⟩))
theorem qiz:LD X 186 4 (ah (aV 186 4) gNm):=LD.par .nil .nil
 (A:=List UInt8) (B:=Int) (λa k=>nmH a k)
 (λa k=>J a<=32/\0<=k/\k<=J a/\ ∀i:Nat,(i:Int)<k->jx (a.getD i 0)=O)
 (λa k=>(J a-k).toNat)
 (λa x=>((¬ ∀b∈a,jx b=O)/\x=(.ret,⟨64,[(2,lG C)],[]⟩))\/((∀b∈a,jx b=O)/\x=(.exit 0,⟨64,[],[]⟩)))
 (by
  rintro l k ⟨U,h0,R,L⟩
  (rw[<-qmf];delta Z2 Zz ZA Z8 Z7 Zv Z1n Zs Z1m Z1o Z1p Z1q jO BZ)
  have Q:=TO (l.getD k.toNat 0);have cD: ¬jx (l.getD k.toNat 0)=O->k<J l-> ¬ ∀b∈l,jx b=O:=λh hk G=>h ((Lk _ l).1 G k.toNat (by omega));have BQ:jx (l.getD k.toNat 0)=O->k<J l->roundPost (J l-k).toNat (λm s=> ∃F,s=nmH l F/\(J l<=32/\0<=F/\F<=(J l:Int)/\ ∀i:Nat,(i:Int)<F->jx (l.getD i 0)=O)/\m=(J l-F).toNat) (λx=>((¬ ∀b∈l,jx b=O)/\x=(.ret,⟨64,[(2,lG C)],[]⟩))\/((∀b∈l,jx b=O)/\x=(.exit 0,⟨64,[],[]⟩))) (xz,nmH l (k+1)):=λh hk=>
   ⟨_,by omega,k+1,rfl,⟨U,by omega,by omega,λi H=>by
    by_cases e:(i:Int)=k
    ·have:i=k.toNat:=by omega
     rw[this];exact h
    exact L i (by omega)⟩,rfl⟩
  generalize (((l.getD k.toNat 0).toNat:Nat):Int)=b at*
  refine bj (λh=>bu (by omega) ?_) λh=> .inr ⟨(Lk _ l).2 λi H=>L i (by omega),rfl⟩
  repeat' (first |refine bj (λ_=> ?_) (λ_=> ?_)|refine ju (λ_=> ?_) (λ_=> ?_)|refine Lf (λ_=> ?_) (λ_=> ?_))
  all_goals first
   |exact absurd (j9 (k:=k) (by omega) (by omega)) (by simp;omega)
   |exact BQ (Q.2 (by omega)) h
   |exact .inl ⟨cD (λG=>by have:=Q.1 G;omega) h,rfl⟩)
 (by
  rintro s E ⟨l,rfl,R,h2,V⟩;refine⟨l,0,rfl,⟨R,by omega,by omega,λi H=>by omega⟩,?_⟩;rintro x (⟨h,rfl⟩| ⟨h,rfl⟩)
  ·exact h2 h
  exact V h)
end
section
variable{X:XF}
theorem qry x:bE PR 9 (.str x)=O:=by rfl
theorem XT{l i}(h:i<J l):BC (l.map FS) i= .str (l.getD i []):=by simp[BC,h]
end
def gy(l:List (List UInt8)):=l.flatMap λx=>47::x
def zn l:=J (gy l)
def OS:bc:=λps R E=> ∃l,ps=[tD l]/\R=[]/\zn l<=2000000/\E (sD (vI l),[])
def Z1x l:=AD 64 [(0,Cs (FS l)),(3,Cs Z5)] []
theorem qdn s E:(bif s==[] then Z3 E else bif decide (BZ s>(32:Int)) then Z3 E else bif s==Vh then Z3 E else bif s==(46:UInt8)::Vh then Z3 E else∃l,Z1x s=Z1x l/\jO l<=32/\((¬∀b,b∈l->jx b=O)->Z3 E)/\((∀b,b∈l->jx b=O)->ZU E))=(aO [] [(4,ah (aV 186 4) gNm)] 186 [sD s] []) E:=by kernel_rfl
section
variable{X:XF}
theorem HK:FD X 186 Fg:=FD.mk .nil (.cons qiz .nil) (by
 intro ps R E A;obtain⟨s,rfl,rfl,l⟩:=A
 (rw[<-qdn];delta ZT ZU jO Z5 Z1x Vh BZ Z2 Z3)
 refine az (λH=> ?_) λH=>bj (λG=> ?_) λG=>az (λF=> ?_) λF=>az (λB=> ?_) λB=>⟨s,rfl,by omega,λL=> ?_,λQ=> ?_⟩
 ·exact iT l (rL λh=>h.1 (by grind))
 ·exact iT l (rL λh=>by omega)
 ·exact iT l (rL λh=>h.2.2.1 (by grind))
 ·exact iT l (rL λh=>h.2.2.2.1 (by grind))
 ·exact iT l (rL λh=>L h.2.2.2.2)
 exact iT l (o9 ⟨by grind,by omega,by grind,by grind,Q⟩))
theorem qdo l:J l<=zn l:=by
 induction l with
 |nil=>simp
 |cons x l ih=>simp[zn,gy] at ih⊢;omega
theorem HL: ∀l,l≠[]->gy l=vI l
 | [],h=>absurd rfl h
 | [x],_=>by rfl
 |x::y::l,_=>by have A:=HL (y::l) (by simp);rw[vI,OP];rw[vI] at A;rw[<-A];rfl
theorem TP l:J (vI l)<=zn l+1:=by
 cases l with
 |nil=>simp[vI,Lib.join,List.intercalate]
 |cons x l=>rw[<-HL (x::l) (by simp)];unfold zn;omega
theorem qiA:FD X 128 OS:=FD.mk (.cons qdm .nil) .nil (by
 intro ps R E A;obtain⟨l,rfl,rfl,F,h⟩:=A
 (rw[<-qix];delta ZJ p8 Zn lH Z1w Z1t)
 have G:=qdo l;have B:=TP l;simp[vI] at B;exact⟨l,[47],rfl,rfl,⟨by omega,by omega⟩,bu (by omega) h⟩)
theorem p9{t r i}:jv t r i=[]↔bt t r i=C:=by simp[jv,gQ]
theorem qdp:FD X 127 HJ:=FD.mk (.cons OR (.cons qiq .nil)) .nil (by
 intro ps R E G;obtain⟨s,t,r,i,rfl,rfl,l⟩:=G
 (rw[<-qdl];delta Z5 QR ZJ jO Zf nA Z1s Z1r lH Zn Zj Zk sM)
 unfold fG at l;refine⟨t,r,i,rfl,rfl,s,rfl,rfl,az (λh=> ?_) λh=>az (λA=> ?_) λA=> ?_⟩
 ·rw[zat (by grind)] at l;exact l
 ·have A:bt t r i=C:=p9.1 (by grind);rw[zau (by grind),zat (by simp[A])] at l;exact l
 have B:cR s=O:=by grind
 have F:bt t r i=O:=by grind [bt,p9]
 have H:=BY t r i;simp only[cR,zam] at B;refine bu (by omega) (bu (by simp;omega) ?_);rw[jv,zau F];grind)
theorem XU:FD X 193 HJ:=FD.mk (.cons HK (.cons qdj .nil)) .nil (by
 intro ps R E G;obtain⟨s,t,r,i,rfl,rfl,l⟩:=G
 (rw[<-XS];delta Z5 QR ZJ jO Zf nA Z1s Zj Zk sM Z1r Zn lH)
 unfold fG at l;refine⟨s,rfl,rfl,az (λh=> ?_) λh=>⟨t,r,i,rfl,rfl,az (λA=> ?_) λA=> ?_⟩⟩
 ·rw[zat (by grind)] at l;exact l
 ·have A:bt t r i=C:=p9.1 (by grind);rw[zau (by grind),zat (by simp[A])] at l;exact l
 have B:cR s=O:=by grind
 have F:bt t r i=O:=by grind [bt,p9]
 have H:=BY t r i;simp only[cR,zam] at B;refine bu (by omega) (bu (by simp;omega) ?_);rw[jv,zau F];grind)
end
def TQ:=IM 1 []
abbrev ak:=Int×Int×Int
def aF(x:ak):D:= .agg [.int DD x.1,.int DD x.2.1,.int DD x.2.2]
abbrev cF(l:List ak):P:= .d (.sl 3 (l.map aF))
abbrev Pl:=ak×ak×List UInt8×Bool
def bI(p:Pl):D:= .agg [.int DD p.1.1,.int DD p.1.2.1,.int DD p.1.2.2,.int DD p.2.1.1,.int DD p.2.1.2.1,.int DD p.2.1.2.2,.str p.2.2.1,.bool p.2.2.2]
abbrev ew(l:List Pl):P:= .d (.sl 8 (l.map bI))
abbrev Ll(B A l h:D->Option D)(L H G F:Int):List (Nat×En):=
 [(0,⟨0,Y,.box 163 [.mp 1 0,.mp 2 0,.mp 3 0,.mp 4 0]⟩),(1,⟨0,Y,.map 49 B L C⟩),(2,⟨0,Y,.map 49 A H C⟩),(3,⟨0,Y,.map 49 l G C⟩),(4,⟨0,Y,.map 49 h F C⟩)]
abbrev tk3(l:List Pl)(live:List ak)(k:Int)(h:D->Option D)(A:Int):S:=
 ⟨68,[(1,cF live),(5,.ref 0 0 0),(18,ew l),(19,.d (.int DD (J l:Int))),(20,.d (.int DD k))],Ll h (λ_=>Y) (λ_=>Y) (λ_=>Y) A 0 0 0⟩
abbrev qdq(live:List ak)(k:Int)(l h:D->Option D)(B A:Int):S:=
 ⟨68,[(5,.ref 0 0 0),(54,cF live),(55,.d (.int DD (J live:Int))),(56,.d (.int DD k))],Ll l h (λ_=>Y) (λ_=>Y) B A 0 0⟩
def yS{α:Type}(enc:α->D)(m:ak->Option α):D->Option D
 | .agg [.int DD a,.int DD b,.int DD c]=>(m (a,b,c)).map enc
 |_=>Y
def oC(p:Pl):=bt p.1.1 p.1.2.1 p.1.2.2&&cR p.2.2.1
def bp(T:List Pl) x:=T.find? λp=>p.1==x
def Dc T p:=if(bp T p.1).isSome then T else if oC p then T++[p] else T
def il(l:List Pl):=l.foldl Dc []
def HM(V:List ak) x:=if x∈V then V else V++[x]
def tg(l:List ak):=l.foldl HM []
abbrev cX T:=yS bI (bp T)
abbrev du(V:List ak):=yS (λ_=> .agg []) (λx=>if x∈V then Z () else Y)
abbrev vJ:D->Option D:=λ_=>Y
def qmg:S->K (PX×S):=λs E=> ∃l live,s=tk3 l live 0 vJ 0/\J l<=1000000/\E (.exit 0,⟨68,[(1,cF live),(5,.ref 0 0 0)],Ll (cX (il l)) vJ vJ vJ (J (il l):Int) 0 0 0⟩)
def qgh:S->K (PX×S):=λs E=> ∃live h l,s=qdq live 0 h vJ l 0/\J live<=1000000/\E (.exit 2,⟨68,[(5,.ref 0 0 0)],Ll h (du (tg live)) vJ vJ l (J (tg live):Int) 0 0⟩)
def M9:=HH 49 (λ_=>Y) (0:Int) C
def Dd:=we 0 Y M9
def Z1O:=[(3,Dd),(4,Dd)]
def jh:=AM []
def cp:=RK 0 0 0
def dK(live:List ak):=J live
def ll live:=dK live<=1000000
def qw h l:=HH 49 h l C
def I6 h l:=we 0 Y (qw h l)
def I7 h l:=(1,I6 h l)
def nr live:=(↑(dK live):Int)
def QY live:=Cs (ue DD (nr live))
def eM h:=aa aF h
def oH h:=J (eM h)
def vK h:=(↑(oH h):Int)
def gC h:=Cs (IM 3 (eM h))
def fp(h:List Pl):=J h
def iB h:=fp h<=1000000
def qa h:=(↑(fp h):Int)
def Z1I h:=[(19,Cs (ue DD (qa h))),(20,Cs Z5)]
def Z1P:=(2,Dd)::Z1O
def kP:=P.mp 3 0
def HO:=GT (163:I) [P.mp 1 0,P.mp 2 0,kP,P.mp 4 0]
def I8:=(0,we 0 Y HO)
def fI h:=aa bI h
def sf l:=J (fI l)
def jP h:=Cs (IM 8 (fI h))
def wN:=(5,cp)
def nt h:=(1,gC h)
theorem qrz l live E:(∃h A,AD 68 [nt live,wN,(18,jP l),(19,Cs (ue DD (↑(sf l):Int))),(20,Cs Z5)] (I8::(1,Dd)::Z1P)=AD 68 (nt A::wN::(18,jP h)::Z1I h) (I8::(1,Dd)::Z1P)/\iB h/\ ∃live B F,AD 68 [wN,(54,gC A),(55,Cs (ue DD (vK A))),(56,Cs Z5)] (I8::(1,we 0 Y (HH 49 (λx=>match x with |AM [ue DD a,ue DD b,ue DD c]=>i7 bI (bp (il h) (a,b,c))|_=>Y) (↑(J (il h)):Int) C))::Z1P)=AD 68 [wN,(54,gC live),(55,QY live),(56,Cs Z5)] (I8::I7 B F::Z1P)/\ll live/\E (cp,I8::I7 B F::(2,we 0 Y (HH 49 (λx=>match x with |AM [ue DD a,ue DD b,ue DD c]=>i7 (λ_=>jh) ((λx=>if x∈tg live then Z () else Y) (a,b,c))|_=>Y) (↑(J (tg live)):Int) C))::Z1O))=(aO [] [(3,ah (aV 80 3) qmg),(10,ah (aV 80 10) qgh)] 80 [ew l,cF live] []) E:=by kernel_rfl
def XV:bc:=λps R E=> ∃l live,ps=[ew l,cF live]/\R=[]/\(J l<=1000000/\J live<=1000000)/\E (.ref 0 0 0,Ll (cX (il l)) (du (tg live)) vJ vJ (J (il l):Int) (J (tg live):Int) 0 0)
def Z29 live l k:=[nt live,wN,(18,jP l),(19,Cs (ue DD (qa l))),(20,ZA k)]
def Z2e k (E:PX×S->Prop) live l h A:=ob (Zv k) (E (xz,AD 68 (Z29 live l k) (I8::I7 h A::Z1P)))
def k7:=0+1
def B1:=k7+1+1
def Na:=B1+1+1
def OT:=Na+1+1
def ln l k:=BC (fI l) (Zs k)
def Lm l k:=ue DD (AC (vc (ln l k) 2))
def Ln l k:=ue DD (AC (vc (ln l k) 1))
def HP l k:=ue DD (AC (vc (ln l k) 0))
def Z2f l k:=Cs (AM [HP l k,Ln l k,Lm l k])
def XW l k:=[Z2f l k]
def Z28(h:D->Option D) l k:=ir (h (AM [HP l k,Ln l k,Lm l k]))
def uL:=AM [Z5,Z5,Z5,Z5,Z5,Z5,nA,Z2]
noncomputable def qG l k:=bE PR (108:I) (ln l k)
def HQ k l:=decide ((0:Int)<=k/\k<(↑(sf l):Int))
theorem qmh l live k h A E:(bif decide (k<qa l) then ob (HQ k l) (ob (qG l k) (ob (bE PR (108:I) (aK (h (AM [HP l k,Ln l k,Lm l k])) uL)) (bif !Z28 h l k then∃t r i,XW l k=sM t r i/\Zn/\bif bt t r i then∃s,[Cs (FS (Q1 (vc (ln l k) 6)))]=lH s/\Zn/\bif cR s then ob (Zv k) (E (xz,AD 68 (Z29 live l k) (I8::(1,we 0 Y (HH 49 (λB=>bif NO (AM [HP l k,ue DD (AC (vc (ln l k) k7)),ue DD (AC (vc (ln l k) (k7+1)))]) B then Z (AM [HP l k,ue DD (AC (vc (ln l k) k7)),ue DD (AC (vc (ln l k) (k7+1))),ue DD (AC (vc (ln l k) B1)),ue DD (AC (vc (ln l k) (B1+1))),ue DD (AC (vc (ln l k) Na)),FS (Q1 (vc (ln l k) (Na+1))),ID (Q3 (vc (ln l k) OT))]) else h B) (bif Z28 h l k then A else A+(1:Int)) C))::Z1P))) else Z2e k E live l h A else Z2e k E live l h A else Z2e k E live l h A))) else E (CE 0,AD 68 [nt live,wN] (I8::I7 h A::Z1P)))=(aG [(124,o5),(112,Fg)] [] 80 3 (tk3 l live k h A)) E:=by kernel_rfl
def I9 live k:=AC (vc (BC (eM live) (Zs k)) 2)
def Ja live k:=AC (vc (BC (eM live) (Zs k)) 1)
def HR live k:=AC (vc (BC (eM live) (Zs k)) 0)
def vL live k:=AM [ue DD (HR live k),ue DD (Ja live k),ue DD (I9 live k)]
def Z2p(l:D->Option D) live k h:=bif ir (l (vL live k)) then h else h+(1:Int)
def HS live k:=AM [ue DD (HR live k),ue DD (AC (vc (BC (eM live) (Zs k)) k7)),ue DD (AC (vc (BC (eM live) (Zs k)) (k7+1)))]
noncomputable def yT live k:=bE PR (49:I) (BC (eM live) (Zs k))
def Lo k live:=decide ((0:Int)<=k/\k<vK live)
theorem qiB live k l h B A E:(bif decide (k<nr live) then ob (Lo k live) (ob (yT live k) (ob (Zv k) (E (xz,AD 68 [wN,(54,gC live),(55,QY live),(56,ZA k)] (I8::I7 l B::(2,we 0 Y (HH 49 (λF=>bif NO (HS live k) F then Z jh else h F) (Z2p h live k A) C))::Z1O))))) else E (CE 2,AD 68 [wN] (I8::I7 l B::(2,I6 h A)::Z1O)))=(aG [] [] 80 10 (qdq live k l h B A)) E:=by kernel_rfl
theorem qiC{α:Type}(enc:α->D) m x:yS enc m (aF x)=(m x).map enc:=rfl
theorem zX{α:Type}(enc:α->D) m m' x v (A:m' x=Z v)(h: ∀y,y≠x->m' y=m y):aW (aF x) (enc v) (yS enc m)=yS enc m':=by
 funext d;unfold aW;cases hd:NO (aF x) d with
 |true=>have:=(D.bU _ _).1 hd;grind [qiC]
 |false=>
  have l:aF x≠d:=λe=>by rw[(D.bU _ _).2 e] at hd;cases hd
  simp only[zbE];unfold yS;split
  next a b c=>rw[h (a,b,c) (λe=>l (by rw[<-e];rfl))]
  rfl
theorem Lp{T p}(h:(bp T p.1).isSome=C):aW (aF p.1) (bI p) (cX T)=cX (T++[p]):=by
 have A:T.find? (λq=>q.1==p.1)=Y:=by grind [bp]
 refine zX _ _ _ _ _ ?_ λy l=> ?_
 ·grind [bp]
 unfold bp;rw[zcB];have:([p]:List Pl).find? (λq=>q.1==y)=Y:=by grind
 rw[this,zdl]
theorem HT{V x}:aW (aF x) (.agg []) (du V)=du (HM V x):=by
 refine zX (λ_=> .agg []) _ _ x () ?_ λy h=> ?_
 ·unfold HM;split<;>simp_all
 grind [HM]
theorem rP V x:du V (aF x)=(if x∈V then Z () else Y).map (λ_=> .agg []):=rfl
theorem QZ V x:(bif (du V (aF x)).isSome then(J V:Int) else(J V:Int)+1)=(J (HM V x):Int):=by rw[rP];unfold HM;by_cases h:x∈V<;>simp[h]
theorem oD T x:cX T (aF x)=(bp T x).map bI:=rfl
theorem fJ p:bE PR 108 (bI p)=O:=by rfl
theorem jG x:bE PR 49 (aF x)=O:=by rfl
def ti:Pl:=((0,0,0),(0,0,0),[],C)
theorem jy{l i}(h:i<J l):BC (l.map bI) i=bI (l.getD i ti):=by rw[aA bI l i h];grind
theorem B2{l i}(h:i<J l):BC (l.map aF) i=aF (l.getD i (0,0,0)):=by rw[aA aF l i h];grind
theorem ui{α β:Type}(f:β->α->β) b l d k (h:k<J l):(l.take (k+1)).foldl f b=f ((l.take k).foldl f b) (l.getD k d):=by rw[zbG,zae h,zbZ];grind
section
variable{X:XF}
theorem XX:LD X 80 10 (ah (aV 80 10) qgh):=LD.par .nil .nil
 (A:=List ak×(D->Option D)×Int) (B:=Int) (λa k=>qdq a.1 k a.2.1 (du (tg (a.1.take k.toNat))) a.2.2 (J (tg (a.1.take k.toNat))))
 (λa k=>J a.1<=1000000/\0<=k/\k.toNat<=J a.1)
 (λa k=>(J a.1-k).toNat)
 (λa x=>x=(.exit 2,⟨68,[(5,.ref 0 0 0)],Ll a.2.1 (du (tg a.1)) vJ vJ a.2.2 (J (tg a.1)) 0 0⟩))
 (by
  rintro⟨l,G,H⟩ k ⟨F,h0,h1⟩
  (rw[<-qiB];delta qw I6 M9 Dd Z1O Zs eM I9 Ja HR vL Z2p jh k7 HS I7 kP HO I8 Zz ZA dK nr QY gC cp wN Z8 Z7 Zv yT oH vK Lo)
  simp only[zaa];refine bj (λh=> ?_) λh=> ?_
  ·have hk:k.toNat<J l:=by omega
   rw[B2 hk];refine bu ⟨h0,by omega⟩ (ao (jG _) (ao (j9 (by omega) (by omega)) ⟨_,?_,k+1,?_,⟨F,by omega,by omega⟩,rfl⟩))
   ·omega
   have e:tg (l.take (k+1).toNat)=HM (tg (l.take k.toNat)) (l.getD k.toNat (0,0,0)):=by rw[show(k+1).toNat=k.toNat+1 by omega];exact ui HM [] l _ k.toNat hk
   rw[e,<-HT,<-QZ];rfl
  rw[zak (by omega)];rfl)
 (by
  rintro s E ⟨l,G,H,rfl,F,L⟩;refine⟨(l,G,H),0,?_,⟨F,by decide,by simp⟩,?_⟩
  ·have:du (tg [])=vJ:=by funext d;show yS _ _ d=Y;unfold yS;split<;>rfl
   show _=qdq l 0 G (du (tg [])) H 0;rw[this]
  grind)
theorem qdr:LD X 80 3 (ah (aV 80 3) qmg):=LD.par (.cons xy (.cons OR .nil)) .nil
 (A:=List Pl×List ak) (B:=Int) (λa k=>tk3 a.1 a.2 k (cX (il (a.1.take k.toNat))) (J (il (a.1.take k.toNat))))
 (λa k=>J a.1<=1000000/\0<=k/\k.toNat<=J a.1)
 (λa k=>(J a.1-k).toNat)
 (λa x=>x=(.exit 0,⟨68,[(1,cF a.2),(5,.ref 0 0 0)],Ll (cX (il a.1)) vJ vJ vJ (J (il a.1)) 0 0 0⟩))
 (by
  rintro⟨l,live⟩ k ⟨H,h0,h1⟩
  (rw[<-qmh];delta qw I6 I7 cp wN eM gC nt M9 Dd Z1O Z1P kP HO I8 Zz ZA fp qa fI jP Z29 Z8 Z7 Zv Z2e k7 B1 Na OT lH Zs ln Zn Zj Zk sM Lm Ln HP Z2f XW Z28 Z2 nA Z5 uL qG sf HQ)
  simp only[zaa];refine bj (λh=> ?_) λh=> ?_
  ·have hk:k.toNat<J l:=by omega
   rw[jy hk];have e:il (l.take (k+1).toNat)=Dc (il (l.take k.toNat)) (l.getD k.toNat ti):=by rw[show(k+1).toNat=k.toNat+1 by omega];exact ui Dc [] l _ k.toNat hk
   generalize l.getD k.toNat ti=p at e;generalize il (l.take k.toNat)=T at e;have go: ∀G,Dc T p=G-> ∃m,m<((J l:Int)-k).toNat/\ ∃b,(⟨68,[(1,cF live),(5,.ref 0 0 0),(18,ew l),(19,.d (.int DD (J l:Int))),(20,.d (.int DD (k+1)))],Ll (cX G) vJ vJ vJ (J G) 0 0 0⟩:S)=tk3 l live b (cX (il (l.take b.toNat))) (J (il (l.take b.toNat)))/\(J l<=1000000/\0<=b/\b.toNat<=J l)/\m=((J l:Int)-b).toNat:=λG V=>⟨((J l:Int)-(k+1)).toNat,by omega,k+1,by rw[e,V],⟨H,by omega,by omega⟩,rfl⟩
   refine bu ⟨h0,by omega⟩ (ao (fJ _) (ao ?_ (az (λQ=> ?_) λQ=>ao (j9 (by omega) (by omega)) ?_)))
   ·show bE PR 108 (aK (cX T (aF p.1)) _)=O;rw[oD];cases bp T p.1 with
    |none=>rfl
    |some q=>rfl
   ·have F:(bp T p.1).isSome=C:=by
     have L:(!(cX T (aF p.1)).isSome)=O:=Q;have:(cX T (aF p.1)).isSome=C:=by grind
     rw[oD,zcC] at this;exact this
    refine⟨p.1.1,p.1.2.1,p.1.2.2,rfl,rfl,az (λU=>⟨p.2.2.1,rfl,rfl,az (λR=>ao (j9 (by omega) (by omega)) ?_) λR=>ao (j9 (by omega) (by omega)) ?_⟩) λU=>ao (j9 (by omega) (by omega)) ?_⟩
    ·have:=go (T++[p]) (by unfold Dc;simp[F,oC,U,R]);rw[<-Lp F] at this;have el:(J (T++[p]):Int)=(bif ir (cX T (aF p.1)) then(J T:Int) else(J T:Int)+1):=by rw[oD];simp[F]
     rw[el] at this;exact this
    ·exact go T (by unfold Dc;simp[F,oC,R])
    exact go T (by unfold Dc;simp[F,oC,U])
   have BQ:(bp T p.1).isSome=O:=by
    have L:(!(cX T (aF p.1)).isSome)=C:=Q;have:(cX T (aF p.1)).isSome=O:=by grind
    rw[oD,zcC] at this;exact this
   exact go T (by unfold Dc;simp[BQ])
  rw[zak (by omega)];rfl)
 (by
  rintro s E ⟨l,live,rfl,H,hp⟩;refine⟨(l,live),0,?_,⟨H,by decide,by simp⟩,?_⟩
  ·have:cX (il [])=vJ:=by funext d;show yS _ _ d=Y;unfold yS;split<;>rfl
   show _=tk3 l live 0 (cX (il [])) 0;rw[this]
  grind)
theorem qds:FD X 80 XV:=FD.mk .nil (.cons qdr (.cons XX .nil)) (by
 intro ps R E A;obtain⟨l,live,rfl,rfl,⟨F,B⟩,h⟩:=A
 (rw[<-qrz];delta M9 Dd Z1O jh cp dK ll qw I6 I7 nr QY eM oH vK gC fp iB Z5 qa Z1I Z1P kP HO I8 fI sf jP wN nt)
 simp only[zaa];exact⟨l,live,rfl,F,live,_,_,rfl,B,h⟩)
end
abbrev gH(G F B A:D->Option D)(R Q L H:Int)(l h:Bool):List (Nat×En):=
 [(0,⟨0,Z 0,.box 163 [.mp 1 0,.mp 2 0,.mp 3 0,.mp 4 0]⟩),(1,⟨0,Z 1,.map 49 G R C⟩),(2,⟨0,Z 2,.map 49 F Q l⟩),(3,⟨0,Z 3,.map 49 B L h⟩),(4,⟨0,Z 4,.map 49 A H C⟩)]
abbrev wyR(x:ak)(out:List ak) G F B A R Q L H l h:=
 gH G F B A R Q L H l h++[(5,⟨0,Y,.box 49 [.d (.int DD x.1),.d (.int DD x.2.1),.d (.int DD x.2.2)]⟩),(6,⟨0,Y,.arr 49 C (out.map aF)⟩)]
abbrev wyH(x:ak)(out:List ak)(m k:Int)(G F B A:D->Option D)(R Q L H:Int)(l h:Bool):S:=
 ⟨50,[(0,.ref 0 0 0),(3,.ref 5 0 0),(6,.sl 6 0 (J out)),(15,.d (.int DD m)),(16,.d (.int DD k))],wyR x out G F B A R Q L H l h⟩
def qb h l:=(4,we 0 (Z 4) (qw h l))
def DU h l:=[qb h l]
def fq:=(0,cp)
def Z2L:=[fq]
def fO(x:ak):=bl (bl x)
def gA x:=ue DD (fO x)
def gD(x:ak):=ba (bl x)
def fP x:=ue DD (gD x)
def fQ(x:ak):=ue DD (ba x)
def fe x:=AM [fQ x,fP x,gA x]
def Z2K(h:D->Option D) x:=we 0 Y (GT (49:I) [Cs (ue DD (AC (vc (aK (h (fe x)) uL) 3))),Cs (ue DD (AC (vc (aK (h (fe x)) uL) 4))),Cs (ue DD (AC (vc (aK (h (fe x)) uL) 5)))])
def Z2J:=(3,RK 5 0 0)
def OU out:=ab (dK out) (eM out)
def Z2I out x:=we 0 Y (AS (49:I) C (OU out++[fe x]))
def uM l A h:=(3,we 0 (Z 3) (HH 49 l A h))
def mK l A h:=(2,we 0 (Z 2) (HH 49 l A h))
def OV h l:=(1,we 0 (Z 1) (qw h l))
def jz:=(0,we 0 (Z 0) HO)
def Z2G out x:=dK out+J [fe x]
def XY out:=gr (dK out) (oH out)
def xH:=we 0 Y (AS (49:I) C [])
def zY:=If 5 0 0
def Z2E(E:PX×S->Prop) G R F Q l B L h A H:=E (Q2,AD 50 [fq,(4,zY),(5,Cs Z2)] [jz,OV G R,mK F Q l,uM B L h,qb A H,(5,xH)])
theorem qmi x out m k h G F B R Q L H A l E:(bif Zh k m then ob (bE PR (108:I) (aK (h (fe x)) uL)) (bif !ir (h (fe x)) then Z2E E h R G Q A F L l B H else bif decide (nr out>(0:Int)) then bif !Q3 (vc (aK (h (fe x)) uL) 7) then Z2E E h R G Q A F L l B H else ob (XY out&&aB (Z2G out x) 24) (bif AC (vc (aK (h (fe x)) uL) 3)==(0:Int)&&(AC (vc (aK (h (fe x)) uL) 4)==(0:Int)&&O)&&(AC (vc (aK (h (fe x)) uL) 5)==(0:Int)&&O) then E (Q2,AD 50 [fq,(4,If 5 0 (Z2G out x)),(5,ZT)] [jz,OV h R,mK G Q A,uM F L l,qb B H,(5,Z2I out x)]) else ob (Zv k) (E (xz,AD 50 [fq,Z2J,(6,If 6 0 (Z2G out x)),(15,Zl m),(16,ZA k)] [jz,OV h R,mK G Q A,uM F L l,qb B H,(5,Z2K h x),(6,Z2I out x)]))) else ob (XY out&&aB (Z2G out x) 24) (bif AC (vc (aK (h (fe x)) uL) 3)==(0:Int)&&(AC (vc (aK (h (fe x)) uL) 4)==(0:Int)&&O)&&(AC (vc (aK (h (fe x)) uL) 5)==(0:Int)&&O) then E (Q2,AD 50 [fq,(4,If 5 0 (Z2G out x)),(5,ZT)] [jz,OV h R,mK G Q A,uM F L l,qb B H,(5,Z2I out x)]) else ob (Zv k) (E (xz,AD 50 [fq,Z2J,(6,If 6 0 (Z2G out x)),(15,Zl m),(16,ZA k)] [jz,OV h R,mK G Q A,uM F L l,qb B H,(5,Z2K h x),(6,Z2I out x)])))) else E (CE 0,AD 50 Z2L (jz::OV h R::mK G Q A::uM F L l::DU B H)))=(aG [] [] 125 3 (wyH x out m k h G F B R Q L H A l)) E:=by kernel_rfl
def Vi(T:List Pl):Nat->ak->List ak->Option (List ak)
 |0,_,_=>Y
 |n+1,x,out=>match bp T x with
  |Y=>Y
  |Z p=>if 0<J out/\p.2.2.2=C then Y else if p.2.1=(0,0,0) then Z (out++[x]) else Vi T n p.2.1 (out++[x])
def wy T x:=Vi T (J T+1) x []
abbrev wyO(l:List ak)(b:Bool)(H G F B:D->Option D)(U R Q L:Int)(A h:Bool):S:=
 ⟨50,[(0,.ref 0 0 0),(4,.sl 5 0 (J l)),(5,.d (.bool b))],gH H G F B U R Q L A h++[(5,⟨0,Y,.arr 49 C (l.map aF)⟩)]⟩
def gWy:S->K (PX×S):=λs E=> ∃T x G F B Q L H A h,s=wyH x [] ((J T:Int)+1) 0 (cX T) G F B (J T) Q L H A h/\J T<=1000000/\
 (∀l,wy T x=Z l->E (.ret,wyO l O (cX T) G F B (J T) Q L H A h))/\(wy T x=Y->E (.ret,wyO [] C (cX T) G F B (J T) Q L H A h)/\E (.exit 0,⟨50,[(0,.ref 0 0 0)],gH (cX T) G F B (J T) Q L H A h⟩))
def Nb:=[Cs Z2]
def tj l:=we 0 Y (AS (49:I) C (eM l))
def Q0:=[ZT]
def Z2O h:=(1,we 0 (Z 1) (HH 49 (λx=>match x with |AM [ue DD a,ue DD b,ue DD c]=>i7 bI (bp h (a,b,c))|_=>Y) (qa h) C))
def pd h:=we 0 Y (GT (49:I) [Cs (fQ h),Cs (fP h),Cs (gA h)])
def Z2N:=[(16,Cs Z5)]
theorem qrA T x f2 f3 f4 R c2 c3 c4 z2 z3 E:(ob (Zv R) (∃h V G F L Q B H A U,AD 50 (fq::Z2J::(6,If 6 0 0)::(15,ZA R)::Z2N) [jz,(1,we 0 (Z 1) (HH 49 (λx=>match x with |AM [ue DD a,ue DD b,ue DD c]=>i7 bI (bp T (a,b,c))|_=>Y) R C)),mK f2 c2 z2,uM f3 c3 z3,qb f4 c4,(5,pd x),(6,xH)]=AD 50 (fq::Z2J::(6,If 6 0 0)::(15,Cs (ue DD (qa h+(1:Int))))::Z2N) [jz,Z2O h,mK G Q A,uM F B U,qb L H,(5,pd V),(6,xH)]/\iB h/\(∀l,wy h V=Z l->E (P.cy (If 5 0 (dK l)::Q0),[jz,Z2O h,mK G Q A,uM F B U,qb L H,(5,tj l)]))/\(wy h V=Y->E (P.cy (zY::Nb),[jz,Z2O h,mK G Q A,uM F B U,qb L H,(5,xH)])/\E (P.cy (zY::Nb),[jz,Z2O h,mK G Q A,uM F B U,qb L H,(5,xH)]))))=(aO [] [(3,ah (aV 125 3) gWy)] 125 [.ref 0 0 0,.d (aF x)] (gH (cX T) f2 f3 f4 R c2 c3 c4 z2 z3)) E:=by kernel_rfl
def qdt:bc:=λps R E=> ∃T x G F B Q L H A h,ps=[.ref 0 0 0,.d (aF x)]/\R=gH (cX T) G F B (J T) Q L H A h/\J T<=1000000/\
 (∀l,wy T x=Z l->E (.cy [.sl 5 0 (J l),.d (.bool O)],gH (cX T) G F B (J T) Q L H A h++[(5,⟨0,Y,.arr 49 C (l.map aF)⟩)]))/\
 (wy T x=Y->E (.cy [.sl 5 0 0,.d (.bool C)],gH (cX T) G F B (J T) Q L H A h++[(5,⟨0,Y,.arr 49 C []⟩)]))
theorem Q5(l:List ak):(l.map aF).take (J l)=l.map aF:=zak (by simp)
section
variable{X:XF}
abbrev WyA:=List Pl×ak×(D->Option D)×(D->Option D)×(D->Option D)×Int×Int×Int×Bool×Bool
theorem qiD:LD X 125 3 (ah (aV 125 3) gWy):=LD.par .nil .nil
 (A:=WyA) (B:=ak×List ak×Int) (λa b=>wyH b.1 b.2.1 ((J a.1:Int)+1) b.2.2 (cX a.1) a.2.2.1 a.2.2.2.1 a.2.2.2.2.1 (J a.1) a.2.2.2.2.2.1 a.2.2.2.2.2.2.1 a.2.2.2.2.2.2.2.1 a.2.2.2.2.2.2.2.2.1 a.2.2.2.2.2.2.2.2.2)
 (λa b=>J a.1<=1000000/\b.2.2=(J b.2.1:Int)/\J b.2.1<=J a.1+1/\Vi a.1 (J a.1+1-J b.2.1) b.1 b.2.1=wy a.1 a.2.1)
 (λa b=>J a.1+1-J b.2.1)
 (λa x=>(∃l,wy a.1 a.2.1=Z l/\x=(.ret,wyO l O (cX a.1) a.2.2.1 a.2.2.2.1 a.2.2.2.2.1 (J a.1) a.2.2.2.2.2.1 a.2.2.2.2.2.2.1 a.2.2.2.2.2.2.2.1 a.2.2.2.2.2.2.2.2.1 a.2.2.2.2.2.2.2.2.2))\/
  (wy a.1 a.2.1=Y/\(x=(.ret,wyO [] C (cX a.1) a.2.2.1 a.2.2.2.1 a.2.2.2.2.1 (J a.1) a.2.2.2.2.2.1 a.2.2.2.2.2.2.1 a.2.2.2.2.2.2.2.1 a.2.2.2.2.2.2.2.2.1 a.2.2.2.2.2.2.2.2.2)\/
   x=(.exit 0,⟨50,[(0,.ref 0 0 0)],gH (cX a.1) a.2.2.1 a.2.2.2.1 a.2.2.2.2.1 (J a.1) a.2.2.2.2.2.1 a.2.2.2.2.2.2.1 a.2.2.2.2.2.2.2.1 a.2.2.2.2.2.2.2.2.1 a.2.2.2.2.2.2.2.2.2⟩))))
 (by
  rintro⟨T,x0,f2,f3,f4,c2,c3,c4,z2,z3⟩ ⟨x,out,k⟩ ⟨hm,ix,hle,hw⟩;dsimp only at*
  (rw[<-qmi];delta qw qb DU cp fq Z2L Z2 nA Z5 uL fO gA gD fP fQ fe Z2K Zz ZA Zj Zl Z2J Z8 Z7 Zv eM dK OU Z2I uM mK OV kP HO jz ZT Z2G oH XY nr xH zY Z2E Zh)
  refine bj (λh=> ?_) λh=> ?_
  ·have hn:J T+1-J out=(J T-J out)+1:=by omega
   rw[hn] at hw;simp only[Vi] at hw;have hf:cX T (AM [ue DD (ba x),ue DD (ba (bl x)),ue DD (bl (bl x))])=(bp T x).map bI:=rfl;simp only[hf];cases hp:bp T x with
   |none=>rw[hp] at hw;exact ao (by kernel_rfl) (nM rfl (.inr ⟨hw.symm,.inl rfl⟩))
   |some p=>
    rw[hp] at hw;simp only at hw;refine ao (fJ p) (nN rfl ?_);have U:decide ((-9223372036854775808:Int)<=k+(1:Int)/\k+(1:Int)<=(9223372036854775807:Int))=O:=j9 (by omega) (by omega);have L:(gr (J out) (J (aa aF out))&&aB (J out+J [AM [ue DD (ba x),ue DD (ba (bl x)),ue DD (bl (bl x))]]) 24)=O:=by rw[zaa];simp[aB];omega
    have e1:J (out++[x])=J out+J [AM [ue DD (ba x),ue DD (ba (bl x)),ue DD (bl (bl x))]]:=by simp
    have e2:(out++[x]).map aF=ab (J out) (out.map aF)++[AM [ue DD (ba x),ue DD (ba (bl x)),ue DD (bl (bl x))]]:=by rw[Q5];simp[aF]
    have pz: ∀b:Bool,(p.2.1.1==0&&(p.2.1.2.1==0&&O)&&(p.2.1.2.2==0&&O))=b->(if p.2.1=(0,0,0) then O else C)=b:=λb R=>by
     subst R;by_cases F:p.2.1=(0,0,0)
     ·rw[F];rfl
     rw[zat F];cases R:(p.2.1.1==0&&(p.2.1.2.1==0&&O)&&(p.2.1.2.2==0&&O)) with
     |false=>rfl
     |true=>simp at R;exact absurd (Prod.ext R.1.1 (Prod.ext R.1.2 R.2)) F
    have f1: ¬(0<J out/\p.2.2.2=C)->(p.2.1.1==0&&(p.2.1.2.1==0&&O)&&(p.2.1.2.2==0&&O))=O->wy T x0=Z (out++[x]):=λH G=>by
     have F:p.2.1=(0,0,0):=by
      have:=pz _ G;by_cases F:p.2.1=(0,0,0)
      ·exact F
      rw[zat F] at this;cases this
     rw[zat H,zau F] at hw;exact hw.symm
    have V: ¬(0<J out/\p.2.2.2=C)->(p.2.1.1==0&&(p.2.1.2.1==0&&O)&&(p.2.1.2.2==0&&O))=C->Vi T (J T+1-J (out++[x])) p.2.1 (out++[x])=wy T x0:=λH G=>by
     have F: ¬p.2.1=(0,0,0):=λF=>by have:=pz _ G;rw[zau F] at this;cases this
     rw[zat H,zat F] at hw;have en:J T+1-J (out++[x])=J T-J out:=by rw[zaf,zbP];omega
     rw[en];exact hw
    refine bj (λXZ=>az (λhd=> .inr ⟨?_,.inl rfl⟩) λhd=>ao L (az (λG=> .inl ⟨out++[x],?_,?_⟩) λG=>ao U ⟨J T+1-J (out++[x]),?_,(p.2.1,out++[x],k+1),?_,⟨hm,?_,?_,?_⟩,?_⟩))
     λXZ=>ao L (az (λG=> .inl ⟨out++[x],?_,?_⟩) λG=>ao U ⟨J T+1-J (out++[x]),?_,(p.2.1,out++[x],k+1),?_,⟨hm,?_,?_,?_⟩,?_⟩)
    ·have Q:(!p.2.2.2)=O:=hd;have k8:p.2.2.2=C:=by simpa using Q
     rw[zau ⟨by omega,k8⟩] at hw;exact hw.symm
    ·exact f1 (λH=>by have Q:(!p.2.2.2)=C:=hd;rw[H.2] at Q;cases Q) G
    ·simp only[wyO,e1,e2];rfl
    ·simp;omega
    ·simp only[wyH,wyR,e1,e2];rfl
    ·show k+1=(J (out++[x]):Int)
     rw[ix,zaf,zbP];omega
    ·simp;omega
    ·exact V (λH=>by have Q:(!p.2.2.2)=C:=hd;rw[H.2] at Q;cases Q) G
    ·rfl
    ·exact f1 (λH=>XZ (by have:=H.1;omega)) G
    ·simp only[wyO,e1,e2];rfl
    ·simp;omega
    ·simp only[wyH,wyR,e1,e2];rfl
    ·show k+1=(J (out++[x]):Int)
     rw[ix,zaf,zbP];omega
    ·simp;omega
    ·exact V (λH=>XZ (by have:=H.1;omega)) G
    rfl
  have:J T+1-J out=0:=by omega
  rw[this] at hw;exact .inr ⟨hw.symm,.inr rfl⟩)
 (by
  rintro s E ⟨T,x,f2,f3,f4,c2,c3,c4,z2,z3,rfl,hm,h1,h2⟩;refine⟨(T,x,f2,f3,f4,c2,c3,c4,z2,z3),(x,[],0),rfl,⟨hm,rfl,by simp,rfl⟩,?_⟩;rintro y (⟨l,F,rfl⟩| ⟨F,rfl |rfl⟩)
  ·exact h1 l F
  ·exact(h2 F).1
  exact(h2 F).2)
theorem qgi:FD X 125 qdt:=FD.mk .nil (.cons qiD .nil) (by
 intro ps R E hh;obtain⟨T,x,f2,f3,f4,c2,c3,c4,U,Q,L,A,hm,V,H⟩:=hh;subst L;have F: ∀B:Int,B=(J T:Int)->aO [] [(3,ah (aV 125 3) gWy)] 125 [.ref 0 0 0,.d (aF x)] (gH (cX T) f2 f3 f4 B c2 c3 c4 U Q) E:=by
  intro B G
  (rw[<-qrA];delta Z2 Nb zY eM tj ZT Q0 dK fp iB qa Z2O xH fO gA gD fP fQ pd qw qb uM mK kP HO jz Z5 Z2N Zz ZA Z2J cp fq Z8 Z7 Zv)
  refine ao (j9 (by omega) (by omega)) ⟨T,x,f2,f3,f4,c2,c3,c4,U,Q,?_,hm,λl hl=>V l hl,λh=>⟨H h,H h⟩⟩;rw[G]
 rw[A];clear V H A;generalize G:(J T:Int)=B;exact F B G.symm)
end
def kr(x y:ak):=decide (x.1<y.1\/x.1=y.1/\(x.2.1<y.2.1\/x.2.1=y.2.1/\x.2.2<y.2.2))
theorem vN x y:lj x.1 x.2.1 x.2.2 y.1 y.2.1 y.2.2<0↔kr x y=O:=by
 unfold kr;simp only[zam,lj,vG,TE,sL]
 (repeat' split)<;>omega
structure Lq{α:Type}(lt:α->α->Bool):Prop where
 KE: ∀x,lt x x=C
 tr: ∀x y z,lt x y=O->lt y z=O->lt x z=O
 wX: ∀x y,lt x y=C->lt y x=C->x=y
theorem fR:Lq kr where
 KE x:=by simp[kr]
 tr x y z:=by grind [kr]
 wX x y:=by grind [kr]
theorem Lq.asymm{α:Type}{lt:α->α->Bool}(h:Lq lt){x y}(A:lt x y=O):lt y x=C:=by
 cases l:lt y x with
 |false=>rfl
 |true=>have:=h.tr _ _ _ A l;rw[h.KE] at this;cases this
theorem Lq.ntr{α:Type}{lt:α->α->Bool}(h:Lq lt){x y z}(F:lt x y=C)(A:lt y z=C):lt x z=C:=by
 cases B:lt x z with
 |false=>rfl
 |true=>
  cases l:lt y x with
  |true=>rw[h.tr _ _ _ l B] at A;cases A
  |false=>have:=h.wX _ _ F l;grind
theorem tn: ∀x,IT x []=C
 | []=>rfl
 |_::_=>rfl
theorem mM a b r s:IT (a::r) (b::s)=(decide (a<b)||a==b&&IT r s):=rfl
theorem tp: ∀x,IT x x=C
 | []=>rfl
 |a::r=>by rw[mM,tp r];simp
theorem tq: ∀x y,IT x y=C->IT y x=C->x=y
 | [],[],_,_=>rfl
 | [],_::_,h,_=>by cases h
 |_::_,[],_,h=>by cases h
 |a::r,b::s,h1,h2=>by rw[mM] at h1 h2;simp only[Bool.or_eq_false_iff,zbl,Bool.and_eq_false_imp,zbV] at h1 h2;have:a=b:=UInt8.le_antisymm (UInt8.not_lt.1 h2.1) (UInt8.not_lt.1 h1.1);subst this;rw[tq r s (h1.2 rfl) (h2.2 rfl)]
theorem vO: ∀x y z,IT x y=O->IT y z=O->IT x z=O
 |_,y,[],_,h=>by rw[tn] at h;cases h
 |x,[],_::_,h,_=>by rw[tn] at h;cases h
 | [],_::_,_::_,_,_=>rfl
 |a::r,b::s,c::t,A,l=>by
  rw[mM] at A l⊢;simp only[zbn,zam,zac,zbV] at A l⊢;rcases A with A | ⟨rfl,A⟩
  ·grind
  rcases l with l | ⟨rfl,l⟩
  ·grind
  exact .inr ⟨rfl,vO r s t A l⟩
theorem Lr:Lq IT:=⟨tp,vO,tq⟩
theorem qdu x y:HF x y<0↔IT x y=O:=by grind [HF]
section
variable{α:Type}(lt:α->α->Bool)
def sN(a:α):List α->List α
 | []=>[a]
 |b::r=>if lt a b then b::sN a r else a::b::r
def fU(o:List α) a:=(sN lt a o.reverse).reverse
def dL(l:List α):=l.foldl (fU lt) []
variable{lt}
theorem xI a: ∀l,(sN lt a l).Perm (a::l)
 | []=> .refl _
 |b::r=>by
  unfold sN;split
  ·exact((xI a r).cons b).trans (.swap a b r)
  rfl
theorem iV o a:(fU lt o a).Perm (o++[a]):=by unfold fU;refine(zc7 _).trans ((xI a _).trans ?_);grind [List.reverse_perm,List.perm_append_comm]
theorem B3: ∀(l o:List α),(l.foldl (fU lt) o).Perm (o++l)
 | [],o=>by simp
 |a::r,o=>by refine(B3 r _).trans ?_;exact((iV o a).append_right r).trans (by simp)
theorem cm l:(dL lt l).Perm l:=by grind [dL,B3]
theorem Q6(h:Lq lt) a: ∀l,l.Pairwise (λx y=>lt x y=C)->(sN lt a l).Pairwise (λx y=>lt x y=C)
 | [],_=>by simp[sN]
 |b::r,hp=>by
  unfold sN;have B:=zcv.1 hp;split
  next F=>
   refine zcv.2 ⟨λy A=> ?_,Q6 h a r B.2⟩;rcases zao.1 ((xI a r).mem_iff.1 A) with rfl |A
   ·exact h.asymm F
   grind
  rename_i F;have F:lt a b=C:=by grind
  refine zcv.2 ⟨λy A=> ?_,hp⟩;rcases zao.1 A with rfl |A
  ·exact F
  exact h.ntr F (B.1 _ A)
theorem zZ(h:Lq lt){o} a (l:o.Pairwise (λx y=>lt y x=C)):(fU lt o a).Pairwise (λx y=>lt y x=C):=by grind [fU,Q6]
theorem Ls(h:Lq lt): ∀(l o:List α),o.Pairwise (λx y=>lt y x=C)->(l.foldl (fU lt) o).Pairwise (λx y=>lt y x=C)
 | [],_,hp=>hp
 |a::r,_,hp=>Ls h r _ (zZ h a hp)
theorem B4(h:Lq lt) l:(dL lt l).Pairwise (λx y=>lt y x=C):=Ls h l [] .nil
theorem OW(h:Lq lt){a b:List α}(l:a.Perm b)(B:a.Pairwise (λx y=>lt y x=C))(A:b.Pairwise (λx y=>lt y x=C)):a=b:=
 zdo (λ_ _ _ _ G F=>h.wX _ _ F G) B A l
theorem B5(h:Lq lt){a b}(l:a.Perm b)(A:a.Pairwise (λx y=>lt y x=C)):a=dL lt b:=
 OW h (l.trans (cm b).symm) A (B4 h b)
end
theorem kb{α β:Type}{lt}(h:Lq lt)(l:α->β){a b:List α}(hk: ∀x∈a,∀y∈a,l x=l y->x=y)(A:a.Perm b)
  (H:a.Pairwise (λx y=>lt (l y) (l x)=C)) (G:b.Pairwise (λx y=>lt (l y) (l x)=C)):a=b:=
 zdo (le:=λx y=>lt (l y) (l x)=C) (λx y F B Q L=>hk x F y (A.mem_iff.2 B) (h.wX _ _ L Q)) H G A
theorem vP{α β:Type}{lt}(h:α->β) a: ∀l,(sN (λx y=>lt (h x) (h y)) a l).map h=sN lt (h a) (l.map h)
 | []=>rfl
 |b::r=>by
  simp only[sN,zaS];split
  ·simp[vP h a r]
  simp
theorem X0{α β:Type}{lt}(h:α->β) o a:(fU (λx y=>lt (h x) (h y)) o a).map h=fU lt (o.map h) (h a):=by unfold fU;rw[zbI,vP,zbI]
theorem Fh{α β:Type}{lt:β->β->Bool} h: ∀l o:List α,(l.foldl (fU (λx y=>lt (h x) (h y))) o).map h=(l.map h).foldl (fU lt) (o.map h)
 | [],_=>rfl
 |a::r,o=>by simp only[zbh,zaS];rw[Fh h r,X0]
theorem lS{α β:Type}{lt}(h:Lq lt)(A:α->β) l:(dL (λx y=>lt (A x) (A y)) l).Pairwise (λx y=>lt (A y) (A x)=C):=by have e:(dL (λx y=>lt (A x) (A y)) l).map A=dL lt (l.map A):=Fh A l [];have:=B4 h (l.map A);rw[<-e,za1] at this;exact this
abbrev aJ:ak:=(0,0,0)
inductive Up(T:List Pl):ak->List ak->Prop
 |top {x:ak} {p:Pl} (h:bp T x=Z p) (h0:p.2.1=aJ):Up T x [x]
 |step {x:ak} {p q:Pl} {w:List ak} (h:bp T x=Z p) (h0:p.2.1≠aJ) (hq:bp T p.2.1=Z q) (hd:q.2.2.2=O) (hw:Up T p.2.1 w):Up T x (x::w)
section
variable{T:List Pl}
theorem cw{x p}(h:bp T x=Z p):p∈T/\p.1=x:=by grind [bp]
theorem Up.one{x w}(h:Up T x w): ∀{w'},Up T x w'->w=w':=by
 induction h with
 |top h h0=>
  intro w' l;cases l with
  |top=>rfl
  |step h1 h2=>grind
 |step h h0 hq hd hw ih=>
  intro w' l;cases l with
  |top h1 h2=>grind
  |step h1 h2 _ _ h5=>rw[h] at h1;cases h1;rw[ih h5]
theorem Up.hd{x w}(h:Up T x w): ∃r,w=x::r:=by
 cases h with
 |top=>simp
 |step=>simp
theorem Up.at{x w}(h:Up T x w): ∃p,bp T x=Z p:=by
 cases h with
 |top h=>grind
 |step h=>grind
theorem Up.sub{x w}(h:Up T x w): ∀u∈w,∃w',Up T u w'/\J w'<=J w/\ ∃v,w=v++w':=by
 induction h with
 |top h h0=>intro u hu;simp at hu;subst hu;exact⟨_,.top h h0,by simp,[],rfl⟩
 | @step x p q w h h0 hq hd hw ih=>
  intro u hu;rcases zao.1 hu with rfl |hu
  ·exact⟨_,.step h h0 hq hd hw,zag _,[],rfl⟩
  grind
theorem Up.nodup{x w}(h:Up T x w):w.Nodup:=by
 induction h with
 |top=>simp
 | @step x p q w h h0 hq hd hw ih=>refine zaU.2 ⟨λl=> ?_,ih⟩;obtain⟨w',A,B,_⟩:=hw.sub x l;have:=A.one (.step h h0 hq hd hw);grind
theorem Up.len{x w}(h:Up T x w):J w<=J T:=by
 have:w⊆T.map (·.1):=λu hu=>by obtain⟨w',l,_⟩:=h.sub u hu;obtain⟨p,A⟩:=l.at;grind [cw]
 simpa using h.nodup.length_le_of_subset this
theorem X1: ∀n x out l,Vi T n x out=Z l->(∀p,0<J out->bp T x=Z p->p.2.2.2=O)-> ∃w,l=out++w/\Up T x w
 |0,_,_,_,h,_=>by cases h
 |n+1,x,out,l,h,hd=>by
  unfold Vi at h;cases A:bp T x with
  |none=>rw[A] at h;cases h
  |some p=>
   rw[A] at h;simp only at h;split at h
   ·cases h
   split at h
   ·cases h;exact⟨[x],rfl,.top A (by assumption)⟩
   rename_i R L;cases G:bp T p.2.1 with
   |none=>
    cases n with
    |zero=>cases h
    |succ n=>grind [Vi]
   |some q=>
    have B:q.2.2.2=O:=by
     cases n with
     |zero=>cases h
     |succ n=>grind [Vi]
    obtain⟨w,e,F⟩:=X1 n p.2.1 (out++[x]) l h λQ _ H=>by grind
    exact⟨x::w,by rw[e];simp,.step A L G B F⟩
theorem qiE{x w}(h:Up T x w): ∀n out,J w<=n->(∀p,0<J out->bp T x=Z p->p.2.2.2=O)->Vi T n x out=Z (out++w):=by
 induction h with
 | @top x p h h0=>
  intro n out l hd;cases n with
  |zero=>simp at l
  |succ n=>unfold Vi;simp only[h];rw[zat (λA=>by have:=hd p A.1 h;rw[A.2] at this;cases this),zau h0]
 | @step x p q w h h0 hq Kl hw ih=>
  intro n out l hd;cases n with
  |zero=>simp at l
  |succ n=>grind [Vi]
theorem qc{x w}:wy T x=Z w↔Up T x w:=by
 constructor
 ·intro h;obtain⟨w',e,l⟩:=X1 _ _ _ _ h (λ_ h=>by simp at h);rw[e];exact l
 intro h;have:=qiE h (J T+1) [] (by have:=h.len;omega) (λ_ h=>by simp at h);exact this
def vQ(T:List Pl):Nat->ak->Bool
 |0,_=>C
 |n+1,x=>match bp T x with
  |Y=>C
  |Z p=>if p.2.1=aJ then O else match bp T p.2.1 with
   |Y=>C
   |Z q=>if q.2.2.2=C then C else vQ T n p.2.1
def mN T x:=vQ T (J T+1) x
theorem Lt: ∀n x,vQ T n x=O-> ∃w,Up T x w
 |0,_,h=>by cases h
 |n+1,x,h=>by
  unfold vQ at h;cases l:bp T x with
  |none=>rw[l] at h;cases h
  |some p=>
   rw[l] at h;simp only at h;split at h
   ·exact⟨_,.top l (by assumption)⟩
   rename_i F;cases A:bp T p.2.1 with
   |none=>rw[A] at h;cases h
   |some q=>
    rw[A] at h;simp only at h;split at h
    ·cases h
    rename_i hd;obtain⟨w,B⟩:=Lt n _ h;exact⟨_,.step l F A (by grind) B⟩
theorem X2{x w}(h:Up T x w): ∀n,J w<=n->vQ T n x=O:=by
 induction h with
 | @top x p h h0=>
  intro n l;cases n with
  |zero=>simp at l
  |succ n=>unfold vQ;simp only[h];rw[zau h0]
 | @step x p q w h h0 hq hd hw ih=>
  intro n l;cases n with
  |zero=>simp at l
  |succ n=>grind [vQ]
theorem B6{x}:mN T x=O↔ ∃w,Up T x w:=
 ⟨Lt _ _,λ⟨_,h⟩=>X2 h _ (by have:=h.len;omega)⟩
def dI(T:List Pl):Nat->ak->ak->Bool
 |0,_,_=>O
 |n+1,x,up=>if x=up then O else match bp T x with
  |Y=>C
  |Z p=>dI T n p.2.1 up
def within T x up:=dI T (J T+1) x up
theorem OX{x w}(h:Up T x w){up}(hu:up≠aJ)(A:bp T aJ=Y): ∀n,J w<n->dI T n x up=decide (up∈w):=by
 induction h with
 | @top x p h h0=>
  intro n l
  match n,l with
  |n+2,_=>grind [dI]
  |1,l=>simp at l
 | @step x p q w h h0 hq hd hw ih=>
  intro n l;cases n with
  |zero=>simp at l
  |succ n=>grind [dI]
theorem Fj{V x}(h:V.Nodup):(HM V x).Nodup:=by grind [HM]
theorem qdv{V x z}:z∈HM V x↔z∈V\/z=x:=by grind [HM]
theorem Fk: ∀(l V:List ak),V.Nodup->(l.foldl HM V).Nodup
 | [],_,h=>h
 |_::r,_,h=>Fk r _ (Fj h)
theorem TR l:(tg l).Nodup:=Fk l [] (by simp)
def marked T (live:List ak) z:=live.any λx=>match wy T x with |Z w=>w.contains z |Y=>C
theorem iC{live z}:marked T live z=O↔ ∃x∈live,∃w,Up T x w/\z∈w:=by
 unfold marked;rw[zcJ];constructor
 ·grind [wy,qc]
 rintro⟨x,hx,w,hw,hz⟩;exact⟨x,hx,by rw[qc.2 hw];grind⟩
def bM(T:List Pl) live:=T.filter λp=>marked T live p.1
theorem lT{live z}(h:marked T live z=O): ∃w,Up T z w/\ ∀u∈w,marked T live u=O:=by obtain⟨x,B,w,A,l⟩:=iC.1 h;obtain⟨w',G,_,v,F⟩:=A.sub z l;grind [iC]
theorem xJ{live z}(h:marked T live z=O): ∃p,bp T z=Z p:=by obtain⟨w,l,_⟩:=lT h;exact l.at
def zo(S:List ak):List ak->List ak
 | []=>S
 |u::r=>if u∈S then S else zo (S++[u]) r
def UpC T (S:List ak):= ∀z∈S,∃w,Up T z w/\ ∀u∈w,u∈S
theorem qdw{x w}(h:Up T x w): ∀{S:List ak},(∀u∈w,u∈S-> ∀w',Up T u w'-> ∀z∈w',z∈S)-> ∀z,z∈zo S w↔z∈S\/z∈w:=by
 induction h with
 | @top x p h h0=>grind [zo]
 | @step x p q w h h0 hq hd hw ih=>
  intro S B z;unfold zo;split
  next A=>exact⟨.inl,λl=>l.elim id λl=>B x (by simp) A _ (.step h h0 hq hd hw) z l⟩
  rename_i A;have G:=(Up.step h h0 hq hd hw).nodup;rw[ih (λu hu H w' F z l=>by grind)];grind
theorem Fl: ∀(w:List ak) {S:List ak},S.Nodup->(zo S w).Nodup
 | [],_,h=>h
 |u::r,S,h=>by
  unfold zo;split
  ·exact h
  rename_i hu;refine Fl r ?_;grind
theorem UpC.in{S}(h:UpC T S){z}(l:z∈S){w}(A:Up T z w): ∀u∈w,u∈S:=by obtain⟨w',F,B⟩:=h z l;rw[A.one F];exact B
theorem UpC.mk{x w}(h:Up T x w){S}(B:UpC T S):UpC T (zo S w)/\ ∀z,z∈zo S w↔z∈S\/z∈w:=by
 have A:=qdw h (S:=S) λu _ hu w' F=>B.in hu F;refine⟨λz l=> ?_,A⟩;rcases(A z).1 l with l |l
 ·obtain⟨w',G,L⟩:=B z l;grind
 obtain⟨w',G,_,v,H⟩:=h.sub z l;grind
def B7(T:List Pl)(S:List ak)(x:ak):List ak:=match wy T x with |Z w=>zo S w |Y=>S
theorem X3{S} x (h:UpC T S)(B:S.Nodup):UpC T (B7 T S x)/\(B7 T S x).Nodup/\ ∀z,z∈B7 T S x↔z∈S\/ ∃w,Up T x w/\z∈w:=by
 unfold B7;cases l:wy T x with
 |none=>exact⟨h,B,λz=>⟨.inl,λh=>h.elim id λ⟨w,A,_⟩=>by rw[qc.2 A] at l;cases l⟩⟩
 |some w=>have l:=qc.1 l;obtain⟨A,H⟩:=h.mk l;exact⟨A,Fl w B,λz=>by rw[H];exact or_congr Iff.rfl ⟨λh=>⟨w,l,h⟩,λ⟨w',G,F⟩=>by rw[l.one G];exact F⟩⟩
def bn T live:=(bM T live).map (·.1)
def Uq(T:List Pl):=(T.map (·.1)).Nodup
theorem im(hu:Uq T){p}(h:p∈T):bp T p.1=Z p:=by
 unfold bp;unfold Uq at hu
 induction T with
 |nil=>cases h
 |cons a r ih=>grind
theorem pe{live z}:z∈bn T live↔marked T live z=O:=by
 unfold bn bM;constructor
 ·simp
 intro h;obtain⟨p,l⟩:=xJ h;grind [cw]
theorem kF(hu:Uq T) live:(bn T live).Nodup:=
 List.Nodup.sublist (zb6.map _) hu
theorem TS(hu:Uq T){live S:List ak}(l:S.Nodup)(h: ∀z,z∈S↔marked T live z=O):S.Perm (bn T live):=
 (List.perm_ext_iff_of_nodup l (kF hu live)).2 λz=>by rw[h,pe]
theorem OY{live l}(h: ∀z,z∈live↔z∈l) z:marked T live z=marked T l z:=by rw[zbf,iC,iC];grind
end
theorem TT{s}(h:cR s=O):rO s=O:=by have l:=zW h (c:=126) rfl;simp[rO,HI l,h,l]
def Rt T:=Uq T/\ ∀p∈T,oC p=O
theorem qiF{T}(h:Rt T) p:Rt (Dc T p):=by
 unfold Dc;split
 ·exact h
 rename_i G;split
 next A=>
  refine⟨?_,λq l=> ?_⟩
  ·unfold Uq;rw[zaC,zbx];refine⟨h.1,by simp,λa F b B=> ?_⟩;grind [bp]
  rcases zaK.1 l with l |l
  ·exact h.2 q l
  grind
 exact h
theorem X4: ∀(l T:List Pl),Rt T->Rt (l.foldl Dc T)
 | [],_,h=>h
 |p::r,_,h=>X4 r _ (qiF h p)
theorem OZ l:Rt (il l):=X4 l [] ⟨by simp[Uq],by simp⟩
theorem qdx T p:J (Dc T p)<=J T+1:=by grind [Dc]
theorem Q7: ∀l T,J (l.foldl Dc T)<=J T+J l
 | [],_=>by simp
 |p::r,T=>by have:=Q7 r (Dc T p);have:=qdx T p;grind
theorem vR l:J (il l)<=J l:=by simpa [il] using Q7 l []
def nmP(L:List Pl)(p:Pl):=if L.any (λq=>decide (q.2.1=p.2.1)&&(q.2.2.1==p.2.2.1)&&kr q.1 p.1) then(fG p.2.2.1 p.1.1 p.1.2.1 p.1.2.2).1 else p.2.2.1
def De(T:List Pl)(live:List ak)(x:ak):List UInt8:=match bp T x with |Z p=>nmP (bM T live) p |Y=>[]
def B8(T:List Pl)(live:List ak)(x:ak):List (List UInt8):=match wy T x with |Z w=>w.reverse.map (De T live)|Y=>[]
def Q8 T live x:=gy (B8 T live x)
abbrev It:=ak×List UInt8×Bool×Bool
def lq(T:List Pl)(live:List ak)(p:Pl):It:=(p.1,Q8 T live p.1,p.2.2.2,!decide (p.1∈live))
abbrev ltP(a b:It):=IT a.2.1 b.2.1
def mP T live:=dL ltP ((bM T live).map (lq T live))
section
variable{T:List Pl}{live:List ak}
theorem xK{p}(h:oC p=O):(fG p.2.2.1 p.1.1 p.1.2.1 p.1.2.2).1=p.2.2.1++126::gQ p.1.1 p.1.2.1 p.1.2.2:=by simp only[oC,zac] at h;rw[fG,zau h.2,zau h.1]
theorem X5{L p}(h:oC p=O):rO (nmP L p)=O:=by grind [oC,nmP,xK,OQ,TT]
theorem qdy{L p q}(U:p∈L)(R:q∈L)(op:oC p=O)(B:oC q=O)(F:p.2.1=q.2.1)(h:nmP L p=nmP L q):p.1=q.1:=by
 have A:=op;have l:=B;simp only[oC,zac] at A l;unfold nmP at h;split at h
 next c1=>
  split at h
  next V=>rw[xK op,xK B] at h;obtain⟨_,Q,H,G⟩:=TN A.2 A.1 l.2 l.1 h;exact Prod.ext Q (Prod.ext H G)
  rw[xK op] at h;rw[<-h] at l;rw[BX] at l;cases l.2
 grind [xK,BX,kr]
theorem Fm: ∀{a b:List (List UInt8)},(∀x∈a,(47:UInt8)∉x)->(∀x∈b,(47:UInt8)∉x)->gy a=gy b->a=b
 | [],[],_,_,_=>rfl
 | [],_::_,_,_,h=>by simp[gy] at h
 |_::_,[],_,_,h=>by simp[gy] at h
 |x::a,y::b,ha,hb,h=>by
  have F:x++gy a=y++gy b:=by simpa [gy] using h
  have l: ∀(x y:List UInt8) (u v:List (List UInt8)),(47:UInt8)∉x->(47:UInt8)∉y->x++gy u=y++gy v->x=y:=by
   intro x
   induction x with
   |nil=>
    intro y u v _ B h;cases y with
    |nil=>rfl
    |cons c y=>
     cases u with
     |nil=>simp[gy] at h
     |cons z u=>grind [gy]
   |cons c x ih=>
    intro y u v G B h;cases y with
    |nil=>
     cases v with
     |nil=>simp[gy] at h
     |cons z v=>grind [gy]
    |cons d y=>simp only[zdc,za9] at h;rw[h.1,ih y u v (λm=>G (by simp[m])) (λm=>B (by simp[m])) h.2]
  have e:=l x y a b (ha x (by simp)) (hb y (by simp)) F;subst e;rw[Fm (λz A=>ha z (by simp[A])) (λz A=>hb z (by simp[A])) (List.append_cancel_left F)]
theorem yU(B:Rt T) x: ∀s∈B8 T live x,rO s=O:=by
 intro s h;unfold B8 at h;cases l:wy T x with
 |none=>rw[l] at h;cases h
 |some w=>rw[l] at h;obtain⟨u,hu,rfl⟩:=zal.1 h;obtain⟨w',F,_⟩:=(qc.1 l).sub u (by grind);obtain⟨p,A⟩:=F.at;unfold De;rw[A];exact X5 (B.2 p (cw A).1)
theorem vS{x p}(h:marked T live x=O)(l:bp T x=Z p):p∈bM T live:=by obtain⟨B,A⟩:=cw l;exact zce.2 ⟨B,by rw[A];exact h⟩
theorem qiG(L:Rt T){x w}(h:Up T x w): ∀{y v},Up T y v->(∀u∈w,marked T live u=O)->(∀u∈v,marked T live u=O)->w.map (De T live)=v.map (De T live)->x=y:=by
 have hd: ∀{a b:ak} {p q:Pl},bp T a=Z p->bp T b=Z q->marked T live a=O->marked T live b=O->p.2.1=q.2.1->De T live a=De T live b->a=b:=by intro a b p q G F R Q H h;unfold De at h;rw[G,F] at h;have:=qdy (vS R G) (vS Q F) (L.2 p (cw G).1) (L.2 q (cw F).1) H h;rw[<-(cw G).2,<-(cw F).2,this]
 induction h with
 | @top x p h h0=>
  intro y v l A B e;cases l with
  |top h' h0'=>simp only[zaS,zcw,za9,zcu] at e;exact hd h h' (A _ (by simp)) (B _ (by simp)) (by rw[h0,h0']) e
  |step _ _ _ _ hw=>obtain⟨r,rfl⟩:=hw.hd;simp at e
 | @step x p q w h h0 hq qmj hw ih=>
  intro y v l A B e;cases l with
  |top=>obtain⟨r,rfl⟩:=hw.hd;simp at e
  | @step y p' q' v h' h0' _ _ l=>simp only[zaS,za9] at e;have:=ih l (λu hu=>A u (by simp[hu])) (λu hu=>B u (by simp[hu])) e.2;exact hd h h' (A _ (by simp)) (B _ (by simp)) this e.1
theorem B9{x w}(h:Up T x w):B8 T live x=w.reverse.map (De T live):=by unfold B8;rw[qc.2 h]
theorem TU(A:Rt T){x y}(Q:marked T live x=O)(L:marked T live y=O)(h:Q8 T live x=Q8 T live y):x=y:=by obtain⟨w,B,G⟩:=lT Q;obtain⟨v,F,H⟩:=lT L;have:=Fm (λs l=>QX (yU A x s l)) (λs l=>QX (yU A y s l)) h;rw[B9 B,B9 F,zbI,zbI,List.reverse_inj] at this;exact qiG A B F G H this
theorem vT{p}(h:p∈bM T live):p∈T/\marked T live p.1=O:=by unfold bM at h;rw[zce] at h;exact h
theorem TV(l:Rt T): ∀a∈(bM T live).map (lq T live),∀b∈(bM T live).map (lq T live),a.2.1=b.2.1->a=b:=by intro a R b Q h;obtain⟨p,L,rfl⟩:=zal.1 R;obtain⟨q,H,rfl⟩:=zal.1 Q;obtain⟨G,F⟩:=vT L;obtain⟨B,A⟩:=vT H;have e:=TU l F A h;have e1:=im l.1 G;have U:=im l.1 B;rw[e,U] at e1;cases e1;rfl
theorem yV:(mP T live).Perm ((bM T live).map (lq T live)):=cm _
theorem TX:(mP T live).Pairwise λa b=>IT b.2.1 a.2.1=C:=lS Lr (λa:It=>a.2.1) _
theorem TY(G:Rt T){a}(l:a.Perm ((bM T live).map (lq T live)))(F:a.Pairwise λx y=>IT y.2.1 x.2.1=C):a=mP T live:=
 kb Lr (λa:It=>a.2.1) (λx B y A h=>TV G x (l.mem_iff.1 B) y (l.mem_iff.1 A) h) (l.trans yV.symm) F TX
end
noncomputable def bV H h hk f id s:=
 w7 (Hs PR (runK PR oB qv H 60 60) h (aV f) hk (qv f) (bA PR f id)) (aV f id) s
noncomputable def fK H h hk (f:Nat) ps R:=
 qf9 PR (runK PR oB qv H 60 60) h oB hk qv f ps R
def ND w0 (f:Nat) h:=zm PR w0 f h
def LN w0 (f id:Nat)(g:S->K (PX×S)):= ∀(val:Nat->W) (lo:Nat) (mk:Bool) s E,g s E->TW PR ⟨val,w0,lo,mk⟩ (.loop (bA PR f id)) s E
def LNT w0 (f id:Nat)(g:S->K (PX×S)):= ∀(val:Nat->W) (lo:Nat) s E,g s E->TW PR ⟨val,w0,lo,O⟩ (.loop (bA PR f id)) s E
def FN w0 (f id:Nat)(g:S->K (PX×S)):= ∀(val:Nat->W) (lo:Nat) s E,g s E->TW PR ⟨val,w0,lo,O⟩ (oA PR f id).code s E
theorem LN.T{w0 f id g}(h:LN w0 f id g):LNT w0 f id g:=λval lo s E l=>h val lo O s E l
inductive Jb(w0:World):List (FuncId×bc)->Prop
 |nil:Jb w0 []
 |cons {f:Nat} {h:bc} {r:List (FuncId×bc)} (hf:ND w0 f h) (hr:Jb w0 r):Jb w0 ((f,h)::r)
theorem Jb.get{w0 l}(h:Jb w0 l): ∀f g,lk l f=Z g->zm PR w0 f g:=by
 induction h with
 |nil=>intro f g h;cases h
 | @cons f' h' r hf hr ih=>
  intro f g h;unfold lk at h;split at h
  next A=>cases h;rw[<-zad A];exact hf
  grind
inductive Lu(w0:World)(f:Nat):List (Nat×(S->K (PX×S)))->Prop
 |nil:Lu w0 f []
 |cons {id:Nat} {g:S->K (PX×S)} {r:List (Nat×(S->K (PX×S)))} (h:LN w0 f id g) (hr:Lu w0 f r):Lu w0 f ((id,g)::r)
theorem Lu.get{w0 f hk}(h:Lu w0 f hk): ∀id g,lk hk id=Z g->LN w0 f id g:=by
 induction h with
 |nil=>intro f g h;cases h
 | @cons f' h' r hf hr ih=>grind [lk,mi]
inductive X6(w0:World)(f:Nat):List (Nat×(S->K (PX×S)))->Prop
 |nil:X6 w0 f []
 |loop {id:Nat} {g:S->K (PX×S)} {r:List (Nat×(S->K (PX×S)))} (hid:id<500000) (h:LNT w0 f id g) (hr:X6 w0 f r):X6 w0 f ((id,g)::r)
 |range {id:Nat} {g:S->K (PX×S)} {r:List (Nat×(S->K (PX×S)))} (h:FN w0 f id g) (hr:X6 w0 f r):X6 w0 f ((500000+id,g)::r)
theorem X6.loops{w0 f hk}(h:X6 w0 f hk): ∀id g,id<500000->lk hk id=Z g->LNT w0 f id g:=by
 induction h with
 |nil=>intro id g _ h;cases h
 | @loop oN g' r qiH h hr ih=>grind [id,lk,mi]
 | @range oN g' r h hr ih=>
  intro id g A l;unfold lk at l;split at l
  ·grind [mi]
  grind
theorem X6.ranges{w0 f hk}(h:X6 w0 f hk): ∀id g,lk hk (500000+id)=Z g->FN w0 f id g:=by
 induction h with
 |nil=>intro id g h;cases h
 | @loop oN g' r qiH h hr ih=>grind [id,lk,mi]
 | @range oN g' r h hr ih=>
  intro id g l;unfold lk at l;split at l
  ·simp_all
  grind
theorem Lu.hks{w0 f hk}(h:Lu w0 f hk)(l:hk.all (λx=>Nat.blt x.1 500000)=O):X6 w0 f hk:=by
 induction h with
 |nil=>exact .nil
 | @cons id g r h hr ih=>simp only[List.all_cons,zac] at l;exact .loop (by simp_all) h.T (ih l.2)
theorem nR{X H}(h:HD X H):tW (runK PR oB qv H 60 60) (eL PR (yP X)):=by have:=zM (lf:=60) (iP K4) h 60;exact this
theorem ND.mk{X w0}(hX:b7 PR w0 X.cf){H B hk f h}(Q:HD X H)(F:Jb w0 B)(A:X6 w0 f hk)
  (L: ∀ps R E,h ps R E->fK H B hk f ps R E) (hu:uniq PR f=O:=by kernel_rfl) (l:vC PR f=O:=by kernel_rfl):ND w0 f h:=
 zm.mk (kp:=yP X) F.get (nR Q) hX sK K4 hu l A.loops A.ranges (λps R E G=>L ps R E G)
theorem LN.par{X w0}(hX:b7 PR w0 X.cf){H HN hk}{f id:Nat}{g}(hnr:(cr (bA PR f id)).isEmpty=O)(hH:HD X H)(jd:Jb w0 HN)(hl:Lu w0 f hk)
  {A B:Type} (hd:A->B->S) (Inv:A->B->Prop) (V:A->B->Nat) (F:A->PX×S->Prop)
  (hr: ∀a b,Inv a b->bV H HN hk f id (hd a b) (roundPost (V a b) (λm s=> ∃l,s=hd a l/\Inv a l/\m=V a l) (F a)))
  (hg: ∀s E,g s E-> ∃a b,s=hd a b/\Inv a b/\ ∀x,F a x->E x) (hu:uniq PR f=O:=by kernel_rfl):LN w0 f id (ah (aV f id) g):=by
 intro val lo mk s E L;unfold ah at L;cases Q:cQ (aV f id) s with
 |none=>grind
 |some s0=>
  simp only[Q] at L;obtain⟨a,b,rfl,h1,h2⟩:=hg s0 E L;refine TW.mono (TW.loop (keep:=aV f id) (I:=λm s=> ∃l,s=hd a l/\Inv a l/\m=V a l) (O:=F a) (λn s hs=> ?_) Q ⟨b,rfl,h1,rfl⟩) h2;obtain⟨l,rfl,h3,rfl⟩:=hs;have:=hr a l h3;unfold bV at this;refine TW.mono (sd (kp:=yP X) (T:=⟨val,w0,lo,mk⟩) jd.get (nR hH) hX sK (kp1:=aV f) (bA PR f id) (qcZ f id) (λd hd h Q s E L=>by have:=hl.get _ _ Q val lo mk s E L;rwa [sc hu hd] at this) (λx G=>by rw[zbJ.1 hnr] at G;cases G) _ _ this) ?_;rintro⟨e,s1⟩ G;cases e with
  |normal=>obtain⟨s2,U,m,R,h6⟩:=PP (p:=λs2=>cQ (aV f id) s1=Z s2) (λ_ h=>h) _ G;grind
  |exit i=>obtain⟨s2,U,R⟩:=PP (p:=λs2=>dD (aV f id) s1=Z s2) (λ_ h=>h) _ G;exact⟨s2,U,R⟩
  |ret=>obtain⟨s2,U,R⟩:=PP (p:=λs2=>dD (aV f id) s1=Z s2) (λ_ h=>h) _ G;exact⟨s2,U,R⟩
def um(g:FuncId)(cf:D->D->Int)(ty:I):bc:=λps R E=> ∃es,ps=[.sl 0 0 (J es),.fn g []]/\R=[(0,⟨0,Z 0,.arr ty C es⟩)]/\nO PR oB g es cf/\
 ∀h:List D,h.Perm es->h.Pairwise (λa b=> ¬cf b a<0)->E (.cy [],[(0,⟨0,Z 0,.arr ty C h⟩)])
theorem gI{g cf ty ps}{R E}(h:um g cf ty ps R E):qf6 PR oB ty ps R E:=by obtain⟨es,rfl,rfl,A,l⟩:=h;exact⟨0,g,⟨0,Z 0,.arr ty C es⟩,es,cf,rfl,rfl,rfl,A,λG F B=>l G F B⟩
abbrev itE(n:Nat)(g:D->Option D)(e:Option (D×D)):List (Nat×En):=[(n,⟨0,Y,.iter 49 103 g e⟩)]
abbrev mk1(T:List Pl)(A l h:D->Option D)(g:D->Option D)(e:Option (D×D))(H G F B:Int):S:=
 ⟨49,[(0,.ref 0 0 0),(13,.ref 5 0 0)],gH (cX T) A l h H G F B O C++itE 5 g e⟩
abbrev mk6(T:List Pl)(A l h:D->Option D)(g:D->Option D)(e:Option (D×D))(w:List ak)(n:Nat)(k:Int)(H G F B:Int):S:=
 ⟨49,[(0,.ref 0 0 0),(13,.ref 5 0 0),(26,.sl 6 0 n),(27,iD n),(28,iD k)],gH (cX T) A l h H G F B O C++itE 5 g e++[(6,⟨0,Y,.arr 49 C (w.map aF)⟩)]⟩
def qml:S->K (PX×S):=λs E=> ∃T l h g e S w B A,s=mk6 T l (du S) h g e w (J w) 0 (J T:Int) B (J S:Int) A/\(J w<=1000000/\J S<=1000000)/\
 E (.exit 1,mk1 T l (du (zo S w)) h g e (J T:Int) B (J (zo S w):Int) A)/\E (.exit 2,mk1 T l (du (zo S w)) h g e (J T:Int) B (J (zo S w):Int) A)
def Z32 w:=[(6,tj w)]
def Z2Z h l:=(2,we 0 (Z 2) (HH 49 h l O))
def T0 T h:=(1,we 0 (Z 1) (HH 49 (λx=>match x with |AM [ue DD a,ue DD b,ue DD c]=>i7 bI (bp T (a,b,c))|_=>Y) h C))
def Z31(n:Nat):=Cs (ue DD (↑n:Int))
def Z2W:=(13,RK 5 0 0)
def Z2X:=[fq,Z2W]
def Z30 T G l F (V:List ak) B h A g e:=AD 49 Z2X [jz,T0 T G,Z2Z l F,(3,we 0 (Z 3) (HH 49 (λx=>match x with |AM [ue DD a,ue DD b,ue DD c]=>i7 (λ_=>jh) ((λx=>if x∈V then Z () else Y) (a,b,c))|_=>Y) B C)),qb h A,(5,we 0 Y (Q4 49 103 g e))]
def Z2V k w:=decide (Zs k<oH w)
def jA k (n:Nat):=decide ((0:Int)<=k/\k<(↑n:Int))
def Df k (n:Nat):=decide (k<(↑n:Int))
theorem qmm T A l g e V w n k G F h B E:(bif Df k n then ob (jA k n) (ob (Z2V k w) (ob (yT w k) (ob (bE PR (103:I) (aK (du V (vL w k)) jh)) (bif ir (du V (vL w k)) then E (CE 1,Z30 T G A F V h l B g e) else ob (Zv k) (E (xz,AD 49 [fq,Z2W,(26,If 6 0 n),(27,Z31 n),(28,ZA k)] (jz::T0 T G::Z2Z A F::(3,we 0 (Z 3) (HH 49 (λH=>bif NO (HS w k) H then Z jh else du V H) (bif ir (du V (vL w k)) then h else h+(1:Int)) C))::qb l B::(5,we 0 Y (Q4 49 103 g e))::Z32 w))))))) else E (CE 2,Z30 T G A F V h l B g e))=(bV [] [] [] 81 6 (mk6 T A (du V) l g e w n k G F h B)) E:=by kernel_rfl
def Q9(g:D->Option D):= ∀k,g k=Y
def Z35 h:=(1,we 0 (Z 1) (HH 49 (λx=>match x with |AM [ue DD a,ue DD b,ue DD c]=>i7 bI (bp h (a,b,c))|_=>Y) (qa h) C))
def Z37(E:PX×S->Prop) T l B S w h A F e:=E (xz,Pi.S.mk 49 Z2X [jz,Z35 T,Z2Z l B,(3,we 0 (Z 3) (HH 49 (λx=>match x with |AM [ue DD a,ue DD b,ue DD c]=>i7 (λ_=>jh) ((λx=>if x∈zo S w then Z () else Y) (a,b,c))|_=>Y) (↑(J (zo S w)):Int) C)),qb h A,(5,we 0 Y (Q4 49 103 F e))])
def X7 k:=ue DD (AC (vc k 2))
def X8 k:=ue DD (AC (vc k 1))
def T1 k:=ue DD (AC (vc k 0))
def xM k:=AM [T1 k,X8 k,X7 k]
def T2 k h:=NO (AM [T1 k,ue DD (AC (vc k k7)),ue DD (AC (vc k (k7+1)))]) h
def Z3d k (g:D->Option D):=we 0 Y (Q4 49 103 (λh=>bif T2 k h then Y else g h) (Z (xM k,jh)))
def Z36 w:=[fq,Z2W,(26,If 6 0 (dK w)),(27,QY w),(28,Cs Z5)]
def gW x:=[Cs (fe x)]
theorem qmn T A f3 h g e c1 F c3 B E:((∀k x,g k=Z x->ob (bE PR (49:I) k) (ob (bE PR (103:I) x) (∃G x U R nB mL Q V L H,[cp,Cs (xM k)]=cp::gW x/\jz::T0 T c1::Z2Z A F::(3,we 0 (Z 3) (qw f3 c3))::DU h B=jz::Z35 G::mK U mL L::uM R Q H::DU nB V/\iB G/\(∀l,wy G x=Z l-> ∃(T:List Pl) (A:D->Option D) (h:D->Option D) (bJ:D->Option D) (e:Option (D×D)) (S:List ak) (w:List ak) (F:Int) (B:Int),Pi.S.mk 49 (Z36 l) (jz::Z35 G::mK U mL L::uM R Q H::qb nB V::(5,Z3d k g)::Z32 l)=Pi.S.mk 49 (Z36 w) (jz::Z35 T::Z2Z A F::(3,we 0 (Z 3) (HH 49 (λx=>match x with |AM [ue DD a,ue DD b,ue DD c]=>i7 (λ_=>jh) ((λx=>if x∈S then Z () else Y) (a,b,c))|_=>Y) (nr S) C))::qb h B::(5,we 0 Y (Q4 49 103 bJ e))::Z32 w)/\(ll w/\ll S)/\Z37 E T A F S w h B bJ e/\Z37 E T A F S w h B bJ e)/\(wy G x=Y->E (xz,AD 49 Z2X [jz,Z35 G,mK U mL L,uM R Q H,qb nB V,(5,Z3d k g)])))))/\(Q9 g->E (CE 0,AD 49 Z2L (jz::T0 T c1::Z2Z A F::(3,we 0 (Z 3) (qw f3 c3))::DU h B))))=(bV [(125,qdt)] [] [(6,ah (aV 81 6) qml)] 81 1 (mk1 T A f3 h g e c1 F c3 B)) E:=by kernel_rfl
def qrB:S->K (PX×S):=λs E=> ∃T V h l,s=mk1 T (du V) vJ h (du V) Y (J T:Int) (J V:Int) 0 l/\(J T<=1000000/\Uq T/\V.Nodup)/\
 E (.exit 0,⟨49,[(0,.ref 0 0 0)],gH (cX T) (du V) (du (bn T V)) h (J T:Int) (J V:Int) (J (bn T V):Int) l O C⟩)
def X9 h V:=(↑(J (bn h V)):Int)
def Z3i:=P.cy []
def Z3h(V:List ak):=we 0 Y (Q4 49 103 (λx=>match x with |AM [ue DD a,ue DD b,ue DD c]=>i7 (λ_=>jh) ((λx=>if x∈V then Z () else Y) (a,b,c))|_=>Y) Y)
def Z3g:=(3,we 0 (Z 3) M9)
def Z3f(V:List ak):=HH 49 (λx=>match x with |AM [ue DD a,ue DD b,ue DD c]=>i7 (λ_=>jh) ((λx=>if x∈V then Z () else Y) (a,b,c))|_=>Y) (nr V) O
def Z3k h:=we 0 Y (Q4 49 103 h Y)
def qgk:bc:=λps R E=> ∃T V h l A,ps=[.ref 0 0 0]/\R=gH (cX T) (du V) vJ h (J T:Int) (J V:Int) 0 l A C/\(J T<=1000000/\Uq T/\V.Nodup)/\
 E (.cy [],gH (cX T) (du V) (du (bn T V)) h (J T:Int) (J V:Int) (J (bn T V):Int) l O C)
def cfX:D->D->Int
 | .agg [.int DD a,.int DD b,.int DD c],.agg [.int DD a',.int DD b',.int DD c']=>lj a b c a' b' c'
 |_,_=>0
abbrev rs3(T:List Pl)(B A l g:D->Option D)(e:Option (D×D))(out:List ak)(n:Nat)(L H G F:Int)(h:Bool):S:=
 ⟨27,[(0,.ref 0 0 0),(3,.sl 5 0 n),(15,.ref 6 0 0)],gH (cX T) B A l L H G F h O++[(5,⟨0,Y,.arr 49 C (out.map aF)⟩)]++itE 6 g e⟩
def qmo:S->K (PX×S):=λs E=> ∃T V A l G F B h,s=rs3 T A (du V) l (du V) Y [] 0 G F (J V:Int) B h/\(J V<=1000000/\V.Nodup)/\
 ∀out:List ak,out.Perm V->E (.exit 0,⟨27,[(0,.ref 0 0 0),(3,.sl 5 0 (J out))],gH (cX T) A (du V) l G F (J V:Int) B h O++[(5,⟨0,Y,.arr 49 C (out.map aF)⟩)]⟩)
def Jc n:=If 5 0 n
def Z3o n out k:=we 0 Y (AS (49:I) C (ab n (eM out)++[xM k]))
def Ra h l:=(3,we 0 (Z 3) (HH 49 h l O))
def Z3m:=[(15,RK 6 0 0)]
def Z3l n k:=n+J [xM k]
theorem qmp T B A l g e out (n:Nat) L H G F h E:((∀k x,g k=Z x->ob (bE PR (49:I) k) (ob (bE PR (103:I) x) (ob (gr n (oH out)&&aB (Z3l n k) 24) (E (xz,AD 27 (fq::(3,If 5 0 (Z3l n k))::Z3m) [jz,T0 T L,mK B H h,Ra A G,qb l F,(5,Z3o n out k),(6,Z3d k g)])))))/\(Q9 g->E (CE 0,AD 27 [fq,(3,Jc n)] [jz,T0 T L,mK B H h,Ra A G,qb l F,(5,tj out)])))=(bV [] [] [] 126 3 (rs3 T B A l g e out n L H G F h)) E:=by kernel_rfl
def vU h:=we 0 Y (AS (49:I) C h)
def Z3u h:=List.Pairwise (λa b=> ¬cfX b a<(0:Int)) h
def Z3x out:=(0,we 0 (Z 0) (AS (49:I) C (eM out)))
def Rb out:=[Z3x out]
def Z3s:=[P.fn (78:FuncId) []]
def sg out:=If 0 0 (dK out)
def Z3r V:=ll V/\List.Nodup V
def Z3q:=(281474976710656:Int)
theorem qiI T f2 l U c1 c2 h c4 B z3 E:(ob (decide ((0:Int)<=(0:Int)/\(0:Int)<=h/\h<=Z8/\(24:Int)*h<=Z3q)) (∃R V G L Ya Q H F,AD 27 (fq::(3,zY)::Z3m) [jz,T0 T c1,mK f2 c2 B,Ra l h,qb U c4,(5,xH),(6,Z3k l)]=AD 27 (fq::(3,zY)::Z3m) [jz,T0 R Ya,mK G Q F,(3,we 0 (Z 3) (Z3f V)),qb L H,(5,xH),(6,Z3h V)]/\Z3r V/\ ∀out,List.Perm out V-> ∃es,sg out::Z3s=If 0 0 (J es)::Z3s/\Rb out=[(0,we 0 (Z 0) (AS (49:I) C es))]/\nO PR oB (78:FuncId) es cfX/\ ∀A,List.Perm A es->Z3u A->E (If 5 0 (dK out),[jz,T0 R Ya,mK G Q F,(3,we 0 (Z 3) (Z3f V)),qb L H,(5,vU A)])))=(fK [(132,um 78 cfX 49)] [] [(3,ah (aV 126 3) qmo)] 126 [.ref 0 0 0] (gH (cX T) f2 l U c1 c2 h c4 B z3)) E:=by kernel_rfl
def Rc:bc:=λps R E=> ∃T V A l G F B h H,ps=[.ref 0 0 0]/\R=gH (cX T) A (du V) l G F (J V:Int) B h H/\(J V<=1000000/\V.Nodup)/\
 E (.sl 5 0 (J V),gH (cX T) A (du V) l G F (J V:Int) B h O++[(5,⟨0,Y,.arr 49 C ((dL kr V).map aF)⟩)])
theorem vV{L k v}(h:du L k=Z v): ∃x∈L,k=aF x/\v= .agg []:=by
 unfold du yS at h;split at h
 next a b c=>
  by_cases l:(a,b,c)∈L
  ·simp only[zau l,zaB,zai] at h;exact⟨_,l,rfl,h.symm⟩
  grind
 cases h
theorem vW{L}(h: ∀k,du L k=Y):L=[]:=by
 cases L with
 |nil=>rfl
 |cons x r=>have:=h (aF x);rw[rP] at this;simp at this
theorem qdz{a b}(h: ∀z,z∈a↔z∈b):du a=du b:=by
 have:(λx=>if x∈a then Z () else Y)=(λx:ak=>if x∈b then Z () else Y):=by grind
 unfold du;rw[this]
theorem z6{L}(A:L.Nodup) x:iq (aF x) (du L)=du (L.erase x):=by
 funext d;cases hd:NO (aF x) d with
 |true=>have:=(D.bU _ _).1 hd;subst this;rw[sa,rP,zat (λh=>(A.mem_erase_iff.1 h).1 rfl)];rfl
 |false=>
  have l:aF x≠d:=λe=>by rw[(D.bU _ _).2 e] at hd;cases hd
  rw[zH _ l];unfold du yS;split
  next a b c=>have B:(a,b,c)≠x:=λe=>l (by rw[<-e];rfl);grind
  rfl
theorem Re:du []=vJ:=by funext d;show yS _ _ d=Y;unfold yS;split<;>rfl
theorem O0:bE PR 103 (.agg [])=O:=by rfl
theorem drop_cons{α:Type}{l:List α}{k}(h:k<J l) d:l.drop k=l.getD k d::l.drop (k+1):=by rw[za3 h,zaj,zae h];rfl
section
variable{X:XF}{w0:World}(hX:b7 PR w0 X.cf)
include hX
theorem qmq:LN w0 81 6 (ah (aV 81 6) qml):=LN.par hX (by rfl) .nil .nil .nil
 (A:=List Pl×(D->Option D)×(D->Option D)×(D->Option D)×Option (D×D)×List ak×List ak×Int×Int) (B:=List ak×Int)
 (λ⟨T,F,l,g,e,_,w,H,G⟩ b=>mk6 T F (du b.1) l g e w (J w) b.2 (J T:Int) H (J b.1:Int) G)
 (λ⟨_,_,_,_,_,V,w,_,_⟩ b=>J w<=1000000/\0<=b.2/\b.2<=J w/\zo b.1 (w.drop b.2.toNat)=zo V w)
 (λ⟨_,_,_,_,_,_,w,_,_⟩ b=>(J w-b.2).toNat)
 (λ⟨T,F,l,g,e,V,w,H,G⟩ x=>x=(.exit 1,mk1 T F (du (zo V w)) l g e (J T:Int) H (J (zo V w):Int) G)\/x=(.exit 2,mk1 T F (du (zo V w)) l g e (J T:Int) H (J (zo V w):Int) G))
 (by
  rintro⟨T,F,l,g,e,V,w,H,G⟩ ⟨V',k⟩ ⟨Q,h0,hk,hv⟩;dsimp only at*
  (rw[<-qmm];delta eM tj Z32 qw qb k7 Zs HR HS Z2Z T0 kP HO jz Zz ZA Z31 Z2W cp fq Z8 Z7 Zv jh Z2X Z30 I9 Ja vL yT oH Z2V jA Df)
  refine bj (λh=> ?_) λh=> ?_
  ·have R:k.toNat<J w:=by omega
   rw[B2 R];rw[drop_cons R (0,0,0)] at hv;generalize w.getD k.toNat (0,0,0)=u at hv;refine bu ⟨h0,by omega⟩ (ao (by grind) (ao (jG u) (ao ?_ (az (λL=> ?_) λL=>ao (j9 (by omega) (by omega)) ?_))))
   ·show bE PR 103 (aK (du V' (aF u)) _)=O;rw[rP];by_cases hu:u∈V'<;>simp only[hu,zbj,zbk,zaB,zcd]<;>exact O0
   ·have hu:u∈V':=by have:(du V' (aF u)).isSome=O:=L;rw[rP] at this;grind
    left;rw[<-hv,zo,zau hu];rfl
   have hu:u∉V':=λhu=>by have:(du V' (aF u)).isSome=C:=L;rw[rP] at this;grind
   rw[zo,zat hu] at hv;have e1:HM V' u=V'++[u]:=by unfold HM;rw[zat hu]
   refine⟨((J w:Int)-(k+1)).toNat,by omega,(V'++[u],k+1),?_,⟨Q,by grind,by grind,?_⟩,rfl⟩
   ·have a1:=HT (V:=V') (x:=u);have U:=QZ V' u;rw[e1] at a1 U;show _=mk6 T F (du (V'++[u])) l g e w (J w) (k+1) (J T:Int) H (J (V'++[u]):Int) G;rw[<-a1,<-U];rfl
   grind
  have:k.toNat=J w:=by omega
  rw[this,zcl,zo] at hv;subst hv;right;rfl)
 (by rintro s E ⟨T,F,l,g,e,V,w,H,G,rfl,⟨Q,_⟩,h1,h2⟩;refine⟨(T,F,l,g,e,V,w,H,G),(V,0),rfl,⟨Q,by simp,by simp,by simp⟩,?_⟩;grind)
theorem qmr:LN w0 81 1 (ah (aV 81 1) qrB):=LN.par hX (by rfl) (.cons qgi .nil) .nil (.cons (qmq hX) .nil)
 (A:=List Pl×List ak×(D->Option D)×Int) (B:=List ak×List ak×List ak×Option (D×D))
 (λ⟨T,V,l,F⟩ ⟨S,L,_,e⟩=>mk1 T (du V) (du S) l (du L) e (J T:Int) (J V:Int) (J S:Int) F)
 (λ⟨T,V,_,_⟩ ⟨S,L,G,_⟩=>J T<=1000000/\Uq T/\L.Nodup/\(∀z,z∈V↔z∈G\/z∈L)/\UpC T S/\S.Nodup/\ ∀z,z∈S↔marked T G z=O)
 (λ_ b=>J b.2.1)
 (λ⟨T,V,l,F⟩ x=>x=(.exit 0,⟨49,[(0,.ref 0 0 0)],gH (cX T) (du V) (du (bn T V)) l (J T:Int) (J V:Int) (J (bn T V):Int) F O C⟩))
 (by
  rintro⟨T,V,l,F⟩ ⟨S,L,G,e⟩ ⟨hm,hu,hn,hV,hS,hSn,hSm⟩
  (rw[<-qmn];delta cp fq Z2L Q9 Z2W Z2X qw qb jh Z2Z fp qa Z35 kP HO jz Z37 dK ll nr eM tj Z32 X7 X8 T1 xM k7 T2 Z3d Z5 QY Z36 iB uM mK DU T0 fO gA gD fP fQ fe gW)
  have hSl:J S<=J T:=by
   have:S⊆T.map (·.1):=λz hz=>by obtain⟨p,U⟩:=xJ ((hSm z).1 hz);grind [cw]
   simpa using hSn.length_le_of_subset this
  refine⟨λk v hk=> ?_,λcD=> ?_⟩
  ·obtain⟨x,hx,rfl,rfl⟩:=vV hk;have vn:=z6 hn x;have H:J (L.erase x)<J L:=by rw[zcb hx];have:0<J L:=zcg hx;omega
   have hV': ∀z,z∈V↔z∈G++[x]\/z∈L.erase x:=λz=>by grind
   have C9: ∀z,marked T (G++[x]) z=O↔marked T G z=O\/ ∃w,Up T x w/\z∈w:=λz=>by rw[iC,iC];simp
   have next: ∀Q:List ak,Q=B7 T S x-> ∃m,m<J L/\ ∃h:List ak×List ak×List ak×Option (D×D),(mk1 T (du V) (du Q) l (iq (aF x) (du L)) (Z (aF x,.agg [])) (J T:Int) (J V:Int) (J Q:Int) F:Pi.S)=mk1 T (du V) (du h.1) l (du h.2.1) h.2.2.2 (J T:Int) (J V:Int) (J h.1:Int) F/\
     (J T<=1000000/\Uq T/\h.2.1.Nodup/\(∀z,z∈V↔z∈h.2.2.1\/z∈h.2.1)/\UpC T h.1/\h.1.Nodup/\ ∀z,z∈h.1↔marked T h.2.2.1 z=O)/\m=J h.2.1:=λQ hS'=>by
    obtain⟨g1,g2,g3⟩:=X3 x hS hSn;rw[<-hS'] at g1 g2 g3;refine⟨_,H,(Q,L.erase x,G++[x],Z (aF x,.agg [])),by rw[vn],⟨hm,hu,hn.erase _,hV',g1,g2,λz=> ?_⟩,rfl⟩;rw[g3,C9,hSm]
   refine ao (jG x) (ao O0 ⟨T,x,du V,du S,l,_,_,F,O,C,rfl,rfl,hm,λw R=> ?_,λR=> ?_⟩)
   ·have hup:=qc.1 R;have:=next (zo S w) (by unfold B7;rw[R]);exact⟨T,du V,l,_,_,S,w,_,F,rfl,⟨by have:=hup.len;omega,by omega⟩,this,this⟩
   exact next S (by unfold B7;rw[R])
  have:=vW cD;subst this;have hVD: ∀z,z∈V↔z∈G:=λz=>by rw[hV z];simp
  have U:=TS hu hSn (live:=V) λz=>by rw[hSm,OY hVD]
  show _=_;rw[<-qdz (a:=S) (b:=bn T V) λz=>U.mem_iff,<-U.length_eq];rfl)
 (by
  rintro s E ⟨T,V,l,F,rfl,⟨hm,hu,hn⟩,U⟩;refine⟨(T,V,l,F),([],V,[],Y),?_,⟨hm,hu,hn,λz=>by simp,λz hz=>by simp at hz,by simp,λz=>by simp[marked]⟩,?_⟩
  ·show _=mk1 T (du V) (du []) l (du V) Y _ _ _ F;rw[Re];rfl
  grind)
theorem qiJ:ND w0 81 qgk:=ND.mk hX .nil .nil (.loop (by decide) (qmr hX).T .nil) (by intro ps R E l;obtain⟨T,V,B,F,G,rfl,rfl,A,h⟩:=l;exact⟨T,V,B,F,rfl,A,h⟩)
theorem qms:LN w0 126 3 (ah (aV 126 3) qmo):=LN.par hX (by rfl) .nil .nil .nil
 (A:=List Pl×List ak×(D->Option D)×(D->Option D)×Int×Int×Int×Bool) (B:=List ak×List ak×Option (D×D))
 (λ⟨T,V,F,l,Q,H,G,h⟩ ⟨out,L,e⟩=>rs3 T F (du V) l (du L) e out (J out) Q H (J V:Int) G h)
 (λ⟨_,V,_⟩ ⟨out,L,_⟩=>J V<=1000000/\L.Nodup/\(out++L).Perm V)
 (λ_ b=>J b.2.1)
 (λ⟨T,V,F,l,Q,H,G,h⟩ x=> ∃out:List ak,out.Perm V/\x=(.exit 0,⟨27,[(0,.ref 0 0 0),(3,.sl 5 0 (J out))],gH (cX T) F (du V) l Q H (J V:Int) G h O++[(5,⟨0,Y,.arr 49 C (out.map aF)⟩)]⟩))
 (by
  rintro⟨T,V,F,l,Q,H,G,h⟩ ⟨out,L,e⟩ ⟨hm,U,hp⟩
  (rw[<-qmp];delta eM tj Jc Q9 jh X7 X8 T1 xM k7 T2 Z3d Z3o qw qb Ra mK T0 kP HO jz Z3m cp fq Z3l oH)
  have hl:=hp.length_eq;rw[zaf] at hl;refine⟨λk v hk=> ?_,λcD=> ?_⟩
  ·obtain⟨x,hx,rfl,rfl⟩:=vV hk;have vn:=z6 U x;have h0:0<J L:=zcg hx;have R:J (L.erase x)<J L:=by rw[zcb hx];omega
   refine ao (jG x) (ao O0 (ao ?_ ⟨_,R,(out++[x],L.erase x,Z (aF x,.agg [])),?_,⟨hm,U.erase _,?_⟩,rfl⟩))
   ·skip
    simp[aB];omega
   ·show _=rs3 T F (du V) l (du (L.erase x)) (Z (aF x,.agg [])) (out++[x]) (J (out++[x])) Q H (J V:Int) G h;rw[Q5,<-vn];simp only[rs3,zaC,zaf,zaS,zcw];rfl
   grind
  have:=vW cD;exact⟨out,by grind,rfl⟩)
 (by rintro s E ⟨T,V,F,l,Q,H,G,h,rfl,⟨hm,U⟩,hp⟩;refine⟨(T,V,F,l,Q,H,G,h),([],V,Y),rfl,⟨hm,U,by simp⟩,?_⟩;grind)
omit hX in
theorem qd(x y:ak):cfX (aF x) (aF y)<0↔kr x y=true:=vN x y
omit hX in
theorem Yb(l:List ak)(H:l.length<=1000000):nO PR oB 78 (l.map aF) cfX where
 fn:=⟨_,Tryz.func78,by kernel_rfl,by kernel_rfl⟩
 ag:=λd hd=>by obtain⟨x,_,rfl⟩:=zal.1 hd;exact⟨_,rfl⟩
 len:=by simp;omega
 run:=λa h b A=>by obtain⟨x,_,rfl⟩:=zal.1 h;obtain⟨y,_,rfl⟩:=zal.1 A;exact FC.TJ zT ⟨_,_,_,_,_,_,rfl,rfl,rfl⟩
 KE:=λa h=>by obtain⟨x,_,rfl⟩:=zal.1 h;rw[qd,fR.KE];simp
 tr:=λa h b A c B=>by obtain⟨x,_,rfl⟩:=zal.1 h;obtain⟨y,_,rfl⟩:=zal.1 A;obtain⟨z,_,rfl⟩:=zal.1 B;rw[qd,qd,qd];exact fR.tr x y z
 ntr:=λa h b A c B=>by obtain⟨x,_,rfl⟩:=zal.1 h;obtain⟨y,_,rfl⟩:=zal.1 A;obtain⟨z,_,rfl⟩:=zal.1 B;rw[qd,qd,qd];intro G F;simpa using fR.ntr (by simpa using G) (by simpa using F)
omit hX in
theorem Lv:FD X 132 (um 78 cfX 49):=FD.M6 Tryz.func132 (by kernel_rfl) (by kernel_rfl) λps R E h=>jZ (gI h)
omit hX in
theorem Yc{α β:Type}(f:α->β)(g:β->α)(F: ∀x,g (f x)=x){l:List α}{A:List β}(h:A.Perm (l.map f)): ∃B:List α,A=B.map f/\B.Perm l:=by
 refine⟨A.map g,?_,?_⟩
 ·rw[zbr];refine(zci A).symm.trans (zaY λb G=> ?_);obtain⟨a,_,rfl⟩:=zal.1 (h.mem_iff.1 G);simp[F]
 have:=h.map g;rw[zbr] at this;rwa [show(g∘f)=id from funext F,zci] at this
def qdA:D->ak
 | .agg [.int DD a,.int DD b,.int DD c]=>(a,b,c)
 |_=>(0,0,0)
theorem Yd:ND w0 126 Rc:=ND.mk hX (.cons Lv .nil) .nil (.loop (by decide) (qms hX).T .nil) (by
 intro ps R E L;obtain⟨T,V,f2,f4,c1,c2,c4,F,z3,rfl,rfl,⟨A,H⟩,G⟩:=L
 (rw[<-qiI];delta vU dK Z3u eM Z3x Rb Z3s sg ll Z3r jh Z3h nr Z3f Z3k xH qw qb Ra mK T0 kP HO jz Z3m zY cp fq Z3q Z8)
 refine ao (o9 ⟨by omega,by omega,by omega,by omega⟩) ⟨T,V,f2,f4,c1,c2,c4,F,rfl,⟨A,H⟩,λout l=>⟨out.map aF,by rw[zaa],rfl,Yb out (by rw[l.length_eq];exact A),λdP U B=> ?_⟩⟩;obtain⟨l2,rfl,Q⟩:=Yc aF qdA (λ_=>rfl) U;rw[za1] at B;have e:=B5 fR (Q.trans l) (B.imp λ{a b} h=>by rw[qd] at h;grind);rw[e,l.length_eq];exact G)
end
abbrev nm2(L:List ak)(n:Nat)(k:Int)(h:D->Option D)(c:Int)(T:List Pl)(F B A:D->Option D)(R Q H G:Int)(l:Bool):S:=
 ⟨56,[(0,.ref 0 0 0),(2,.mp 5 0),(9,.sl 6 0 n),(10,iD n),(11,iD k)],gH (cX T) F B A R Q H G l O++[(5,⟨0,Y,.map 217 h c C⟩),(6,⟨0,Y,.arr 49 C (L.map aF)⟩)]⟩
abbrev Jd T (V L:List ak):=yS FS (λx=>if x∈L then Z (De T V x) else Y)
def qmt:S->K (PX×S):=λs E=> ∃T V A l G F B h,s=nm2 (dL kr (bn T V)) (J (bn T V)) 0 vJ 0 T A l vJ G F B 0 h/\(J T<=1000000/\Rt T)/\
 E (.exit 0,⟨56,[(0,.ref 0 0 0)],gH (cX T) A l (Jd T V (bn T V)) G F B (J (bn T V):Int) h O⟩)
def Z3z T L k:=FS (Q1 (vc (aK (cX T (vL L k)) uL) 6))
def Z3A T L k:=AM [ue DD (AC (vc (aK (cX T (vL L k)) uL) 3)),ue DD (AC (vc (aK (cX T (vL L k)) uL) 4)),ue DD (AC (vc (aK (cX T (vL L k)) uL) 5)),Z3z T L k]
def Z3G:=AM [Z5,Z5,Z5,Z5,Z5,Z5,FS (Array.toList (ByteArray.data (gz #[]))),Z2]
def Z3H T L k:=AM [ue DD (AC (vc (aK (cX T (HS L k)) Z3G) B1)),ue DD (AC (vc (aK (cX T (HS L k)) Z3G) (B1+1))),ue DD (AC (vc (aK (cX T (HS L k)) Z3G) Na)),FS (Array.toList (ByteArray.data (gz (Array.mk (Q1 (vc (aK (cX T (HS L k)) Z3G) (Na+1)))))))]
def Z3I T L k h c:=(5,we 0 Y (HH 217 (λl=>bif NO (Z3H T L k) l then Z (ue DD (AC (aK (h (Z3H T L k)) Z5)+(1:Int))) else aW (Z3H T L k) (aK (h (Z3H T L k)) Z5) h l) (bif ir (h (Z3A T L k)) then c else c+(1:Int)) C))::Z32 L
def Vj T h:=(1,we 0 (Z 1) (HH 49 (λx=>match x with |AM [ue DD a,ue DD b,ue DD c]=>i7 bI (bp T (a,b,c))|_=>Y) h C))
def Z3D k:=[(11,ZA k)]
def Z3C:=(2,P.mp 5 0)
def Z3E n k:=fq::Z3C::(9,If 6 0 n)::(10,Z31 n)::Z3D k
def Z3B T L k h:=aK (aW (Z3A T L k) (ue DD (AC (aK (h (Z3A T L k)) Z5)+(1:Int))) (aW (Z3A T L k) (aK (h (Z3A T L k)) Z5) h) (Z3A T L k)) Z5
theorem qmu L n k h c T H G l U R Q B F E:(bif Df k n then ob (jA k n) (ob (Z2V k L) (ob (yT L k) (ob (bE PR (108:I) (aK (cX T (vL L k)) uL)) (ob (bE PR (3:I) (aK (h (Z3A T L k)) Z5)) (ob (decide (Z7<=AC (aK (h (Z3A T L k)) Z5)+(1:Int)/\AC (aK (h (Z3A T L k)) Z5)+(1:Int)<=Z8)) (ob (bE PR (3:I) (Z3B T L k h)) (bif decide (AC (Z3B T L k h)>(1:Int)) then∃s t r i,[Cs (Z3z T L k),Cs (vL L k)]=Cs (FS s)::sM t r i/\Zn/\ob (Zv k) (E (xz,AD 56 (Z3E n k) (jz::Vj T U::mK H R F::Ra G Q::(4,we 0 (Z 4) (HH 49 (λA=>bif NO (HS L k) A then Z (FS (ba (fG s t r i))) else aW (HS L k) (FS (Q1 (vc (aK (cX T (HS L k)) Z3G) (Na+1)))) l A) (bif ir (aW (vL L k) (Z3z T L k) l (vL L k)) then Z2p l L k B else Z2p l L k B+(1:Int)) C))::Z3I T L k h c))) else ob (Zv k) (E (xz,AD 56 (Z3E n k) (jz::Vj T U::mK H R F::Ra G Q::(4,we 0 (Z 4) (HH 49 (λA=>bif NO (HS L k) A then Z (FS (Q1 (vc (aK (cX T (HS L k)) Z3G) (Na+1)))) else l A) (Z2p l L k B) C))::Z3I T L k h c)))))))))) else E (CE 0,AD 56 Z2L (jz::Vj T U::mK H R F::Ra G Q::DU l B)))=(bV [(127,HJ)] [] [] 82 2 (nm2 L n k h c T H G l U R Q B F)) E:=by kernel_rfl
def Z3L:=(4,we 0 (Z 4) M9)
def Z3M:=(5,we 0 Y (HH 217 (λ_=>Y) (0:Int) C))
def Z3K:=[(11,Cs Z5)]
def oI:=[cp]
theorem qmv T B A f4 H G F c4 l L E:(∃(fX:List Pl) (V:List ak) (R:D->Option D) (nB:D->Option D) (Ya:Int) (mL:Int) (U:Int) (Q:Bool) (DV:Bool),oI=oI/\jz::Vj T H::mK B G l::uM A F L::DU f4 c4=jz::Vj fX Ya::mK R mL Q::(3,we 0 (Z 3) (HH 49 (λx=>match x with |AM [ue DD a,ue DD b,ue DD c]=>i7 (λ_=>jh) ((λx=>if x∈V then Z () else Y) (a,b,c))|_=>Y) (nr V) DV))::DU nB U/\Z3r V/\ ∃T h B A H G F l,AD 56 (fq::Z3C::(9,If 6 0 (dK V))::(10,QY V)::Z3K) [jz,Vj fX Ya,mK R mL Q,(3,we 0 (Z 3) (HH 49 (λx=>match x with |AM [ue DD a,ue DD b,ue DD c]=>i7 (λ_=>jh) ((λx=>if x∈V then Z () else Y) (a,b,c))|_=>Y) (nr V) O)),qb nB U,Z3M,(6,we 0 Y (AS (49:I) C (aa aF (dL kr V))))]=AD 56 (fq::Z3C::(9,If 6 0 (J (bn T h)))::(10,Cs (ue DD (X9 T h)))::Z3K) [jz,Vj T H,mK B G l,Ra A F,Z3L,Z3M,(6,we 0 Y (AS (49:I) C (aa aF (dL kr (bn T h)))))]/\(iB T/\Rt T)/\E (Z3i,[jz,Vj T H,mK B G l,Ra A F,(4,we 0 (Z 4) (HH 49 (λx=>match x with |AM [ue DD a,ue DD b,ue DD c]=>i7 FS ((λx=>if x∈bn T h then Z (De T h x) else Y) (a,b,c))|_=>Y) (X9 T h) C))]))=(fK [] [(126,Rc)] [(2,ah (aV 82 2) qmt)] 82 [.ref 0 0 0] (gH (cX T) B A f4 H G F c4 l L)) E:=by kernel_rfl
def A9:bc:=λps R E=> ∃T V l B A h F,ps=[.ref 0 0 0]/\R=gH (cX T) l (du (bn T V)) vJ B A (J (bn T V):Int) 0 h F/\(J T<=1000000/\Rt T)/\
 E (.cy [],gH (cX T) l (du (bn T V)) (Jd T V (bn T V)) B A (J (bn T V):Int) (J (bn T V):Int) h O)
abbrev pt4(w:List ak)(n:Nat)(k:Int)(o:List D)(G F B A:D->Option D)(R Q L H:Int)(l h:Bool):S:=
 ⟨42,[(0,.ref 0 0 0),(5,.sl 5 0 n),(7,.sl 6 0 n),(19,.sl 5 0 n),(20,iD n),(21,iD k)],gH G F B A R Q L H l h++[(5,⟨0,Y,.arr 49 C (w.map aF)⟩),(6,⟨0,Y,.arr 9 C o⟩)]⟩
def qiK:S->K (PX×S):=λs E=> ∃w B H G F h U R Q L A l,s=pt4 w (J w) 0 (ee (J w) (.str [])) H G F h U R Q L A l/\(J w<=1000000/\ ∀u∈w,h (aF u)=Z (.str (B u)))/\
 E (.exit 0,⟨42,[(0,.ref 0 0 0),(7,.sl 5 0 (J w))],gH H G F h U R Q L A l++[(5,⟨0,Y,.arr 9 C ((w.reverse.map B).map FS)⟩)]⟩)
def Nc(n:Nat):=(↑n:Int)-(1:Int)
theorem qmw w n k o G F B h R Q L H A l E:(bif Df k n then ob (jA k n) (ob (Z2V k w) (ob (yT w k) (ob (decide (Z7<=Nc n/\Nc n<=Z8)) (ob (decide (Z7<=Nc n-k/\Nc n-k<=Z8)) (ob (bE PR (9:I) (aK (h (vL w k)) nA)) (ob (decide ((0:Int)<=Nc n-k/\Nc n-k<(↑n:Int))) (ob (decide (dd (Nc n-k)<J o)) (ob (bE PR (9:I) (BC o (dd (Nc n-k)))) (ob (Zv k) (E (xz,AD 42 [fq,(5,Jc n),(7,If 6 0 n),(19,Jc n),(20,Z31 n),(21,ZA k)] [jz,OV G R,mK F Q A,uM B L l,qb h H,(5,tj w),(6,we 0 Y (AS (9:I) C (tz o (dd (Nc n-k)) (D.aY (FS (Q1 (BC o (dd (Nc n-k))))) [FS (Q1 (aK (h (vL w k)) nA))]))))]))))))))))) else E (CE 0,AD 42 [fq,(7,Jc n)] [jz,OV G R,mK F Q A,uM B L l,qb h H,(5,we 0 Y (AS (9:I) C o))]))=(aG [] [] 83 4 (pt4 w n k o G F B h R Q L H A l)) E:=by kernel_rfl
def Vk:=we 0 Y (AS (9:I) C [])
def Z3P:=[(21,Cs Z5)]
def Z3R F L l B H h A G w:=[mK F L l,uM B H h,qb A G,(5,tj w),(6,we 0 Y (AS (9:I) C (ee (dK w) nA)))]
def Z3Q w:=fq::(5,If 5 0 (dK w))::(7,If 6 0 (dK w))::(19,If 5 0 (dK w))::(20,QY w)::Z3P
def Z3S(E:P×List (Nat×En)->Prop):=λs0=> ∃w F L H G h V U R Q B A,s0=AD 42 (Z3Q w) (jz::OV L V::Z3R H U B G R A h Q w)/\(ll w/\ ∀u,u∈w->h (aF u)=Z (FS (F u)))/\ ∃l,[Cs (IM 1 (ab (dK w) (aa FS (aa F (th w)))))]=[Z1t l]/\Zn/\zn l<=2000000/\E (Cs (FS (vI l)),jz::OV L V::mK H U B::uM G R A::DU h Q)
def Z3O h:=(1,we 0 (Z 1) (HH 49 (λx=>match x with |AM [ue DD a,ue DD b,ue DD c]=>i7 bI (bp h (a,b,c))|_=>Y) (qa h) C))
theorem qrC T x f2 f3 f4 c1 c2 c3 c4 z2 V E:(∃h R G F L Q B H A U,cp::gW x=cp::gW R/\jz::Vj T c1::mK f2 c2 z2::uM f3 c3 V::DU f4 c4=jz::Z3O h::mK G Q A::uM F B U::DU L H/\iB h/\(∀l,wy h R=Z l->ob (decide ((0:Int)<=nr l/\nr l<=nr l/\nr l<=Z8/\(16:Int)*nr l<=Z3q)) (Z3S E (AD 42 (Z3Q l) (jz::Z3O h::Z3R G Q A F B U L H l))))/\(wy h R=Y->Z3S E (AD 42 (fq::(5,zY)::(7,If 6 0 0)::(19,zY)::(20,Cs Z5)::Z3P) [jz,Z3O h,mK G Q A,uM F B U,qb L H,(5,xH),(6,Vk)])))=(aO [(125,qdt),(128,OS)] [(4,ah (aV 83 4) qiK)] 83 [.ref 0 0 0,.d (aF x)] (gH (cX T) f2 f3 f4 c1 c2 c3 c4 z2 V)) E:=by kernel_rfl
def qgl:bc:=λps R E=> ∃T x w h G F l Q L H B A,ps=[.ref 0 0 0,.d (aF x)]/\R=gH (cX T) G F l (J T:Int) Q L H B A/\(J T<=1000000/\Up T x w/\(∀u∈w,l (aF u)=Z (.str (h u)))/\zn (w.reverse.map h)<=2000000)/\
 E (sD (gy (w.reverse.map h)),gH (cX T) G F l (J T:Int) Q L H B A)
theorem Ye{l}(h:l≠[]):vI l=gy l:=(HL l h).symm
theorem qdB m a b v (h:J a=m) x:((a++x::b).map FS).set m (.str v)=(a++v::b).map FS:=by subst h;simp
section
variable{X:XF}
theorem qdC:LD X 83 4 (ah (aV 83 4) qiK):=LD.par .nil .nil
 (A:=List ak×(ak->List UInt8)×(D->Option D)×(D->Option D)×(D->Option D)×(D->Option D)×Int×Int×Int×Int×Bool×Bool) (B:=Int)
 (λ⟨w,l,R,Q,L,F,c1,c2,V,U,H,G⟩ k=>pt4 w (J w) k ((ee (J w-k.toNat) []++(w.take k.toNat).reverse.map l).map FS) R Q L F c1 c2 V U H G)
 (λ⟨w,l,_,_,_,F,_⟩ k=>J w<=1000000/\0<=k/\k<=J w/\ ∀u∈w,F (aF u)=Z (.str (l u)))
 (λ⟨w,_⟩ k=>(J w-k).toNat)
 (λ⟨w,l,R,Q,L,F,c1,c2,V,U,H,G⟩ x=>x=(.exit 0,⟨42,[(0,.ref 0 0 0),(7,.sl 5 0 (J w))],gH R Q L F c1 c2 V U H G++[(5,⟨0,Y,.arr 9 C ((w.reverse.map l).map FS)⟩)]⟩))
 (by
  rintro⟨w,l,R,Q,L,F,c1,c2,V,U,H,G⟩ k ⟨hm,h0,hk,hf⟩
  (rw[<-qmw];delta eM tj qw qb uM mK OV kP HO jz Zz ZA Z31 Jc cp fq Z8 Z7 Zv nA Zs I9 Ja HR vL Nc yT oH Z2V jA Df)
  refine bj (λh=> ?_) λh=> ?_
  ·have jL:k.toNat<J w:=by omega
   rw[B2 jL];have hu:w.getD k.toNat (0,0,0)∈w:=by rw[zaj,zae jL];simp
   have hf':=hf _ hu;generalize hge:w.getD k.toNat (0,0,0)=u at hf' hu;have hf2:F (AM [ue DD (AC (vc (aF u) 0)),ue DD (AC (vc (aF u) 1)),ue DD (AC (vc (aF u) 2))])=Z (.str (l u)):=hf';simp only[hf2];have em:((J w:Int)-1-k).toNat=J w-1-k.toNat:=by omega
   rw[em];have er:J w-k.toNat=(J w-1-k.toNat)+1:=by omega
   have eo:(ee (J w-k.toNat) []++(w.take k.toNat).reverse.map l)=ee (J w-1-k.toNat) []++[]::(w.take k.toNat).reverse.map l:=by rw[er,List.replicate_succ'];simp
   rw[eo];refine bu ⟨h0,h⟩ (ao (o9 (by grind)) (ao (jG u) (bu ⟨by omega,by omega⟩ (bu ⟨by omega,by omega⟩ (ao (qry _) (bu ⟨by omega,by omega⟩ (ao (o9 (by simp<;>omega)) (ao ?_ (ao (j9 (by omega) (by omega)) ?_)))))))))
   ·rw[XT (by simp<;>omega)];rfl
   refine⟨((J w:Int)-(k+1)).toNat,by omega,k+1,?_,⟨hm,by omega,by omega,hf⟩,rfl⟩;have et:ee (J w-(k+1).toNat) []++(w.take (k+1).toNat).reverse.map l=ee (J w-1-k.toNat) []++l u::(w.take k.toNat).reverse.map l:=by
    have e1:(k+1).toNat=k.toNat+1:=by omega
    rw[e1,zbG,zae jL];grind
   have:=qdB (J w-1-k.toNat) (ee (J w-1-k.toNat) []) ((w.take k.toNat).reverse.map l) (l u) (by simp) [];show _=pt4 w (J w) (k+1) _ R Q L F c1 c2 V U H G;rw[et,<-this,XT (by simp<;>omega)];rfl
  have:k.toNat=J w:=by omega
  rw[this];simp only[zcP,List.replicate_zero,zbt,zan];rfl)
 (by
  rintro s E ⟨w,l,R,Q,L,F,c1,c2,V,U,H,G,rfl,⟨hm,hf⟩,hp⟩;refine⟨(w,l,R,Q,L,F,c1,c2,V,U,H,G),0,?_,⟨hm,by simp,by simp,hf⟩,?_⟩
  ·simp
  grind)
theorem qiL:FD X 83 qgl:=FD.mk (.cons qgi (.cons qiA .nil)) (.cons qdC .nil) (by
 intro ps R E hh;obtain⟨T,x,w,nm,Q,L,H,c2,V,U,G,F,h01,h02,⟨hm,B,hf,hs⟩,hp⟩:=hh;have key: ∀c1:Int,c1=(J T:Int)->aO [(125,qdt),(128,OS)] [(4,ah (aV 83 4) qiK)] 83 [.ref 0 0 0,.d (aF x)] (gH (cX T) Q L H c1 c2 V U G F) E:=by
  intro c1 hc
  (rw[<-qrC];delta Vk xH qw qb Z5 Z3P zY cp fq nA dK eM tj uM mK Z3R nr QY Z3Q DU Zn Z1t ll OV kP HO jz Z3S Z3q Z8 fp iB qa Z3O Vj fO gA gD fP fQ fe gW)
  have hl:=B.len;refine⟨T,x,Q,L,H,c2,V,U,G,F,rfl,by rw[hc],hm,λl A=> ?_,λh=>by rw[qc.2 B] at h;cases h⟩;rw[qc.2 B] at A;cases A;refine bu ⟨by omega,by omega,by omega,by omega⟩ ⟨w,nm,cX T,Q,L,H,_,c2,V,U,G,F,rfl,⟨by omega,hf⟩,w.reverse.map nm,?_,rfl,hs,?_⟩
  ·rw[zak (by simp)]
  rw[Ye (by obtain⟨r,rfl⟩:=B.hd;simp)];exact hp
 grind)
end
section
variable{T:List Pl}{live:List ak}
def cz T live:=dL kr (bn T live)
theorem pg{x}:x∈cz T live↔marked T live x=O:=by unfold cz;rw[(cm _).mem_iff,pe]
theorem Yf:J (cz T live)=J (bn T live):=(cm _).length_eq
theorem Ca(hu:Uq T):(cz T live).Nodup:=by grind [cz,cm,kF]
theorem qdD(hu:Uq T):(cz T live).Pairwise λx y=>kr x y=O:=by refine((B4 fR (bn T live)).and (Ca (live:=live) hu)).imp ?_;grind [kr]
def Lw(p q:Pl):=decide (q.2.1=p.2.1)&&q.2.2.1==p.2.2.1
def lI(l:List Pl) p:=l.countP (Lw p)
def mQ T x:=(bp T x).getD ((0,0,0),(0,0,0),[],C)
theorem xN{x}(h:marked T live x=O):bp T x=Z (mQ T x):=by grind [xJ,mQ]
theorem qdE(hT:Rt T){k x}(F:(cz T live)[k]?=Z x):0<lI (((cz T live).take k).map (mQ T)) (mQ T x)↔(bM T live).any (λq=>decide (q.2.1=(mQ T x).2.1)&&(q.2.2.1==(mQ T x).2.2.1)&&kr q.1 (mQ T x).1)=O:=by
 have hk:k<J (cz T live):=(zab.1 F).1;have A:(cz T live)[k]=x:=(zab.1 F).2;have Vl:marked T live x=O:=pg.1 (zas F);have NM:(mQ T x).1=x:=(cw (xN Vl)).2;have aZ:=zba.1 (qdD (live:=live) hT.1);unfold lI;rw[List.countP_pos_iff,zcJ];constructor
 ·rintro⟨q,hq,hs⟩;obtain⟨y,V,rfl⟩:=zal.1 hq;obtain⟨j,U,B⟩:=zaM V;rw[List.getElem_take] at B;rw[zaG] at U;have l:marked T live y=O:=pg.1 (zbm V);have Q:(mQ T y).1=y:=(cw (xN l)).2;refine⟨mQ T y,vS l (xN l),?_⟩;have:=aZ j k (by omega) hk (by omega);rw[B,A] at this;rw[NM,Q,this,Bool.and_true];exact hs
 rintro⟨q,hq,hs⟩;simp only[zac] at hs;obtain⟨L,G⟩:=vT hq;have H:mQ T q.1=q:=by unfold mQ;rw[im hT.1 L];rfl
 obtain⟨j,U,R⟩:=zaM (pg.2 G);have hjk:j<k:=by
  rw[NM,<-A,<-R] at hs;rcases zc6 j k with h |h |h
  ·exact h
  ·subst h;rw[fR.KE] at hs;cases hs.2
  have:=fR.asymm (aZ k j hk U h);rw[hs.2] at this;cases this
 refine⟨q,zal.2 ⟨q.1,?_,H⟩,?_⟩
 ·skip
  grind [List.mem_take_iff_getElem]
 grind [Lw]
theorem qdF(A:Rt T){k x}(h:(cz T live)[k]?=Z x):De T live x=if 0<lI (((cz T live).take k).map (mQ T)) (mQ T x) then(fG (mQ T x).2.2.1 (mQ T x).1.1 (mQ T x).1.2.1 (mQ T x).1.2.2).1 else(mQ T x).2.2.1:=by have l:marked T live x=O:=pg.1 (zas h);unfold De;rw[xN l];grind [nmP,lI,cz,mQ,qdE]
def dQ(l:List Pl):D->Option D
 | .agg [.int DD a,.int DD b,.int DD c,.str s]=>if 0<lI l ((0,0,0),(a,b,c),s,C) then Z (.int DD (lI l ((0,0,0),(a,b,c),s,C):Int)) else Y
 |_=>Y
def jH(p:Pl):D:= .agg [.int DD p.2.1.1,.int DD p.2.1.2.1,.int DD p.2.1.2.2,.str p.2.2.1]
theorem Rf l p:dQ l (jH p)=if 0<lI l p then Z (.int DD (lI l p:Int)) else Y:=rfl
theorem Yg l p:(dQ l (jH p)).getD (.int DD 0)= .int DD (lI l p:Int):=by rw[Rf];grind
theorem Lx l p q:lI (l++[p]) q=lI l q+if Lw q p=O then 1 else 0:=by grind [lI]
end
theorem Rg k v u g:aW k v (aW k u g)=aW k v g:=by funext d;unfold aW;cases NO k d<;>rfl
theorem O1 k v g:aW k v g k=Z v:=by grind [aW,D.bU]
theorem Yh l p:aW (jH p) (.int DD ((lI l p:Int)+1)) (dQ l)=dQ (l++[p]):=by
 funext d;cases hd:NO (jH p) d with
 |true=>have:=(D.bU _ _).1 hd;grind [O1,Rf,Lx,Lw]
 |false=>
  have A:jH p≠d:=λe=>by rw[(D.bU _ _).2 e] at hd;cases hd
  have h:aW (jH p) (.int DD ((lI l p:Int)+1)) (dQ l) d=dQ l d:=by unfold aW;rw[hd];rfl
  rw[h];unfold dQ;split
  next a b c s=>
   have:lI (l++[p]) ((0,0,0),(a,b,c),s,C)=lI l ((0,0,0),(a,b,c),s,C):=by
    rw[Lx,zat]
    ·rfl
    grind [Lw,jH]
   rw[this]
  rfl
theorem qdG{T V L} x:aW (aF x) (.str (De T V x)) (Jd T V L)=Jd T V (L++[x]):=by refine zX FS _ _ x (De T V x) (by simp) λy h=> ?_;simp[h]
theorem Yi T V L x:Jd T V L (aF x)=(if x∈L then Z (De T V x) else Y).map FS:=rfl
theorem isInt n:bE PR 3 (.int DD n)=O:=by rfl
section
variable{X:XF}{w0:World}(hX:b7 PR w0 X.cf)
include hX
theorem qmx:LN w0 82 2 (ah (aV 82 2) qmt):=LN.par hX (by rfl) (.cons qdp .nil) .nil .nil
 (A:=List Pl×List ak×(D->Option D)×(D->Option D)×Int×Int×Int×Bool) (B:=Int×Int)
 (λ⟨T,V,R,Q,c1,c2,U,H⟩ b=>nm2 (cz T V) (J (bn T V)) b.1 (dQ (((cz T V).take b.1.toNat).map (mQ T))) b.2 T R Q (Jd T V ((cz T V).take b.1.toNat)) c1 c2 U b.1 H)
 (λ⟨T,V,_⟩ b=>J T<=1000000/\Rt T/\0<=b.1/\b.1<=J (cz T V))
 (λ⟨T,V,_⟩ b=>(J (cz T V)-b.1).toNat)
 (λ⟨T,V,R,Q,c1,c2,U,H⟩ x=>x=(.exit 0,⟨56,[(0,.ref 0 0 0)],gH (cX T) R Q (Jd T V (bn T V)) c1 c2 U (J (bn T V):Int) H O⟩))
 (by
  rintro⟨T,V,R,Q,c1,c2,U,H⟩ ⟨k,c⟩ ⟨hm,hT,h0,hk⟩;dsimp only at*
  (rw[<-qmu];delta qw qb DU cp fq Z2L eM tj Z32 Z2 nA Z5 uL Zs I9 Ja HR vL Z3z Z3A k7 B1 Na Z3G HS Z3H Z3I Z2p Ra mK Vj kP HO jz Zz ZA Z3D Z31 Z3C Z3E Z8 Z7 Zv Zn Zj Zk sM Z3B yT oH Z2V jA Df)
  have hrl:=Yf (T:=T) (live:=V);have GK:J (bn T V)<=J T:=by grind [bn,bM]
  simp only[zaa];refine bj (λh=> ?_) λh=> ?_
  ·have jL:k.toNat<J (cz T V):=by omega
   rw[B2 jL];have hx:(cz T V)[k.toNat]?=Z ((cz T V).getD k.toNat (0,0,0)):=by rw[zaj,zae jL];rfl
   generalize (cz T V).getD k.toNat (0,0,0)=x at hx;have Vl:marked T V x=O:=pg.1 (zas hx);have NM:=xN Vl;have DO:=qdF hT hx;have NV:(mQ T x).1=x:=(cw NM).2;have uN:(cz T V).take (k+1).toNat=(cz T V).take k.toNat++[x]:=by rw[show(k+1).toNat=k.toNat+1 by omega,zbG,hx];rfl
   have cD:Jd T V ((cz T V).take k.toNat) (aF x)=Y:=by
    rw[Yi,zat]
    ·rfl
    intro jm;obtain⟨j,hj,hjx⟩:=zaM jm;rw[zaG] at hj;have:=zba.1 (Ca (live:=V) hT.1) j k.toNat (by omega) jL (by omega);grind
   have qdH:=qdG (T:=T) (V:=V) (L:=(cz T V).take k.toNat) x;have qiM:=Yh (((cz T V).take k.toNat).map (mQ T)) (mQ T x);have qmy:=Yg (((cz T V).take k.toNat).map (mQ T)) (mQ T x);have A1:lI (((cz T V).take k.toNat).map (mQ T)) (mQ T x)<=1000000:=by have h1:lI (((cz T V).take k.toNat).map (mQ T)) (mQ T x)<=J (((cz T V).take k.toNat).map (mQ T)):=List.countP_le_length;rw[zaa,zaG] at h1;omega
   rw[show(((cz T V).take k.toNat).map (mQ T))++[mQ T x]=((cz T V).take (k+1).toNat).map (mQ T) by rw[uN];simp] at qiM;rw[<-uN] at qdH;generalize Jd T V ((cz T V).take k.toNat)=f4 at cD qdH;generalize (((cz T V).take k.toNat).map (mQ T))=l at qiM qmy A1 DO;generalize mQ T x=p at*
   have hf:cX T (AM [ue DD (AC (vc (aF x) 0)),ue DD (AC (vc (aF x) 1)),ue DD (AC (vc (aF x) 2))])=Z (bI p):=by show cX T (aF x)=_;rw[oD,NM];rfl
   simp only[zaE,Nat.reduceAdd,hf];have oG:aK (dQ l (jH p)) (.int DD 0)= .int DD (lI l p:Int):=qmy;have hgt:aK (aW (jH p) (.int DD (AC (aK (dQ l (jH p)) (.int DD 0))+1)) (aW (jH p) (aK (dQ l (jH p)) (.int DD 0)) (dQ l)) (jH p)) (.int DD 0)= .int DD ((lI l p:Int)+1):=by rw[O1,oG];rfl
   have xp:aW (jH p) (.int DD (AC (aK (dQ l (jH p)) (.int DD 0))+1)) (aW (jH p) (aK (dQ l (jH p)) (.int DD 0)) (dQ l))=dQ (((cz T V).take (k+1).toNat).map (mQ T)):=by rw[Rg,oG];exact qiM
   refine bu ⟨h0,by omega⟩ (ao (o9 jL) (ao (jG x) (ao (fJ p) (ao ?_ (ao ?_ (ao ?_ (az (λhc=> ?_) λhc=> ?_)))))))
   ·show bE PR 3 (aK (dQ l (jH p)) (.int DD 0))=O;rw[oG];rfl
   ·show decide ((-9223372036854775808:Int)<=AC (aK (dQ l (jH p)) (.int DD 0))+1/\AC (aK (dQ l (jH p)) (.int DD 0))+1<=9223372036854775807)=O;rw[oG];exact o9 (show(-9223372036854775808:Int)<=(lI l p:Int)+1/\(lI l p:Int)+1<=9223372036854775807 from⟨by omega,by omega⟩)
   ·show bE PR 3 (aK (aW (jH p) (.int DD (AC (aK (dQ l (jH p)) (.int DD 0))+1)) (aW (jH p) (aK (dQ l (jH p)) (.int DD 0)) (dQ l)) (jH p)) (.int DD 0))=O;rw[hgt];rfl
   ·have nJ:decide (AC (aK (aW (jH p) (.int DD (AC (aK (dQ l (jH p)) (.int DD 0))+1)) (aW (jH p) (aK (dQ l (jH p)) (.int DD 0)) (dQ l)) (jH p)) (.int DD 0))>1)=O:=hc;rw[hgt] at nJ;have hc2:(lI l p:Int)+1>1:=zbF nJ;rw[zau (by omega)] at DO;refine⟨p.2.2.1,x.1,x.2.1,x.2.2,rfl,rfl,ao (j9 (by omega) (by omega)) ⟨(J (cz T V)-(k+1)).toNat,by omega,(k+1,bif (dQ l (jH p)).isSome then c else c+1),?_,⟨hm,hT,by grind,by grind⟩,rfl⟩⟩;rw[NV] at DO;have DN:(k+1:Int)=bif (aW (aF x) (.str p.2.2.1) f4 (aF x)).isSome then(bif (f4 (aF x)).isSome then k else k+1) else(bif (f4 (aF x)).isSome then k else k+1)+1:=by rw[O1,cD];rfl
    have G: ∀F:Int,F=k+1->nm2 (cz T V) (J (bn T V)) (k+1) (aW (jH p) (.int DD (AC (aK (dQ l (jH p)) (.int DD 0))+1)) (aW (jH p) (aK (dQ l (jH p)) (.int DD 0)) (dQ l))) (bif (dQ l (jH p)).isSome then c else c+1) T R Q (aW (aF x) (.str (fG p.2.2.1 x.1 x.2.1 x.2.2).1) (aW (aF x) (.str p.2.2.1) f4)) c1 c2 U F H=nm2 (cz T V) (J (bn T V)) (k+1) (aW (jH p) (.int DD (AC (aK (dQ l (jH p)) (.int DD 0))+1)) (aW (jH p) (aK (dQ l (jH p)) (.int DD 0)) (dQ l))) (bif (dQ l (jH p)).isSome then c else c+1) T R Q (aW (aF x) (.str (fG p.2.2.1 x.1 x.2.1 x.2.2).1) (aW (aF x) (.str p.2.2.1) f4)) c1 c2 U (k+1) H:=λF h=>by rw[h]
    exact(G _ DN.symm).trans (by rw[xp,Rg,<-DO,qdH])
   have nJ:decide (AC (aK (aW (jH p) (.int DD (AC (aK (dQ l (jH p)) (.int DD 0))+1)) (aW (jH p) (aK (dQ l (jH p)) (.int DD 0)) (dQ l)) (jH p)) (.int DD 0))>1)=C:=hc;rw[hgt] at nJ;have hc2: ¬(lI l p:Int)+1>1:=zc1 nJ;rw[zat (by omega)] at DO;refine ao (j9 (by omega) (by omega)) ⟨(J (cz T V)-(k+1)).toNat,by omega,(k+1,bif (dQ l (jH p)).isSome then c else c+1),?_,⟨hm,hT,by grind,by grind⟩,rfl⟩;have DN:(bif (f4 (aF x)).isSome then k else k+1:Int)=k+1:=by rw[cD];rfl
   have G: ∀F:Int,F=k+1->nm2 (cz T V) (J (bn T V)) (k+1) (aW (jH p) (.int DD (AC (aK (dQ l (jH p)) (.int DD 0))+1)) (aW (jH p) (aK (dQ l (jH p)) (.int DD 0)) (dQ l))) (bif (dQ l (jH p)).isSome then c else c+1) T R Q (aW (aF x) (.str p.2.2.1) f4) c1 c2 U F H=nm2 (cz T V) (J (bn T V)) (k+1) (aW (jH p) (.int DD (AC (aK (dQ l (jH p)) (.int DD 0))+1)) (aW (jH p) (aK (dQ l (jH p)) (.int DD 0)) (dQ l))) (bif (dQ l (jH p)).isSome then c else c+1) T R Q (aW (aF x) (.str p.2.2.1) f4) c1 c2 U (k+1) H:=λF h=>by rw[h]
   exact(G _ DN).trans (by rw[xp,<-DO,qdH])
  have e1:(cz T V).take k.toNat=cz T V:=zak (by omega);rw[e1];have e2:Jd T V (cz T V)=Jd T V (bn T V):=by simp[Jd,pg,pe]
  have e3:k=(J (bn T V):Int):=by omega
  rw[e2,e3];rfl)
 (by
  rintro s E ⟨T,V,R,Q,c1,c2,U,H,rfl,⟨hm,hT⟩,hp⟩;refine⟨(T,V,R,Q,c1,c2,U,H),(0,0),?_,⟨hm,hT,by simp,by simp⟩,?_⟩
  ·have e1:dQ []=vJ:=by funext d;unfold dQ;split<;>rfl
   have e2:Jd T V []=vJ:=by funext d;show yS _ _ d=Y;unfold yS;split<;>rfl
   simp_all [nm2,cz,bn,Jd]
  grind)
theorem qdI:ND w0 82 A9:=ND.mk hX .nil (.cons (Yd hX) .nil) (.loop (by decide) (qmx hX).T .nil) (by
 intro ps R E Q;obtain⟨T,V,A,F,B,h,G,rfl,rfl,⟨L,l⟩,H⟩:=Q
 (rw[<-qmv];delta Z3i fp iB M9 Z3L Ra X9 Z3M qw qb Z5 Z3K dK nr QY Z3C cp fq ll Z3r jh DU uM mK Vj kP HO jz oI)
 have U:J (bn T V)<=J T:=by grind [bn,bM]
 refine⟨T,bn T V,A,vJ,F,B,0,h,G,rfl,rfl,⟨by omega,kF l.1 V⟩,T,V,A,du (bn T V),F,B,_,h,?_,⟨L,l⟩,H⟩;rfl)
end
def fV(x:It):=itD x.1.1 x.1.2.1 x.1.2.2 x.2.1 x.2.2.1 x.2.2.2
abbrev qrD(B A l h:D->Option D)(L H G F:Int):List (Nat×En):=
 [(0,⟨0,Y,.box 163 [.mp 1 0,.mp 2 0,.mp 3 0,.mp 4 0]⟩),(1,⟨0,Y,.map 49 B L C⟩),(2,⟨0,Y,.map 49 A H O⟩),(3,⟨0,Y,.map 49 l G O⟩),(4,⟨0,Y,.map 49 h F C⟩)]
abbrev it6(T:List Pl)(V:List ak)(l h:D->Option D)(o:List D)(n:Nat)(g:D->Option D)(e:Option (D×D))(G F B A:Int):S:=
 ⟨61,[(5,.ref 0 0 0),(6,.sl 5 0 n),(27,.ref 6 0 0)],qrD (cX T) (du V) l h G F B A++[(5,⟨0,Y,.arr 66 C o⟩)]++itE 6 g e⟩
def qmz:S->K (PX×S):=λs E=> ∃T V A l h,s=it6 T V (du (bn T V)) (Jd T V (bn T V)) [] 0 (du (bn T V)) Y (J T:Int) A l h/\(J T<=1000/\Rt T)/\
 ∀o:List It,o.Perm ((bM T V).map (lq T V))->E (.exit 0,⟨61,[(6,.sl 0 0 (J o))],[(0,⟨0,Y,.arr 66 C (o.map fV)⟩)]⟩)
def Z42 o:=[(0,we 0 Y (AS (66:I) C o))]
def Z40:=[(27,RK 6 0 0)]
def Z3U h:=HH 49 (λx=>match x with |AM [ue DD a,ue DD b,ue DD c]=>i7 bI (bp h (a,b,c))|_=>Y) (qa h) C
def Z3Y:=Z (we 0 Y HO)=Z (we 0 Y HO)
def Z3X k (h:ak->List UInt8) w l V:=[AM [T1 k,X8 k,X7 k,FS (gy (aa h (th w))),ID (Q3 (vc (aK (cX l (xM k)) uL) 7)),ID !ir (du V (xM k))]]
def Dg(n:Nat)(o:List D):=gr n (J o)
def Z3V h:=(1,we 0 (Z 1) (Z3U h))
def Z41(V:List ak) h:=HH 49 (λx=>match x with |AM [ue DD a,ue DD b,ue DD c]=>i7 (λ_=>jh) ((λx=>if x∈V then Z () else Y) (a,b,c))|_=>Y) h O
def Z3Z T h:=HH 49 (λx=>match x with |AM [ue DD a,ue DD b,ue DD c]=>i7 bI (bp T (a,b,c))|_=>Y) h C
theorem qmA T V f3 U o n g e B c2 c3 c4 E:((∀k x,g k=Z x->ob (bE PR (49:I) k) (ob (bE PR (103:I) x) (ob (bE PR (103:I) (aK (du V (xM k)) jh)) (∃h x w l f2 L A R H Q G F,[cp,Cs (xM k)]=cp::gW x/\jz::(1,we 0 (Z 1) (Z3Z T B))::(2,we 0 (Z 2) (Z41 V c2))::Ra f3 c3::DU U c4=jz::Z3V h::mK f2 R G::uM L H F::DU A Q/\(iB h/\Up h x w/\(∀u,u∈w->A (aF u)=Z (FS (l u)))/\zn (aa l (th w))<=2000000)/\ob (bE PR (108:I) (aK (cX h (xM k)) uL)) (ob (Dg n o&&aB (n+J (Z3X k l w h V)) 48) (Z3Y/\Z3Y/\Z3Y/\Z (we 0 Y (Z3U h))=Z (we 0 Y (Z3Z T B))/\E (xz,AD 61 (wN::(6,If 5 0 (n+J (Z3X k l w h V)))::Z40) [I8,(1,we 0 Y (Z3U h)),(2,we 0 Y (HH 49 f2 R G)),(3,we 0 Y (HH 49 L H F)),(4,I6 A Q),(5,we 0 Y (AS (66:I) C (ab n o++Z3X k l w h V))),(6,Z3d k g)])))))))/\(Q9 g->E (CE 0,AD 61 [(6,ZM n)] (Z42 o))))=(bV [(83,qgl)] [] [] 49 6 (it6 T V f3 U o n g e B c2 c3 c4)) E:=by kernel_rfl
def cfP:D->D->Int
 | .agg [_,_,_,.str a,_,_],.agg [_,_,_,.str b,_,_]=>HF a b
 |_,_=>0
def qdJ:bc:=λps R E=> ∃a b,ps=[.d (fV a),.d (fV b)]/\R=[]/\E (iD (HF a.2.1 b.2.1),[])
theorem Yj(a b:It) E:(∃x y,[Cs (FS (ba (bl a))),Cs (FS (ba (bl b)))]=Cs (FS x)::lH y/\Zn/\E (Cs (ue DD (HF x y)),[]))=(aO [(86,xA)] [] 85 [.d (fV a),.d (fV b)] []) E:=by kernel_rfl
def O2 T:=fp T<=1000
def Yk:=we 0 Y (AS (66:I) C [])
def Z45 T V:=[(5,Yk),(6,we 0 Y (Q4 49 103 (λx=>match x with |AM [ue DD a,ue DD b,ue DD c]=>i7 (λ_=>jh) ((λx=>if x∈bn T V then Z () else Y) (a,b,c))|_=>Y) Y))]
theorem qdK l live E:(∃H F,[jP l,gC live]=[jP H,gC F]/\Zn/\(iB H/\ll F)/\ ∃(T:List Pl) (V:List ak) (Q:D->Option D) (G:Int) (B:Bool),oI=oI/\[jz,(1,we 0 (Z 1) (HH 49 (λx=>match x with |AM [ue DD a,ue DD b,ue DD c]=>i7 bI (bp (il H) (a,b,c))|_=>Y) (↑(J (il H)):Int) C)),(2,we 0 (Z 2) (HH 49 (λx=>match x with |AM [ue DD a,ue DD b,ue DD c]=>i7 (λ_=>jh) ((λx=>if x∈tg F then Z () else Y) (a,b,c))|_=>Y) (↑(J (tg F)):Int) C)),Z3g,Z3L]=jz::Z3V T::(2,we 0 (Z 2) (HH 49 (λx=>match x with |AM [ue DD a,ue DD b,ue DD c]=>i7 (λ_=>jh) ((λx=>if x∈V then Z () else Y) (a,b,c))|_=>Y) (nr V) B))::Z3g::DU Q G/\(iB T/\Uq T/\List.Nodup V)/\ ∃h A R c1 U B z3,oI=oI/\jz::Z3V T::(2,we 0 (Z 2) (HH 49 (λx=>match x with |AM [ue DD a,ue DD b,ue DD c]=>i7 (λ_=>jh) ((λx=>if x∈V then Z () else Y) (a,b,c))|_=>Y) (nr V) O))::(3,we 0 (Z 3) (HH 49 (λx=>match x with |AM [ue DD a,ue DD b,ue DD c]=>i7 (λ_=>jh) ((λx=>if x∈bn T V then Z () else Y) (a,b,c))|_=>Y) (X9 T V) C))::DU Q G=[jz,(1,we 0 (Z 1) (Z3Z h c1)),mK R U B,(3,we 0 (Z 3) (HH 49 (λx=>match x with |AM [ue DD a,ue DD b,ue DD c]=>i7 (λ_=>jh) ((λx=>if x∈bn h A then Z () else Y) (a,b,c))|_=>Y) (X9 h A) z3)),Z3L]/\(iB h/\Rt h)/\ob (decide ((0:Int)<=(0:Int)/\(0:Int)<=X9 h A/\X9 h A<=Z8/\(48:Int)*X9 h A<=Z3q)) (∃T V mL c3 G,AD 61 (wN::(6,zY)::Z40) (I8::(1,we 0 Y (Z3Z h c1))::(2,we 0 Y (HH 49 R U B))::(3,we 0 Y (HH 49 (λx=>match x with |AM [ue DD a,ue DD b,ue DD c]=>i7 (λ_=>jh) ((λx=>if x∈bn h A then Z () else Y) (a,b,c))|_=>Y) (X9 h A) O))::(4,we 0 Y (HH 49 (λx=>match x with |AM [ue DD a,ue DD b,ue DD c]=>i7 FS ((λx=>if x∈bn h A then Z (De h A x) else Y) (a,b,c))|_=>Y) (X9 h A) C))::Z45 h A)=AD 61 (wN::(6,zY)::Z40) (I8::(1,we 0 Y (Z3U T))::(2,we 0 Y (Z41 V mL))::(3,we 0 Y (HH 49 (λx=>match x with |AM [ue DD a,ue DD b,ue DD c]=>i7 (λ_=>jh) ((λx=>if x∈bn T V then Z () else Y) (a,b,c))|_=>Y) c3 O))::(4,we 0 Y (HH 49 (λx=>match x with |AM [ue DD a,ue DD b,ue DD c]=>i7 FS ((λx=>if x∈bn T V then Z (De T V x) else Y) (a,b,c))|_=>Y) G C))::Z45 T V)/\(O2 T/\Rt T)/\ ∀o,List.Perm o (aa (lq T V) (bM T V))-> ∃es,[If 0 0 (J o),P.fn (85:FuncId) []]=[If 0 0 (J es),P.fn (85:FuncId) []]/\[(0,we 0 (Z 0) (AS (66:I) C (aa fV o)))]=[(0,we 0 (Z 0) (AS (66:I) C es))]/\nO PR oB (85:FuncId) es cfP/\ ∀L,List.Perm L es->List.Pairwise (λa b=> ¬cfP b a<(0:Int)) L->E (If 0 0 (J o),Z42 L)))=(fK [(80,XV),(84,um 85 cfP 66)] [(81,qgk),(82,A9)] [(6,ah (aV 49 6) qmz)] 49 [ew l,cF live] []) E:=by kernel_rfl
def qe:bc:=λps R E=> ∃l live,ps=[ew l,cF live]/\R=[]/\(J l<=1000/\J live<=1000)/\
 E (.sl 0 0 (J (mP (il l) (tg live))),[(0,⟨0,Y,.arr 66 C ((mP (il l) (tg live)).map fV)⟩)])
theorem qrE x:bE PR 66 (fV x)=O:=by rfl
theorem Yl:FC 85 qdJ:=FC.mk (.cons OH .nil) (by
 intro ps R E l;obtain⟨a,b,rfl,rfl,h⟩:=l
 (rw[<-Yj];delta Zn lH)
 exact⟨_,_,rfl,rfl,h⟩)
theorem rQ a b:cfP (fV a) (fV b)<0↔IT a.2.1 b.2.1=O:=by exact qdu _ _
theorem qiN(l:List It)(G:J l<=1000000):nO PR oB 85 (l.map fV) cfP where
 fn:=⟨_,Tryz.func85,by rfl,by rfl⟩
 ag:=λd hd=>by obtain⟨x,_,rfl⟩:=zal.1 hd;exact⟨_,rfl⟩
 len:=by simp;omega
 run:=λa h b A=>by obtain⟨x,_,rfl⟩:=zal.1 h;obtain⟨y,_,rfl⟩:=zal.1 A;exact FC.TJ Yl ⟨x,y,rfl,rfl,rfl⟩
 KE:=λa h=>by obtain⟨x,_,rfl⟩:=zal.1 h;rw[rQ,Lr.KE];simp
 tr:=λa h b A c B=>by obtain⟨x,_,rfl⟩:=zal.1 h;obtain⟨y,_,rfl⟩:=zal.1 A;obtain⟨z,_,rfl⟩:=zal.1 B;rw[rQ,rQ,rQ];exact Lr.tr _ _ _
 ntr:=λa h b A c B=>by obtain⟨x,_,rfl⟩:=zal.1 h;obtain⟨y,_,rfl⟩:=zal.1 A;obtain⟨z,_,rfl⟩:=zal.1 B;rw[rQ,rQ,rQ];intro F H;simpa using Lr.ntr (by simpa using F) (by grind)
theorem O3{X}:FD X 84 (um 85 cfP 66):=FD.M6 Tryz.func84 (by rfl) (by rfl) λps R E h=>jZ (gI h)
def qrF:D->It
 | .agg [.int DD a,.int DD b,.int DD c,.str p,.bool d,.bool e]=>((a,b,c),p,d,e)
 |_=>((0,0,0),[],C,C)
theorem Rh{p}(h:oC p=O):J p.2.2.1<=200/\J (fG p.2.2.1 p.1.1 p.1.2.1 p.1.2.2).1<=200:=by
 have l:=h;simp only[oC,zac] at l;have A:J p.2.2.1<=32:=by grind [cR]
 refine⟨by omega,?_⟩;rw[xK h];grind [bt,mJ,gQ]
theorem qdL L {p}(h:oC p=O):J (nmP L p)<=200:=by grind [nmP,Rh]
theorem Ym: ∀l,(∀s∈l,J s<=200)->zn l<=201*J l
 | [],_=>by simp[zn,gy]
 |s::r,h=>by have B:=Ym r λx A=>h x (by simp[A]);grind [zn,gy]
theorem T3{T V}(B:Rt T){x w}(h:Up T x w):zn (w.reverse.map (De T V))<=201*J T:=by
 have:=Ym (w.reverse.map (De T V)) λs A=>by obtain⟨u,hu,rfl⟩:=zal.1 A;obtain⟨w',F,_⟩:=h.sub u (by grind);obtain⟨p,l⟩:=F.at;unfold De;rw[l];exact qdL _ (B.2 p (cw l).1)
 have G:=h.len;grind
section
variable{X:XF}{w0:World}(hX:b7 PR w0 X.cf)
include hX
theorem qmB:LN w0 49 6 (ah (aV 49 6) qmz):=LN.par hX (by rfl) (.cons qiL .nil) .nil .nil
 (A:=List Pl×List ak×Int×Int×Int) (B:=List ak×List ak×Option (D×D))
 (λ⟨T,V,H,G,F⟩ ⟨o,L,e⟩=>it6 T V (du (bn T V)) (Jd T V (bn T V)) ((o.map λx=>lq T V (mQ T x)).map fV) (J o) (du L) e (J T:Int) H G F)
 (λ⟨T,V,_⟩ ⟨o,L,_⟩=>J T<=1000/\Rt T/\L.Nodup/\(o++L).Perm (bn T V))
 (λ_ b=>J b.2.1)
 (λ⟨T,V,_⟩ x=> ∃o:List It,o.Perm ((bM T V).map (lq T V))/\x=(.exit 0,⟨61,[(6,.sl 0 0 (J o))],[(0,⟨0,Y,.arr 66 C (o.map fV)⟩)]⟩))
 (by
  rintro⟨T,V,H,G,F⟩ ⟨o,L,e⟩ ⟨hm,l,hn,Q⟩
  (rw[<-qmA];delta Z42 ZM Q9 jh X7 X8 T1 xM k7 T2 Z3d qw I6 kP HO I8 Z40 cp wN fp qa Z3U Z3Y Z2 nA Z5 uL Z3X Dg iB uM mK Z3V qb DU Ra Z41 Z3Z jz fO gA gD fP fQ fe gW)
  have hl:=Q.length_eq;have GK:J (bn T V)<=J T:=by grind [bn,bM]
  rw[zaf] at hl;refine⟨λk v hk=> ?_,λcD=> ?_⟩
  ·obtain⟨x,U,rfl,rfl⟩:=vV hk;have vn:=z6 hn x;have h0:0<J L:=zcg U;have R:J (L.erase x)<J L:=by rw[zcb U];omega
   have Vl:marked T V x=O:=pe.1 (Q.mem_iff.1 (by simp[U]));obtain⟨w,hw,mw⟩:=lT Vl;have NM:=xN Vl;have hit:lq T V (mQ T x)=(x,gy (w.reverse.map (De T V)),(mQ T x).2.2.2,!decide (x∈V)):=by unfold lq;rw[(cw NM).2];unfold Q8;rw[B9 hw]
   have hf:cX T (AM [ue DD (AC (vc (aF x) 0)),ue DD (AC (vc (aF x) 1)),ue DD (AC (vc (aF x) 2))])=Z (bI (mQ T x)):=by show cX T (aF x)=_;rw[oD,NM];rfl
   have bB:(du V (AM [ue DD (AC (vc (aF x) 0)),ue DD (AC (vc (aF x) 1)),ue DD (AC (vc (aF x) 2))])).isSome=decide (x∈V):=by show(du V (aF x)).isSome=_;rw[rP];by_cases h:x∈V<;>simp[h]
   have I1:=T3 (V:=V) l hw;refine ao (jG x) (ao O0 (ao ?_ ⟨T,x,w,De T V,du V,du (bn T V),Jd T V (bn T V),H,G,F,O,O,rfl,rfl,⟨by omega,hw,λu hu=> ?_,by omega⟩,?_⟩))
   ·show bE PR 103 (aK (du V (aF x)) (.agg []))=O;rw[rP];by_cases hu:x∈V<;>simp only[hu,zbj,zbk,zaB,zcd]<;>exact O0
   ·rw[Yi,zau (pe.2 (mw u hu))];rfl
   simp only[hf,bB];refine ao (fJ (mQ T x)) (ao ?_ ⟨trivial,trivial,trivial,trivial,?_⟩)
   ·skip
    simp[aB];omega
   refine⟨_,R,(o++[x],L.erase x,Z (aF x,.agg [])),?_,⟨hm,l,hn.erase _,?_⟩,rfl⟩
   ·show _=it6 T V (du (bn T V)) (Jd T V (bn T V)) (((o++[x]).map λx=>lq T V (mQ T x)).map fV) (J (o++[x])) (du (L.erase x)) (Z (aF x,.agg [])) (J T:Int) H G F;rw[<-vn,zaC,zaC,zaf];simp only[zaS,zcw,hit];rw[zak (by simp)];rfl
   grind
  have:=vW cD;have ho:o.Perm (bn T V):=by grind
  refine⟨o.map λx=>lq T V (mQ T x),?_,by rw[zaa]⟩;have h1:=ho.map λx=>lq T V (mQ T x);refine h1.trans (List.Perm.of_eq ?_);unfold bn;rw[zbr];refine zaY λp Q=> ?_;obtain⟨p1,p2⟩:=vT Q;show lq T V (mQ T p.1)=_;unfold mQ;rw[im l.1 p1];rfl)
 (by rintro s E ⟨T,V,H,G,F,rfl,⟨hm,l⟩,Q⟩;refine⟨(T,V,H,G,F),([],bn T V,Y),rfl,⟨hm,l,kF l.1 V,by simp⟩,?_⟩;grind)
theorem qdM:ND w0 49 qe:=ND.mk hX (.cons qds (.cons O3 .nil)) (.cons (qiJ hX) (.cons (qdI hX) .nil)) (.loop (by decide) (qmB hX).T .nil) (by
 intro ps R E U;obtain⟨l,live,rfl,rfl,⟨h1,h2⟩,Q⟩:=U
 (rw[<-qdK];delta Z42 fp O2 jh Z41 qa Z3U Yk Z45 kP HO I8 Z40 zY cp wN Z3q Z8 mK Z3Z X9 qw qb DU dK nr Z3V M9 Z3L Z3g jz oI ll iB Zn eM gC fI jP)
 have A:=OZ l;have V:=vR l;have GK:J (bn (il l) (tg live))<=J (il l):=by grind [bn,bM]
 refine⟨l,live,rfl,rfl,⟨by omega,by omega⟩,il l,tg live,vJ,0,C,rfl,rfl,⟨by omega,A.1,TR live⟩,il l,tg live,du (tg live),_,_,O,C,rfl,rfl,⟨by omega,A⟩,ao (o9 ⟨by omega,by omega,by omega,by omega⟩) ⟨il l,tg live,_,_,_,rfl,⟨by omega,A⟩,λo G=> ?_⟩⟩;have uo:=G.length_eq;have L:J ((bM (il l) (tg live)).map (lq (il l) (tg live)))<=1000:=by grind [bn]
 refine⟨o.map fV,by rw[zaa],rfl,qiN o (by omega),λdP H F=> ?_⟩;obtain⟨o2,rfl,B⟩:=Yc fV qrF (λ_=>rfl) H;rw[za1] at F;have e:=TY A (B.trans G) (F.imp λ{a b} h=>by rw[rQ] at h;grind);rw[e] at B⊢;rw[<-B.length_eq];exact Q)
end
def vX{α:Type}(f:α->Bool)(l:List α):Int:=match l.findIdx? f with |Z i=>(i:Int)|Y=> -1
abbrev bxI(n:Nat)(x:ak):List (Nat×En):=[(n,⟨0,Y,.box 49 [.d (.int DD x.1),.d (.int DD x.2.1),.d (.int DD x.2.2)]⟩)]
abbrev qiO(l:List Pl)(x:ak)(k:Int):S:=⟨20,[(0,ew l),(3,.ref 0 0 0),(5,iD k)],bxI 0 x⟩
def eJ l x:=vX (λp:Pl=>p.1==x) l
def qmC:S->K (PX×S):=λs E=> ∃l x,s=qiO l x 0/\J l<=1000000/\(∀i,i=eJ l x->0<=i->E (.ret,⟨20,[(0,ew l),(4,iD i)],[]⟩))/\(eJ l x= -1->E (.exit 0,⟨20,[(0,ew l)],[]⟩))
def Cb x:=(0,pd x)
def O4 x:=[Cb x]
def eN:=(3,cp)
def qO k:=(4,Zl k)
def HU k:=[qO k]
def xO l:=(0,jP l)
def Z48 l k (x:ak):=AC (vc (ln l k) 0)==ba x&&(AC (vc (ln l k) 1)==gD x&&O)&&(AC (vc (ln l k) 2)==fO x&&O)
def Yn k l:=decide (k<(↑(sf l):Int))
theorem qgm l x k E:(bif Yn k l then ob (HQ k l) (ob (qG l k) (bif Z48 l k x then E (Q2,AD 20 (xO l::HU k) []) else ob (Zv k) (E (xz,AD 20 (xO l::eN::ZB k) (O4 x))))) else E (CE 0,AD 20 [xO l] []))=(aG [] [] 97 2 (qiO l x k)) E:=by kernel_rfl
theorem qiP l x E:(∃h A,AD 20 (xO l::eN::ZS) (O4 x)=AD 20 (xO h::eN::ZS) (O4 A)/\iB h/\(∀i,i=eJ h A->(0:Int)<=i->E (Zl i,[]))/\(eJ h A=(-1:Int)->Ze E))=(aO [] [(2,ah (aV 97 2) qmC)] 97 [ew l,.d (aF x)] []) E:=by kernel_rfl
def qiQ:bc:=λps R E=> ∃l x,ps=[ew l,.d (aF x)]/\R=[]/\J l<=1000000/\E (iD (eJ l x),[])
abbrev Fo(z:Bool)(l:List Pl):List (Nat×En):=[(0,⟨0,Z 0,.arr 108 z (l.map bI)⟩)]
abbrev qiR(z:Bool)(l:List Pl)(n:Nat)(x:ak)(k:Int):S:=⟨20,[(0,.sl 0 0 n),(3,.ref 1 0 0),(5,iD k)],Fo z l++bxI 1 x⟩
def qgn:S->K (PX×S):=λs E=> ∃z l x,s=qiR z l (J l) x 0/\J l<=1000000/\(∀i,i=eJ l x->0<=i->E (.ret,⟨20,[(0,.sl 0 0 (J l)),(4,iD i)],Fo z l⟩))/\(eJ l x= -1->E (.exit 0,⟨20,[(0,.sl 0 0 (J l))],Fo z l⟩))
def Yo x:=[(1,pd x)]
def T4 z l:=(0,we 0 (Z 0) (AS (108:I) z (fI l)))
def jB:=RK 1 0 0
def wO:=(3,jB)
def Je z l:=[T4 z l]
def qP n:=(0,ZM n)
def Jf k l:=decide (Zs k<sf l)
theorem Yp z l n x k E:(bif Df k n then ob (jA k n) (ob (Jf k l) (ob (qG l k) (bif Z48 l k x then E (Q2,AD 20 (qP n::HU k) (Je z l)) else ob (Zv k) (E (xz,AD 20 (qP n::wO::ZB k) (T4 z l::Yo x)))))) else E (CE 0,AD 20 [qP n] (Je z l)))=(aG [] [] 97 2 (qiR z l n x k)) E:=by kernel_rfl
def qQ h:=If 0 0 (fp h)
def Jg h:=(0,qQ h)
theorem qdN z l n x E:(∃A h B,AD 20 (qP n::wO::ZS) (T4 z l::Yo x)=AD 20 (Jg h::wO::ZS) (T4 A h::Yo B)/\iB h/\(∀i,i=eJ h B->(0:Int)<=i->E (Zl i,Je A h))/\(eJ h B=(-1:Int)->E (Zd,Je A h)))=(aO [] [(2,ah (aV 97 2) qgn)] 97 [.sl 0 0 n,.d (aF x)] (Fo z l)) E:=by kernel_rfl
def qgo:bc:=λps R E=> ∃z l x,ps=[.sl 0 0 (J l),.d (aF x)]/\R=Fo z l/\J l<=1000000/\E (iD (eJ l x),Fo z l)
abbrev hsH(l:List ak)(x:ak)(k:Int):S:=⟨18,[(0,cF l),(3,.ref 0 0 0),(5,iD k)],bxI 0 x⟩
def qmD:S->K (PX×S):=λs E=> ∃l x,s=hsH l x 0/\J l<=1000000/\(x∈l->E (.ret,⟨18,[(0,cF l),(4,.d (.bool O))],[]⟩))/\(x∉l->E (.exit 0,⟨18,[(0,cF l)],[]⟩))
def Ri:=[(4,ZT)]
def z8 l:=(0,gC l)
def Z4p l k (x:ak):=HR l k==ba x&&(Ja l k==gD x&&O)&&(I9 l k==fO x&&O)
def Z4o k l:=decide (k<vK l)
theorem qgp l x k E:(bif Z4o k l then ob (Lo k l) (ob (yT l k) (bif Z4p l k x then E (Q2,AD 18 (z8 l::Ri) []) else ob (Zv k) (E (xz,AD 18 (z8 l::eN::ZB k) (O4 x))))) else E (CE 0,AD 18 [z8 l] []))=(aG [] [] 101 2 (hsH l x k)) E:=by kernel_rfl
theorem qiS l x E:(∃h A,AD 18 (z8 l::eN::ZS) (O4 x)=AD 18 (z8 h::eN::ZS) (O4 A)/\ll h/\(A∈h->ZU E)/\(¬A∈h->Z3 E))=(aO [] [(2,ah (aV 101 2) qmD)] 101 [cF l,.d (aF x)] []) E:=by kernel_rfl
def qiT:bc:=λps R E=> ∃l x,ps=[cF l,.d (aF x)]/\R=[]/\J l<=1000000/\E (.d (.bool (decide (x∈l))),[])
theorem Ly{α:Type}{f}{l:List α}{i x}(h:l[i]?=Z x)(A:f x=O)(B: ∀y∈l.take i,f y=C):vX f l=(i:Int):=by
 have:l.findIdx? f=Z i:=by rw[zbe];grind [List.getElem?_eq_some_iff,List.mem_take_iff_getElem]
 unfold vX;rw[this]
theorem Rj{α:Type}{f:α->Bool}{l}(h: ∀x∈l,f x=C):vX f l= -1:=by
 have:l.findIdx? f=Y:=by rw[zbR];exact h
 unfold vX;rw[this]
theorem ur{α:Type} f l:(∃(i:Nat) (x:α),l[i]?=Z x/\f x=O/\vX f l=(i:Int))\/(vX f l= -1/\ ∀x∈l,f x=C):=by grind [List.findIdx?_eq_some_iff_getElem,List.getElem?_eq_getElem,vX,List.findIdx?_eq_none_iff]
theorem getD_some{α:Type}{l:List α}{k}(h:k<J l) d:l[k]?=Z (l.getD k d):=by rw[zaj,zae h];rfl
section
variable{X:XF}
theorem LD.scan{H hk f id g}(hH:HD X H)(hl:TC X f hk)
  {A α:Type} (hd:A->Int->S) (h:A->List α) d (t:A->α->Bool) (C:A->Prop) (rt:A->Int->S) (G:A->S)
  (hr: ∀a (k:Int) E,C a->J (h a)<=1000000->0<=k->(k<J (h a)->k.toNat<J (h a)->(t a ((h a).getD k.toNat d)=O->E (.ret,rt a k))->(t a ((h a).getD k.toNat d)=false->E (.normal,hd a (k+1)))->aG H hk f id (hd a k) E))
  (hx: ∀a (k:Int) E,C a-> ¬k<J (h a)->E (.exit 0,G a)->aG H hk f id (hd a k) E)
  (hg: ∀s E,g s E-> ∃a,s=hd a 0/\C a/\J (h a)<=1000000/\(∀i,i=vX (t a) (h a)->0<=i->E (.ret,rt a i))/\(vX (t a) (h a)= -1->E (.exit 0,G a))) (hu:uniq PR f=O:=by kernel_rfl):LD X f id (ah (aV f id) g):=
 LD.par hH hl (hu:=hu) (A:=A) (B:=Int) hd (λa k=>C a/\J (h a)<=1000000/\0<=k/\k.toNat<=J (h a)/\ ∀y∈(h a).take k.toNat,t a y=false) (λa k=>(J (h a)-k).toNat)
  (λa x=>(∃i:Int,i=vX (t a) (h a)/\0<=i/\x=(.ret,rt a i))\/(vX (t a) (h a)= -1/\x=(.exit 0,G a)))
  (by
   rintro a k ⟨F,V,U,h4,R⟩;by_cases hk:k<J (h a)
   ·have L:k.toNat<J (h a):=by omega
    refine hr a k _ F V U hk L (λQ=> .inl ⟨k,?_,U,rfl⟩) λQ=>⟨(J (h a)-(k+1)).toNat,by omega,k+1,rfl,⟨F,V,by omega,by omega,λy l=> ?_⟩,rfl⟩
    ·rw[Ly (getD_some L d) Q R];omega
    rw[show(k+1).toNat=k.toNat+1 by omega,zbG,getD_some L d] at l;grind
   refine hx a k _ F hk (.inr ⟨Rj λy l=>R y ?_,rfl⟩);rw[zak (by omega)];exact l)
  (by grind)
theorem DW(x y:ak):(x.1==y.1&&(x.2.1==y.2.1&&O)&&(x.2.2==y.2.2&&O))=(x==y):=by grind
theorem qdO:LD X 97 2 (ah (aV 97 2) qmC):=
 LD.scan .nil .nil
  (A:=List Pl×ak) (λa k=>qiO a.1 a.2 k) (·.1) ti (λa p=>p.1==a.2) (λ_=>True)
  (λa i=>⟨20,[(0,ew a.1),(4,iD i)],[]⟩) (λa=>⟨20,[(0,ew a.1)],[]⟩)
  (by
   rintro⟨l,x⟩ k E _ B h0 hk eb ht hf
   (rw[<-qgm];delta fO gA gD fP fQ pd Cb O4 Zz ZA ZB cp eN Z8 Z7 Zv Zj Zl qO HU fI jP xO Zs ln Z48 qG sf HQ Yn)
   simp only[zaa];rw[jy eb];refine nM (o9 hk) (bu ⟨h0,hk⟩ (ao (fJ _) (az (λh=>ht ?_) λh=>ao (j9 (by omega) (by omega)) (hf ?_))))
   ·rw[<-DW];exact h
   rw[<-DW];exact h)
  (by
   rintro⟨l,p⟩ k E _ hk hp
   (rw[<-qgm];delta fO gA gD fP fQ pd Cb O4 Zz ZA ZB cp eN Z8 Z7 Zv Zj Zl qO HU fI jP xO Zs ln Z48 qG sf HQ Yn)
   grind)
  (by rintro s E ⟨l,p,rfl,B,G,F⟩;exact⟨(l,p),rfl,trivial,B,G,F⟩)
theorem qgq:FD X 97 qiQ:=FD.mk .nil (.cons qdO .nil) (by
 intro ps R E h;obtain⟨l,x,rfl,rfl,B,A⟩:=h
 (rw[<-qiP];delta Zd Ze Zj Zl fp iB fO gA gD fP fQ pd Cb O4 Z5 ZS cp eN fI jP xO)
 grind)
theorem Yq:LD X 97 2 (ah (aV 97 2) qgn):=
 LD.scan .nil .nil
  (A:=List Pl×ak×Bool) (λa k=>qiR a.2.2 a.1 (J a.1) a.2.1 k) (·.1) ti (λa p=>p.1==a.2.1) (λ_=>True)
  (λa i=>⟨20,[(0,.sl 0 0 (J a.1)),(4,iD i)],Fo a.2.2 a.1⟩) (λa=>⟨20,[(0,.sl 0 0 (J a.1))],Fo a.2.2 a.1⟩)
  (by
   rintro⟨l,x,z⟩ k E _ B h0 hk eb ht hf
   (rw[<-Yp];delta fO gA gD fP fQ pd Yo fI T4 Zz ZA ZB jB wO Z8 Z7 Zv Je Zj Zl qO HU ZM qP Zs ln Z48 qG sf Jf jA Df)
   rw[jy eb];refine nM (o9 hk) (bu ⟨h0,hk⟩ (ao (o9 (by rw[zaa];exact eb)) (ao (fJ _) (az (λh=>ht ?_) λh=>ao (j9 (by omega) (by omega)) (hf ?_)))))
   ·rw[<-DW];exact h
   rw[<-DW];exact h)
  (by
   rintro⟨l,p,z⟩ k E _ hk hp
   (rw[<-Yp];delta fO gA gD fP fQ pd Yo fI T4 Zz ZA ZB jB wO Z8 Z7 Zv Je Zj Zl qO HU ZM qP Zs ln Z48 qG sf Jf jA Df)
   grind)
  (by rintro s E ⟨z,l,p,rfl,B,G,F⟩;exact⟨(l,p,z),rfl,trivial,B,G,F⟩)
theorem Yr:FD X 97 qgo:=FD.mk .nil (.cons Yq .nil) (by
 intro ps R E h;obtain⟨z,l,x,rfl,rfl,B,A⟩:=h
 (rw[<-qdN];delta Zd fI T4 Je Zj Zl fp iB qQ Jg fO gA gD fP fQ pd Yo Z5 ZS jB wO ZM qP)
 grind)
theorem HV{α:Type}{f:α->Bool}{l}:0<=vX f l↔ ∃x∈l,f x=O:=by grind [ur]
theorem qdP:LD X 101 2 (ah (aV 101 2) qmD):=
 LD.scan .nil .nil
  (A:=List ak×ak) (λa k=>hsH a.1 a.2 k) (·.1) (0,0,0) (λa p=>p==a.2) (λ_=>True)
  (λa i=>⟨18,[(0,cF a.1),(4,.d (.bool O))],[]⟩) (λa=>⟨18,[(0,cF a.1)],[]⟩)
  (by
   rintro⟨l,x⟩ k E _ B F hk eb ht hf
   (rw[<-qgp];delta fO gA gD fP fQ pd Cb O4 Zz ZA ZB cp eN Z8 Z7 Zv ZT Ri eM gC z8 Zs I9 Ja HR Z4p yT oH vK Lo Z4o)
   simp only[zaa];rw[B2 eb];refine nM (o9 hk) (bu ⟨F,hk⟩ (ao (jG _) (az (λh=>ht ?_) λh=>ao (j9 (by omega) (by omega)) (hf ?_))))
   ·rw[<-DW];exact h
   rw[<-DW];exact h)
  (by
   rintro⟨l,p⟩ k E _ hk hp
   (rw[<-qgp];delta fO gA gD fP fQ pd Cb O4 Zz ZA ZB cp eN Z8 Z7 Zv ZT Ri eM gC z8 Zs I9 Ja HR Z4p yT oH vK Lo Z4o)
   grind)
  (by
   rintro s E ⟨l,x,rfl,B,H,G⟩;refine⟨(l,x),rfl,trivial,B,λi Q F=>H ?_,λh=>G λL=> ?_⟩
   ·skip
    grind [HV]
   grind [vX,HV])
theorem qgr:FD X 101 qiT:=FD.mk .nil (.cons qdP .nil) (by
 intro ps R E h;obtain⟨l,x,rfl,rfl,B,A⟩:=h
 (rw[<-qiS];delta Z2 Z3 ZT ZU dK ll fO gA gD fP fQ pd Cb O4 Z5 ZS cp eN eM gC z8)
 grind)
end
abbrev u8R(c:List UInt8):Obj:= .arr 5 C (c.map bD)
def O5:bc:=λps R E=> ∃s,ps=[sD s]/\R=[]/\J s<=2000000/\E (lG (Lib.validD s),[])
def Ys:bc:=λps R E=> ∃s,ps=[sD s]/\R=[]/\J s<=2000000/\E (iD (Lib.runeCount ⟨⟨s⟩⟩),[])
def Z4t:=[Cs (ue DD (60:Int))]
def HW h:=jO h<=2000000
theorem qmE s E:(∃l,lH s=lH l/\Zn/\HW l/\bif !Lib.validD l then E (P.cy (Cs Z5::Z4t),[]) else∃h,lH s=lH h/\Zn/\HW h/\E (P.cy (Cs (ue DD (↑(Lib.runeCount (gz (Array.mk h))):Int))::QR),[]))=(aO [(154,O5),(155,Ys)] [] 115 [sD s] []) E:=by kernel_rfl
section
variable{X:XF}
theorem Rk:FD X 154 O5:=FD.M6 Tryz.func154 (by kernel_rfl) (by kernel_rfl) (by rintro ps R E ⟨s,rfl,rfl,l,h⟩;exact⟨_,zau (by omega),h⟩)
theorem qdQ:FD X 155 Ys:=FD.M6 Tryz.func155 (by kernel_rfl) (by kernel_rfl) (by rintro ps R E ⟨s,rfl,rfl,l,h⟩;exact⟨_,zau (by omega),h⟩)
end
abbrev sO:=List UInt8×Bool×List UInt8
def wP(e:sO):D:= .agg [.str e.1,.bool e.2.1,.str e.2.2]
abbrev esP(l:List sO):P:= .d (.sl 3 (l.map wP))
def SmE(l:List sO):=J l<=2000000/\ ∀e∈l,J e.1<=2000000/\J e.2.2<=2000000
theorem Yt{l i}(h:i<J l):BC (l.map wP) i=wP (l.getD i ([],C,[])):=by rw[aA wP l i h];simp[h]
theorem qmF e:bE PR 47 (wP e)=O:=by obtain⟨a,b,c⟩:=e;kernel_rfl
section
variable{X:XF}
end
abbrev bO(l h:Option Nat)(p:P)(c:List UInt8):List (Nat×En):=[(0,⟨0,l,.box 228 [p,.sl 1 0 (J c)]⟩),(1,⟨0,h,u8R c⟩)]
abbrev bN:P:= .d .lW
abbrev bS:P:= .ref 0 0 0
def hCC:bc:=λps R E=> ∃p c,ps=[bS]/\R=bO (Z 0) (Z 1) p c/\(p=bN\/p=bS)/\E (.cy [],bO (Z 0) (Z 1) bS c)
def hWS:bc:=λps R E=> ∃p c s,ps=[bS,sD s]/\R=bO (Z 0) (Z 1) p c/\(p=bN\/p=bS)/\(J c<=1000000000000/\J s<=1000000000000)/\ ∀h n,h=c++s->E (.cy [iD n,.d .wU],bO (Z 0) Y bS h)
def qmG:bc:=λps R E=> ∃c,ps=[bS]/\R=bO (Z 0) (Z 1) bS c/\c≠[]/\E (sD c,[(0,⟨0,Z 0,.box 228 [bS,.sl 1 0 (J c)]⟩),(1,⟨0,Z 1,.gone⟩)])
def Z4v h:=[(1,we 0 (Z 1) (AS (5:I) C (aa bD h)))]
def Z4u h:=[If 1 0 (jO h)]
def Z4y c:=(0,we 0 (Z 0) (GT (228:I) (Cs D.lW::Z4u c)))::Z4v c
theorem qmH c s E:(∃p h,oI=oI/\Z4y c=(0,we 0 (Z 0) (GT (228:I) (p::Z4u h)))::Z4v h/\(p=bN\/p=bS)/\ob (gr (jO h) (J (aa bD h))&&aB (jO h+J (aa bD s)) 1) (E (P.cy [Cs (ue DD (BZ s)),Cs D.wU],[(0,we 0 (Z 0) (GT (228:I) [cp,If 1 0 (jO h+J (aa bD s))])),(1,we 0 Y (AS (5:I) C (ab (jO h) (aa bD h)++aa bD s)))])))=(aO [(180,hCC)] [] 134 [bS,sD s] (bO (Z 0) (Z 1) bN c)) E:=by kernel_rfl
def Z4z c:=(0,we 0 (Z 0) (GT (228:I) (cp::Z4u c)))::Z4v c
theorem qmI c s E:(∃p h,oI=oI/\Z4z c=(0,we 0 (Z 0) (GT (228:I) (p::Z4u h)))::Z4v h/\(p=bN\/p=bS)/\ob (gr (jO h) (J (aa bD h))&&aB (jO h+J (aa bD s)) 1) (E (P.cy [Cs (ue DD (BZ s)),Cs D.wU],[(0,we 0 (Z 0) (GT (228:I) [cp,If 1 0 (jO h+J (aa bD s))])),(1,we 0 Y (AS (5:I) C (ab (jO h) (aa bD h)++aa bD s)))])))=(aO [(180,hCC)] [] 134 [bS,sD s] (bO (Z 0) (Z 1) bS c)) E:=by kernel_rfl
def SmX(l:List sO):=J l<=2000/\ ∀e∈l,J e.1<=10000/\J e.2.2<=10000
theorem qdR c s:ab (J c) (aa bD c)++aa bD s=aa bD (c++s):=by rw[zak (by simp),zaC]
section
variable{X:XF}
theorem qrG:FD X 180 hCC:=FD.M6 Tryz.func180 (by kernel_rfl) (by kernel_rfl) (by
 rintro ps R E ⟨p,c,rfl,rfl,h,l⟩;rcases h with rfl |rfl
 ·exact⟨_,rfl,l⟩
 exact⟨_,rfl,l⟩)
theorem qmJ:FD X 135 qmG:=FD.M6 Tryz.func135 (by kernel_rfl) (by kernel_rfl) (by
 rintro ps R E ⟨c,rfl,rfl,G,h⟩;refine⟨_,?_,h⟩;have A:0<J c:=zcp.2 G;have e1:u8s ((c.map bD).take (J c))=Z c:=by rw[zak (by simp)];exact QK c
 have F:(bo (J c) (J c)&&Nat.blt 0 (J c))=O:=by simp[A]
 have B:Xs [.ref 0 0 0] (bO (Z 0) (Z 1) bS c)=(match u8s (ab (J c) (aa bD c)) with
  |Z l=>if(bo (J l) (J c)&&Nat.blt 0 (J c))=O then Z (.d (.str l),[(0,⟨0,Z 0,.box 228 [bS,.sl 1 0 (J c)]⟩),(1,⟨0,Z 1,.gone⟩)]) else Y
  |Y=>Y):=rfl
 show Xs [.ref 0 0 0] (bO (Z 0) (Z 1) bS c)=_;rw[B,e1];exact zau F)
theorem qrH:FD X 134 hWS:=FD.mk (.cons qrG .nil) .nil (by
 intro ps R E B;obtain⟨p,c,s,rfl,rfl,h,⟨G,F⟩,A⟩:=B;have l: ∀n,E (.cy [iD n,.d .wU],[(0,⟨0,Z 0,.box 228 [bS,.sl 1 0 (J c+J (aa bD s))]⟩),(1,⟨0,Y,.arr 5 C (ab (J c) (aa bD c)++aa bD s)⟩)]):=λn=>by rw[qdR,zaa];have:=A (c++s) n rfl;simpa only[bO,u8R,zaf] using this
 rcases h with rfl |rfl
 ·(rw[<-qmH];delta cp jO BZ Z4v Z4u Z4y oI)
  exact⟨_,c,rfl,rfl,.inl rfl,ao (XC (by simp;omega) (by simp;omega) _ (by simp)) (l _)⟩
 ·(rw[<-qmI];delta cp jO BZ Z4v Z4u Z4z oI)
  exact⟨_,c,rfl,rfl,.inr rfl,ao (XC (by simp;omega) (by simp;omega) _ (by simp)) (l _)⟩)
theorem SmX.e{l}(h:SmX l):SmE l:=⟨by have:=h.1;omega,λe A=>by have:=h.2 e A;omega⟩
end
def O6 s:=(Lib.decodeL s).1=65533/\(Lib.decodeL s).2=1
def Yu:bc:=λps R E=> ∃s,ps=[sD s]/\R=[]/\(s≠[]/\J s<=2000000)/\(O6 s-> ∀c n,E (.cy [iD c,iD n,lG C],[]))/\(¬O6 s-> ∀(c:Int) (n:Int),n=(Lib.decodeL s).2->1<=n->n.toNat<=J s->E (.cy [iD c,iD n,lG O],[]))
def Z4W:=ue DD (4:Int)
def Z4T s:=(↑(UInt8.toNat (List.getD s 3 (0:UInt8))):Int)
def Lz s:=(↑(UInt8.toNat (List.getD s 2 (0:UInt8))):Int)
def Jh s:=(↑(UInt8.toNat (List.getD s 1 (0:UInt8))):Int)
def Fp s:=(↑(UInt8.toNat (List.getD s 0 (0:UInt8))):Int)
def Z4R s:=(Fp s-(240:Int))*(64:Int)
def Z4S s:=(Z4R s+Jh s-(128:Int))*(64:Int)
def Z4U s:=(Z4S s+Lz s-(128:Int))*(64:Int)
def Z4V s:=Z4U s+Z4T s-(128:Int)
def Z4X(E:P×List (Nat×En)->Prop) s:=E (P.cy (Cs (ue DD (Z4V s))::Cs Z4W::Q0),[])
def Z4M s:=decide ((0:Int)<=(1:Int)+(1:Int)/\(1:Int)+(1:Int)<BZ s)
def Z4G s:=decide (Jh s>=(192:Int))
def Z4F s:=decide (Jh s<(128:Int))
def Z4E s:=decide (Z7<=Jh s/\Jh s<=Z8)
def Z4C s:=decide ((0:Int)<=(1:Int)/\(1:Int)<BZ s)
def yW(E:P×List (Nat×En)->Prop):=E (P.cy (Cs Z5::Cs Z5::Nb),[])
def Z4Y s E:=bif decide (Fp s>=(240:Int)) then bif decide (Fp s<(245:Int)) then ob (decide (Z7<=Fp s-(240:Int)/\Fp s-(240:Int)<=Z8)) (bif decide (BZ s<(4:Int)) then yW E else ob (Z4C s) (ob (Z4E s) (bif Z4F s then yW E else bif Z4G s then yW E else ob (decide (Z7<=Z4R s/\Z4R s<=Z8)) (ob (decide (Z7<=Z4R s+Jh s/\Z4R s+Jh s<=Z8)) (ob (decide (Z7<=Z4R s+Jh s-(128:Int)/\Z4R s+Jh s-(128:Int)<=Z8)) (ob (Z4M s) (ob (decide (Z7<=Lz s/\Lz s<=Z8)) (bif decide (Lz s<(128:Int)) then yW E else bif decide (Lz s>=(192:Int)) then yW E else ob (decide (Z7<=Z4S s/\Z4S s<=Z8)) (ob (decide (Z7<=Z4S s+Lz s/\Z4S s+Lz s<=Z8)) (ob (decide (Z7<=Z4S s+Lz s-(128:Int)/\Z4S s+Lz s-(128:Int)<=Z8)) (ob (decide ((0:Int)<=(1:Int)+(1:Int)+(1:Int)/\(1:Int)+(1:Int)+(1:Int)<BZ s)) (ob (decide (Z7<=Z4T s/\Z4T s<=Z8)) (bif decide (Z4T s<(128:Int)) then yW E else bif decide (Z4T s>=(192:Int)) then yW E else ob (decide (Z7<=Z4U s/\Z4U s<=Z8)) (ob (decide (Z7<=Z4U s+Z4T s/\Z4U s+Z4T s<=Z8)) (ob (decide (Z7<=Z4V s/\Z4V s<=Z8)) (bif decide (Z4V s<(65536:Int)) then yW E else bif decide (Z4V s>(1114111:Int)) then yW E else bif decide (Z4V s>=(55296:Int)) then bif decide (Z4V s<(57344:Int)) then yW E else Z4X E s else Z4X E s)))))))))))))))) else yW E else yW E
def Z4L s:=(Fp s-(224:Int))*(64:Int)
def Z4O s:=(Z4L s+Jh s-(128:Int))*(64:Int)
def Z4P s:=Z4O s+Lz s-(128:Int)
def Z4Q(E:P×List (Nat×En)->Prop) s:=E (P.cy (Cs (ue DD (Z4P s))::Cs (ue DD (3:Int))::Q0),[])
def Z4Z s E:=bif decide (Fp s>=(224:Int)) then bif decide (Fp s<(240:Int)) then ob (decide (Z7<=Fp s-(224:Int)/\Fp s-(224:Int)<=Z8)) (bif decide (BZ s<(3:Int)) then yW E else ob (Z4C s) (ob (Z4E s) (bif Z4F s then yW E else bif Z4G s then yW E else ob (decide (Z7<=Z4L s/\Z4L s<=Z8)) (ob (decide (Z7<=Z4L s+Jh s/\Z4L s+Jh s<=Z8)) (ob (decide (Z7<=Z4L s+Jh s-(128:Int)/\Z4L s+Jh s-(128:Int)<=Z8)) (ob (Z4M s) (ob (decide (Z7<=Lz s/\Lz s<=Z8)) (bif decide (Lz s<(128:Int)) then yW E else bif decide (Lz s>=(192:Int)) then yW E else ob (decide (Z7<=Z4O s/\Z4O s<=Z8)) (ob (decide (Z7<=Z4O s+Lz s/\Z4O s+Lz s<=Z8)) (ob (decide (Z7<=Z4P s/\Z4P s<=Z8)) (bif decide (Z4P s<(2048:Int)) then yW E else bif decide (Z4P s>(1114111:Int)) then yW E else bif decide (Z4P s>=(55296:Int)) then bif decide (Z4P s<(57344:Int)) then yW E else Z4Q E s else Z4Q E s))))))))))) else Z4Y s E else Z4Y s E
def Z4J:=ue DD (2:Int)
def Z4H s:=(Fp s-(192:Int))*(64:Int)
def Z4I s:=Z4H s+Jh s-(128:Int)
def Z4K(E:P×List (Nat×En)->Prop) s:=E (P.cy (Cs (ue DD (Z4I s))::Cs Z4J::Q0),[])
theorem qdS s E:(ob (decide ((0:Int)<=(0:Int)/\(0:Int)<BZ s)) (ob (decide (Z7<=Fp s/\Fp s<=Z8)) (bif decide (Fp s<(128:Int)) then E (P.cy (Cs (ue DD (Fp s))::Cs Zf::Q0),[]) else bif decide (Fp s>=(194:Int)) then bif decide (Fp s<(224:Int)) then ob (decide (Z7<=Fp s-(192:Int)/\Fp s-(192:Int)<=Z8)) (bif decide (BZ s<(2:Int)) then yW E else ob (Z4C s) (ob (Z4E s) (bif Z4F s then yW E else bif Z4G s then yW E else ob (decide (Z7<=Z4H s/\Z4H s<=Z8)) (ob (decide (Z7<=Z4H s+Jh s/\Z4H s+Jh s<=Z8)) (ob (decide (Z7<=Z4I s/\Z4I s<=Z8)) (bif decide (Z4I s>(1114111:Int)) then yW E else bif decide (Z4I s>=(55296:Int)) then bif decide (Z4I s<(57344:Int)) then yW E else Z4K E s else Z4K E s)))))) else Z4Z s E else Z4Z s E)))=(aO [] [] 202 [sD s] []) E:=by kernel_rfl
abbrev rsH(s:List UInt8)(o:List (List UInt8)):S:=⟨29,[(0,sD s),(4,.sl 0 0 (J o))],[(0,⟨0,Y,.arr 9 C (o.map FS)⟩)]⟩
def Ji o:=we 0 Y (AS (9:I) C (aa FS o))
def Z55 o:=[(0,Ji o)]
def T5 h:=Lib.validD h=O
def Z52(E:P×List (Nat×En)->Prop):=E (P.cy (ZV::Z4t),[(0,Vk)])
def Yv h:=Lib.validD h=C
def Z50 h:=AD 29 [(0,Cs (FS h)),(4,ZV)] [(0,Vk)]
def Z56(E:P×List (Nat×En)->Prop) o:=E (P.cy (Cs (ue DD (↑(p8 o):Int))::QR),[])
def Z58 o n s:=p8 o+J [FS (List.drop 0 (ab (Zs n) s))]
def Rl o:=(1,Ji o)
theorem qmK s o E:(bif decide (BZ s>(0:Int)) then∃h,lH s=lH h/\Zn/\(h≠[]/\HW h)/\(O6 h-> ∀(_ _:Int),E (Q2,AD 29 [(2,ZV),(3,Cs (ue DD (60:Int))),(4,If 1 0 (p8 o))] [(0,Vk),Rl o]))/\(¬O6 h-> ∀(_ n:Int),n=(↑(bl (Lib.decodeL h)):Int)->(1:Int)<=n->Zs n<=jO h->ob (decide ((0:Int)<=n/\n<=BZ s)) (ob (gr (p8 o) (J (aa FS o))&&aB (Z58 o n s) 16) (ob (decide ((0:Int)<=n/\n<=BZ s)) (E (xz,AD 29 [(0,Cs (FS (List.drop (Zs n) (ab (jO s) s)))),(4,If 0 0 (Z58 o n s))] [(0,we 0 Y (AS (9:I) C (ab (p8 o) (aa FS o)++[FS (List.drop 0 (ab (Zs n) s))])))]))))) else E (CE 0,AD 29 [(4,If 0 0 (p8 o))] (Z55 o)))=(aG [(202,Yu)] [] 148 2 (rsH s o)) E:=by kernel_rfl
def LA n h l A B:=
 if h<128 then(h,1) else
 if h/32=6/\1<n/\l/64=2 then(if 128<=(h%32)*64+l%64 then((h%32)*64+l%64,2) else(65533,1)) else
 if h/16=14/\(1<n/\l/64=2)/\2<n/\A/64=2 then(if 2048<=(h%16)*4096+(l%64)*64+A%64/\((h%16)*4096+(l%64)*64+A%64<55296\/57344<=(h%16)*4096+(l%64)*64+A%64/\(h%16)*4096+(l%64)*64+A%64<=1114111) then((h%16)*4096+(l%64)*64+A%64,3) else(65533,1)) else
 if h/8=30/\(1<n/\l/64=2)/\(2<n/\A/64=2)/\3<n/\B/64=2 then(if 65536<=(h%8)*262144+(l%64)*4096+(A%64)*64+B%64/\((h%8)*262144+(l%64)*4096+(A%64)*64+B%64<55296\/57344<=(h%8)*262144+(l%64)*4096+(A%64)*64+B%64/\(h%8)*262144+(l%64)*4096+(A%64)*64+B%64<=1114111) then((h%8)*262144+(l%64)*4096+(A%64)*64+B%64,4) else(65533,1)) else(65533,1)
theorem Yw(s:List UInt8)(k:Nat):(gz s.toArray).get! k=s.getD k 0:=by
 show s.toArray.getD k 0=_;simp[Array.getD];split
 next h=>simp[h]
 rename_i h;simp[zbq (by omega:J s<=k)]
theorem T6 s:Lib.decodeL s=LA (J s) (s.getD 0 0).toNat (s.getD 1 0).toNat (s.getD 2 0).toNat (s.getD 3 0).toNat:=by
 have l:(gz s.toArray).size=J s:=rfl;have h: ∀c:Nat,Utf8.valid (c:Int)=decide (c<55296\/57344<=c/\c<=1114111):=λc=>by unfold Utf8.valid;rw[zbf];simp only[zbn,zac,zam];omega
 unfold Lib.decodeL Utf8.decode LA;simp only[Yw,zaE,l,h,zac,zbV,zam,ge_iff_le,Utf8.runeError,and_assoc]
section
variable{X:XF}
theorem qdT:FD X 202 Yu:=FD.mk .nil .nil (by
 intro ps R E Q;obtain⟨s,rfl,rfl,⟨cU,L⟩,A,l⟩:=Q
 (rw[<-qdS];delta ZT Q0 Z4W Z4T Lz Jh Fp Z4R Z4S Z4U Z4V Z4X jO BZ Z4M Z4G Z4F Z8 Z7 Z4E Z4C Z2 Nb Z5 yW Z4Y Z4L Z4O Z4P Z4Q Z4Z Z4J Z4H Z4I Z4K Zf)
 have XZ:0<J s:=zcp.2 cU;unfold O6 at A l;rw[T6] at A l;have F:=(s.getD 0 0).toNat_lt;have G:=(s.getD 1 0).toNat_lt;have H:=(s.getD 2 0).toNat_lt;have T7:=(s.getD 3 0).toNat_lt;generalize (s.getD 0 0).toNat=b0 at F A l;generalize (s.getD 1 0).toNat=b1 at G A l;generalize (s.getD 2 0).toNat=b2 at H A l;generalize (s.getD 3 0).toNat=b3 at T7 A l;generalize J s=n at XZ L A l;have bad:LA n b0 b1 b2 b3=(65533,1)->E (.cy [iD 0,iD 0,lG C],[]):=λh=>A (by rw[h];exact⟨rfl,rfl⟩) 0 0;have B:b0<128-> ∀c,E (.cy [iD c,iD 1,lG O],[]):=λh c=>by
  have e:LA n b0 b1 b2 b3=(b0,1):=by unfold LA;rw[zau h]
  rw[e] at l;exact l (λh=>by have:=h.1;simp only at this;omega) c 1 rfl (by omega) (by omega)
 have qiU: ∀c (k:Int),(LA n b0 b1 b2 b3).2=k.toNat->2<=k->k.toNat<=n->E (.cy [iD c,iD k,lG O],[]):=λc k V h4 U=>l (λh=>by rw[V] at h;omega) c k (by omega) (by omega) U;clear A l
 repeat' (first |refine bu (by omega) ?_ |refine bj (λh=> ?_) (λh=> ?_))
 all_goals first
  | (refine bad ?_;unfold LA;(repeat' split);all_goals first |rfl | (exfalso;omega))
  |exact B (by omega) _
  | (refine qiU _ _ ?_ (by omega) (by omega);unfold LA;(repeat' split);all_goals first |rfl | (exfalso;omega)))
end
abbrev aN:=Int×Int
structure bq where
 kind:Int
 node:ak
 parent:ak
 name:List UInt8
 dir:Bool
 cV:List aN
 after:ak
 elem:ak
 text:List UInt8
 elems:List ak
structure au where
 s:aN
 n:Int
 deps:List Int
 je:aN
 ops:List bq
abbrev pq(a b:aN):=ug a.1 a.2 b.1 b.2
abbrev LB(a:aN):=BM a.1 a.2
abbrev rgX(x:ak):=bt x.1 x.2.1 x.2.2
abbrev Jj(x:ak):aN:=(x.1,x.2.1)
def uu n f:=(List.range n).all f
theorem LC{n f}:uu n f=O↔ ∀i,i<n->f i=O:=by simp[uu]
theorem Yx{n i f}(l:i<n)(h:f i=C):uu n f=C:=by grind [uu,LC]
theorem Yy{n f}(h: ∀i,i<n->f i=O):uu n f=O:=LC.2 h
def fL s k x:=rgX x&&(pq (Jj x) s ||Jj x==s&&decide (x.2.2<k))
def DX s k x:=x==aJ ||fL s k x
def Cc s (l:List aN) i:=LB (l.getD i (0,0))&& !pq s (l.getD i (0,0))&&(i==0 ||pq (l.getD (i-1) (0,0)) (l.getD i (0,0)))
def LF s l:=uu (J l) (Cc s l)&&decide (J l<=200)
def elG s k (l:List ak) i:=fL s k (l.getD i aJ)&&(i==0 ||kr (l.getD (i-1) aJ) (l.getD i aJ))
def T8 s k l:=uu (J l) (elG s k l)&&decide (1<=J l/\J l<=2000)
def Yz(o:bq) h A B run l:=
 (h ||o.parent==aJ&&o.name==[])&&(A || !o.dir)&&(B ||J o.cV==0)&&(run ||o.after==aJ&&o.elem==aJ&&o.text==[])&&(l ||J o.elems==0)
def yX o:=Yz o (o.kind==0 ||o.kind==1) (o.kind==0) (o.kind==2) (o.kind==3) (o.kind==4)
def HX(s:List UInt8):Int:=Lib.runeCount ⟨⟨s⟩⟩
def LG s:=Lib.validD s&&decide (1<=HX s/\HX s<=2000)
def Nd s k o:=
 if yX o=C then Y
 else if o.kind=0 then(if o.node=(s.1,s.2,k)/\DX s k o.parent=O/\cR o.name=O then Z 1 else Y)
 else if o.kind=1 then(if fL s k o.node=O/\DX s k o.parent=O/\cR o.name=O then Z 0 else Y)
 else if o.kind=2 then(if fL s k o.node=O/\LF s o.cV=O then Z 0 else Y)
 else if o.kind=3 then(if fL s k o.node=O/\DX s k o.after=O/\o.elem=(s.1,s.2,k)/\LG o.text=O then Z (HX o.text) else Y)
 else if o.kind=4 then(if fL s k o.node=O/\T8 s k o.elems=O then Z 0 else Y)
 else Y
def sP(s:aN):Int->List bq->Bool
 |_,[]=>O
 |k,o::r=>match Nd s k o with |Z n=>sP s (k+n) r |Y=>C
def hdG(g:au):=LB g.s&&decide (1<=g.n/\g.n<=1099511627776)&&gO g.deps&&(j8 g.deps g.s.2==g.n-1)
def fu g:=hdG g&&(if g.je≠(0,0) then LB g.je&&pq g.je g.s&&J g.ops==0 else decide (1<=J g.ops/\J g.ops<=200)&&sP g.s 0 g.ops)
def xP:Nat->List UInt8->List (List UInt8)
 |0,_=>[]
 |n+1,s=>if s=[] then [] else s.take (Lib.decodeL s).2::xP n (s.drop (Lib.decodeL s).2)
def DY s:=xP (J s) s
theorem sj{s}(h:s≠[]):1<=(Lib.decodeL s).2:=by refine Lib.decode_width_pos ⟨s.toArray⟩ 0 ?_;exact zcp.2 h
theorem xQ: ∀n m s,J s<=n->J s<=m->xP n s=xP m s
 |0,0,_,_,_=>rfl
 |0,m+1,s,h,_=>by have:s=[]:=zaz (by omega);subst this;rfl
 |n+1,0,s,_,h=>by have:s=[]:=zaz (by omega);subst this;rfl
 |n+1,m+1,s,h1,h2=>by
  unfold xP;split
  ·rfl
  rename_i l;have:=sj l;rw[xQ n m _ (by rw[zaX];omega) (by rw[zaX];omega)]
theorem Rm:DY []=[]:=rfl
theorem Cd{s}(h:s≠[]):DY s=s.take (Lib.decodeL s).2::DY (s.drop (Lib.decodeL s).2):=by have:=sj h;unfold DY;rw[xQ (J s) ((J s-1)+1) s (zag _) (by omega)];show(if s=[] then [] else _)=_;rw[zat h];rw[xQ (J s-1) (J (s.drop (Lib.decodeL s).2)) _ (by rw[zaX];omega) (zag _)]
theorem qdU{s}(h:s≠[]):Lib.runeCount ⟨s.toArray⟩=1+Lib.runeCount ⟨(s.drop (Lib.decodeL s).2).toArray⟩:=by
 have B:0<J s:=zcp.2 h;have H:=sj h;have A:(gz s.toArray).size=J s:=rfl;have e1:Lib.runeCount ⟨s.toArray⟩=Lib.runeCountFrom ⟨s.toArray⟩ ((J s-1)+1) 0:=by unfold Lib.runeCount;grind
 rw[e1];unfold Lib.runeCountFrom;rw[zau (by exact B)];have F:(gz (s.drop (Lib.decodeL s).2).toArray)=(gz s.toArray).extract (Lib.decodeL s).2 (gz s.toArray).size:=by apply ByteArray.ext;simp[ByteArray.data_extract,A];rw[<-zaX,zan]
 have G:Lib.runeCount ⟨(s.drop (Lib.decodeL s).2).toArray⟩=Lib.runeCountFrom ⟨s.toArray⟩ (J s-(Lib.decodeL s).2) (Lib.decodeL s).2:=by
  unfold Lib.runeCount;have l:(gz (s.drop (Lib.decodeL s).2).toArray).size=J s-(Lib.decodeL s).2:=by simp_all
  rw[l,F,Lib.tail_count];rfl
 rw[G];show 1+Lib.runeCountFrom _ (J s-1) (0+(Lib.decodeL s).2)=_;rw[zaE];congr 1;exact Lib.fuel_enough _ _ _ _ (by omega) (by omega)
theorem O7: ∀n s,J s<=n->Lib.runeCount ⟨s.toArray⟩=J (DY s)
 |0,s,h=>by have:s=[]:=zaz (by omega);subst this;rfl
 |n+1,s,h=>by
  by_cases l:s=[]
  ·subst l;rfl
  have:=sj l;rw[qdU l,Cd l,zav,O7 n _ (by rw[zaX];omega)];omega
theorem Ce s:HX s=(J (DY s):Nat):=by unfold HX;rw[<-O7 (J s) s (zag _)]
theorem HY s:J (DY s)<=J s:=by rw[<-O7 (J s) s (zag _)];exact Lib.runeCount_le _
def qmM:S->K (PX×S):=λh E=> ∃s,h=rsH s []/\J s<=2000000/\(Lib.validD s=C-> ∀o,E (.ret,⟨29,[(2,.sl 0 0 0),(3,iD 60),(4,.sl 1 0 (J o))],[(0,⟨0,Y,.arr 9 C []⟩),(1,⟨0,Y,.arr 9 C (o.map FS)⟩)]⟩))/\(Lib.validD s=O-> ∀o,o=DY s->E (.exit 0,⟨29,[(4,.sl 0 0 (J o))],[(0,⟨0,Y,.arr 9 C (o.map FS)⟩)]⟩))
def HZ:bc:=λps R E=> ∃s,ps=[sD s]/\R=[]/\J s<=2000000/\(Lib.validD s=C->E (.cy [.sl 0 0 0,iD 60],[(0,⟨0,Y,.arr 9 C []⟩)]))/\(Lib.validD s=O-> ∀o,o=DY s->E (.cy [.sl 0 0 (J o),iD 0],[(0,⟨0,Y,.arr 9 C (o.map FS)⟩)]))
def Rn:bc:=λps R E=> ∃s,ps=[sD s]/\R=[]/\J s<=2000000/\(Lib.validD s=C->E (.cy [iD 0,iD 60],[]))/\(Lib.validD s=O-> ∀n,n=HX s->E (.cy [iD n,iD 0],[]))
def Z59 h (E:P×List (Nat×En)->Prop):= ∀o,o=DY h->E (P.cy (If 0 0 (p8 o)::QR),Z55 o)
theorem qmN s E:(∃h,Z50 s=Z50 h/\HW h/\(Yv h-> ∀(_:List (List UInt8)),Z52 E)/\(T5 h->Z59 h E))=(aO [] [(2,ah (aV 148 2) qmM)] 148 [sD s] []) E:=by kernel_rfl
theorem qmO s E:(∃h,lH s=lH h/\Zn/\HW h/\(Yv h->E (P.cy (Cs Z5::Z4t),[]))/\(T5 h-> ∀o,o=DY h->Z56 E o))=(aO [(148,HZ)] [] 190 [sD s] []) E:=by kernel_rfl
section
variable{X:XF}
theorem qdV:LD X 148 2 (ah (aV 148 2) qmM):=LD.par (.cons qdT .nil) .nil
 (A:=List UInt8) (B:=List UInt8×List (List UInt8)) (λ_ b=>rsH b.1 b.2)
 (λa b=>J a<=2000000/\J b.1+J b.2<=J a/\Lib.validD b.1=Lib.validD a/\b.2++DY b.1=DY a)
 (λ_ b=>J b.1)
 (λa x=>(Lib.validD a=C/\ ∃o:List (List UInt8),x=(.ret,⟨29,[(2,.sl 0 0 0),(3,iD 60),(4,.sl 1 0 (J o))],[(0,⟨0,Y,.arr 9 C []⟩),(1,⟨0,Y,.arr 9 C (o.map FS)⟩)]⟩))\/(Lib.validD a=O/\ ∃o:List (List UInt8),o=DY a/\x=(.exit 0,⟨29,[(4,.sl 0 0 (J o))],[(0,⟨0,Y,.arr 9 C (o.map FS)⟩)]⟩)))
 (by
  rintro a ⟨s,o⟩ ⟨ha,hl,L,F⟩;dsimp only at*
  (rw[<-qmK];delta Ji Z55 Zs p8 Z58 jO Rl Vk ZV HW Zn lH BZ)
  refine bj (λh=> ?_) λh=> ?_
  ·have R:s≠[]:=λe=>by subst e;simp at h
   have H:=Lib.validD_step s R;refine⟨s,rfl,rfl,⟨R,by omega⟩,λG c n=> .inl ⟨?_,o,rfl⟩,λG c n U V hle=> ?_⟩
   ·unfold O6 at G;rw[<-L,H,zau G]
   unfold O6 at G;rw[zat G] at H;refine bu (by omega) (ao (XC (by simp;omega) (by simp;omega) _ (by simp)) (bu (by omega) ?_));refine⟨_,?_,(s.drop n.toNat,o++[s.take n.toNat]),?_,⟨ha,?_,?_,?_⟩,rfl⟩
   ·dsimp only;rw[zaX];omega
   ·rw[zan,zak (l:=aa FS o) (by simp),zcT];simp only[rsH,zaC,zaS,zcw,zaf,zav,zaI]
   ·dsimp only;rw[zaX,zaf];simp;omega
   ·dsimp only;rw[<-L,H,U];rfl
   dsimp only;rw[<-F,Cd R,zaW,U];rfl
  have:s=[]:=zaz (by omega);subst this;exact .inr ⟨L.symm.trans Lib.validD_nil,o,by rw[<-F,Rm,zaL],rfl⟩)
 (by
  rintro st E ⟨s,rfl,hs,V,h2⟩;refine⟨s,(s,[]),rfl,⟨hs,by simp,rfl,rfl⟩,?_⟩;rintro x (⟨Q,o,rfl⟩| ⟨Q,o,h4,rfl⟩)
  ·exact V Q o
  exact h2 Q o h4)
theorem LH:FD X 148 HZ:=FD.mk .nil (.cons qdV .nil) (by
 intro ps R E A;obtain⟨s,rfl,rfl,l,F,B⟩:=A
 (rw[<-qmN];delta Ji Z55 Z5 QR p8 Z59 T5 Vk Z4t ZV Z52 Yv jO HW Z50)
 exact⟨s,rfl,l,λh o=>F h,λh o=>B h o⟩)
theorem qdW:FD X 190 Rn:=FD.mk (.cons LH .nil) .nil (by
 intro ps R E B;obtain⟨s,rfl,rfl,l,G,F⟩:=B
 (rw[<-qmO];delta Z5 QR p8 Z56 T5 Z4t Yv jO HW Zn lH)
 refine⟨s,rfl,rfl,l,λh=>G h,λh o A=>F h _ ?_⟩;rw[A,Ce])
theorem qiV:FD X 115 Rn:=FD.mk (.cons Rk (.cons qdQ .nil)) .nil (by
 intro ps R E A;obtain⟨s,rfl,rfl,l,F,B⟩:=A
 (rw[<-qmE];delta Z5 QR Z4t jO HW Zn lH)
 refine⟨s,rfl,rfl,l,az (λh=>F (by simpa using h)) λh=>⟨s,rfl,rfl,l,B (by simpa using h) _ rfl⟩⟩)
end
variable{X:XF}
theorem LD.idx{H hk f id g}(hH:HD X H)(V:TC X f hk)
  {A B:Type} (hd:A->B->Int->S) (len:A->Nat) (Inv:A->Nat->B->Prop) (h:A->PX×S->Prop)
  (R: ∀a b (k:Int) E,0<=k->k<len a->k.toNat<len a->Inv a k.toNat b->(∀l,Inv a (k.toNat+1) l->E (.normal,hd a l (k+1)))->(∀x,x.1≠ .normal->h a x->E x)->aG H hk f id (hd a b k) E)
  (F: ∀a b (k:Int) E,k=len a->Inv a (len a) b->(∀x,x.1≠ .normal->h a x->E x)->aG H hk f id (hd a b k) E)
  (hg: ∀s E,g s E-> ∃a b,s=hd a b 0/\Inv a 0 b/\ ∀x,h a x->E x) (hu:uniq PR f=O:=by kernel_rfl):LD X f id (ah (aV f id) g):=
 LD.par hH V (hu:=hu) (A:=A) (B:=B×Int) (λa b=>hd a b.1 b.2) (λa b=>0<=b.2/\b.2.toNat<=len a/\Inv a b.2.toNat b.1) (λa b=>(len a-b.2).toNat) h
  (by
   rintro a ⟨b,k⟩ ⟨L,Q,G⟩;have bF: ∀x:PX×S,x.1≠ .normal->h a x->roundPost ((len a-k).toNat) (λm s=> ∃l:B×Int,s=hd a l.1 l.2/\(0<=l.2/\l.2.toNat<=len a/\Inv a l.2.toNat l.1)/\m=(len a-l.2).toNat) (h a) x:=by
    rintro⟨e,s⟩ cU F;cases e with
    |normal=>grind
    |exit i=>exact F
    |ret=>exact F
   by_cases hk:k<len a
   ·refine R a b k _ L hk (by omega) G (λl hb=> ?_) bF;exact⟨((len a:Int)-(k+1)).toNat,by omega,(l,k+1),rfl,⟨by grind,by grind,by grind⟩,rfl⟩
   grind)
  (by intro s E U;obtain⟨a,b,L,Q,G⟩:=hg s E U;exact⟨a,(b,0),L,⟨zbW _,by simp,Q⟩,G⟩)
theorem LD.find{H hk f id g}(hH:HD X H)(hl:TC X f hk)
  {A α:Type} (hd:A->Int->S) (h:A->List α) (t:A->Nat->α->Bool) (C:A->Prop) (rt:A->Int->PX×S) (F:A->PX×S) (G: ∀a k,(rt a k).1≠ .normal) (U: ∀a,(F a).1≠ .normal)
  (V: ∀a (k:Int) E (L:k.toNat<J (h a)),C a->0<=k->k<J (h a)->(t a k.toNat (h a)[k.toNat]=O->E (rt a k))->(t a k.toNat (h a)[k.toNat]=false->E (.normal,hd a (k+1)))->aG H hk f id (hd a k) E)
  (hx: ∀a (k:Int) E,C a->k=J (h a)->E (F a)->aG H hk f id (hd a k) E)
  (hg: ∀s E,g s E-> ∃a,s=hd a 0/\C a/\(∀i hi,0<=i->t a i.toNat (h a)[i.toNat]=O->(∀j (l:j<i.toNat),t a j ((h a)[j]'(by omega))=false)->E (rt a i))/\((∀j (l:j<J (h a)),t a j (h a)[j]=false)->E (F a))) (hu:uniq PR f=O:=by kernel_rfl):LD X f id (ah (aV f id) g):=
 LD.idx hH hl (hu:=hu) (A:=A) (B:=Unit) (λa _ k=>hd a k) (λa=>J (h a)) (λa k _=>C a/\ ∀j (l:j<J (h a)),j<k->t a j (h a)[j]=false)
  (λa x=>(∃(i:Int) (hi:i.toNat<J (h a)),0<=i/\t a i.toNat (h a)[i.toNat]=O/\(∀j (l:j<i.toNat),t a j ((h a)[j]'(by omega))=false)/\x=rt a i)\/((∀j (l:j<J (h a)),t a j (h a)[j]=false)/\x=F a))
  (by intro a _ k E R hk L ⟨hC,hI⟩ hn ho;refine V a k E L hC R hk (λQ=>ho _ (G a k) (.inl ⟨k,L,R,Q,λj l=>hI j (by omega) l,rfl⟩)) λQ=>hn () ⟨hC,λj l hjk=> ?_⟩;grind)
  (by grind)
  (by intro s E hp;obtain⟨a,h1,h2,h3,h4⟩:=hg s E hp;refine⟨a,(),h1,⟨h2,λj _ l=>by omega⟩,?_⟩;grind)
end Pi
