/- The texts X3Shelf XBld K3 X3 S3 FrP Fr1 Fr2 QP Fr1H Fr2H. -/
import Derived.Test.YtfelfooeclnbiaaEbp
import Derived.Shelf.LaysM
import Derived.Shelf.LaysC
import Derived.Shelf.Strings.OnBuilder
import Derived.Shelf.Strings.SlTrimAscii
import Derived.Shelf.Small.Wraps
import Derived.Shelf.Strconv.AtoiAll
import Derived.Shelf.Strconv.Itoa3
import Derived.Shelf.Strings.Cut
import Derived.Shelf.Strings.Split
import Derived.Shelf.Strings.LastIndexAll
import Derived.Shelf.Unicode.ValidAny
import Derived.Shelf.Utf8.RuneCount
import Derived.Test.YtfelfooeclnbiaaProg
import Derived.KernelRfl
namespace Go.Proofs
open Go.Shelf
def Try.aB:Go.Shelf.Ren:=⟨λ|169=>25 |n=>n,λ|70=>70 |9=>9 |0=>0 |72=>72 |37=>46 |127=>79 |3=>3 |5=>5 |n=>n,λ|n=>n⟩
theorem Try.pc:Go.Proofs.Lays.n169 Try.prog Try.aB:={
 mixed:=by kernel_rfl
 f169:=Try.func25.trans (congrArg some (by kernel_rfl))
 t0:=Try.underlying0
 a0:=Try.isAgg0
 z0:=Try.sizeOf0
 v0:=Try.zeroValue0
 t3:=Try.underlying3
 a3:=Try.isAgg3
 z3:=Try.sizeOf3
 v3:=Try.zeroValue3
 t9:=Try.underlying9
 a9:=Try.isAgg9
 z9:=Try.sizeOf9
 v9:=Try.zeroValue9
 t37:=Try.underlying46
 a37:=Try.isAgg46
 z37:=Try.sizeOf46
 v37:=Try.zeroValue46
 t70:=Try.underlying70
 a70:=Try.isAgg70
 z70:=Try.sizeOf70
 v70:=Try.zeroValue70
 t72:=Try.underlying72
 a72:=Try.isAgg72
 z72:=Try.sizeOf72
 v72:=Try.zeroValue72
 t127:=Try.underlying79
 a127:=Try.isAgg79
 z127:=Try.sizeOf79
 v127:=Try.zeroValue79}
theorem Try.cU:Builder.Extra Try.prog Try.aB:={
 sizeBuilder:=by kernel_rfl
 liesBuilder:=by kernel_rfl
 t5:=Try.underlying5
 a5:=Try.isAgg5
 z5:=Try.sizeOf5
 v5:=Try.zeroValue5
 infoByte:=by kernel_rfl
 cellsByte:=by kernel_rfl
 sizeByte:=by kernel_rfl
 neB5:=by decide}
open Go.RowKit in
theorem Try.Builder_String(B b:Nat)(l:List UInt8)(w:World)(h:Lib.IsBuilder 72 5 B b (Lib.byteCells l) w)(h0:l≠[]):
 Calls Try.prog 25 #[.pointer (some ⟨b,0,none⟩)] w λe w'=>e= .returned (.string ⟨l.toArray⟩)/\Below B w w':=Any.Builder_String Try.pc Try.cU B b l w h h0
def Try.kQ:Go.Shelf.Ren:=⟨λ|156=>17 |165=>23 |166=>24 |169=>25 |240=>26 |241=>27 |276=>28 |277=>29 |n=>n,λ|31=>59 |9=>9 |3=>3 |4=>4 |0=>0 |20=>20 |72=>72 |76=>76 |70=>70 |37=>46 |75=>75 |127=>79 |164=>80 |5=>5 |80=>78 |n=>n,λ|n=>n⟩
theorem Try.sI:Go.Proofs.Lays.n156 Try.prog Try.kQ:={
 mixed:=by kernel_rfl
 f156:=Try.func17.trans (congrArg some (by kernel_rfl))
 f165:=Try.func23.trans (congrArg some (by kernel_rfl))
 f166:=Try.func24.trans (congrArg some (by kernel_rfl))
 f169:=Try.func25.trans (congrArg some (by kernel_rfl))
 f240:=Try.func26.trans (congrArg some (by kernel_rfl))
 f241:=Try.func27.trans (congrArg some (by kernel_rfl))
 f276:=Try.func28.trans (congrArg some (by kernel_rfl))
 f277:=Try.func29.trans (congrArg some (by kernel_rfl))
 t0:=Try.underlying0
 a0:=Try.isAgg0
 z0:=Try.sizeOf0
 v0:=Try.zeroValue0
 t3:=Try.underlying3
 a3:=Try.isAgg3
 z3:=Try.sizeOf3
 v3:=Try.zeroValue3
 t4:=Try.underlying4
 a4:=Try.isAgg4
 z4:=Try.sizeOf4
 v4:=Try.zeroValue4
 t9:=Try.underlying9
 a9:=Try.isAgg9
 z9:=Try.sizeOf9
 v9:=Try.zeroValue9
 t20:=Try.underlying20
 a20:=Try.isAgg20
 z20:=Try.sizeOf20
 v20:=Try.zeroValue20
 t31:=Try.underlying59
 a31:=Try.isAgg59
 z31:=Try.sizeOf59
 v31:=Try.zeroValue59
 t37:=Try.underlying46
 a37:=Try.isAgg46
 z37:=Try.sizeOf46
 v37:=Try.zeroValue46
 t70:=Try.underlying70
 a70:=Try.isAgg70
 z70:=Try.sizeOf70
 v70:=Try.zeroValue70
 t72:=Try.underlying72
 a72:=Try.isAgg72
 z72:=Try.sizeOf72
 v72:=Try.zeroValue72
 t75:=Try.underlying75
 a75:=Try.isAgg75
 z75:=Try.sizeOf75
 v75:=Try.zeroValue75
 t76:=Try.underlying76
 a76:=Try.isAgg76
 z76:=Try.sizeOf76
 v76:=Try.zeroValue76
 t127:=Try.underlying79
 a127:=Try.isAgg79
 z127:=Try.sizeOf79
 v127:=Try.zeroValue79
 t164:=Try.underlying80
 a164:=Try.isAgg80
 z164:=Try.sizeOf80
 v164:=Try.zeroValue80}
theorem Try.eS:Builder.Extra Try.prog Try.kQ:={
 sizeBuilder:=by kernel_rfl
 liesBuilder:=by kernel_rfl
 t5:=Try.underlying5
 a5:=Try.isAgg5
 z5:=Try.sizeOf5
 v5:=Try.zeroValue5
 infoByte:=by kernel_rfl
 cellsByte:=by kernel_rfl
 sizeByte:=by kernel_rfl
 neB5:=by decide}
open Go.RowKit in
theorem Try.strings_Join_none(a:Option Addr)(c:Nat)(sep:ByteArray)(w:World):
 Calls Try.prog 17 #[.slice a 0 c,.string sep] w λe w'=>e= .returned (.string ⟨#[]⟩)/\w'=w:=Any.strings_Join_none Try.sI Try.eS a c sep w
open Go.RowKit in
theorem Try.strings_Join(bk o c:Nat)(xs:List ByteArray)(sep:ByteArray)(w:World)(zo: ∀(j:Nat) x,xs[j]?=some x->w.cell? ⟨bk,o+j,none⟩=some (.string x))(xh:bk<w.heap.size)(hN:xs.length<=140737488355328)(jq:xs.length<=c)(hlen:(Lib.join (xs.map (·.data.toList)) sep.data.toList).length<=140737488355328):
 Calls Try.prog 17 #[.slice (some ⟨bk,o,none⟩) xs.length c,.string sep] w λe w'=>e= .returned (.string ⟨(Lib.join (xs.map (·.data.toList)) sep.data.toList).toArray⟩)/\Below w.heap.size w w':=Any.strings_Join Try.sI Try.eS bk o c xs sep w zo xh hN jq hlen
end Go.Proofs
namespace Pi
open Go Go.Proofs Go.RowKit Go.Shelf
def A1:List D->Option (List UInt8)
 | []=>some []
 | .int .u8 n::r=>if 0<=n/\n<256 then(match A1 r with |some l=>some (UInt8.ofNat n.toNat::l)|none=>none) else none
 |_=>none
theorem qy: ∀(es:List D) (l:List UInt8),A1 es=some l->es=l.map λb=>D.int .u8 (b.toNat:Int)
 | [],l,h=>by simp[A1] at h;subst h;rfl
 |x::r,l,h=>by
  unfold A1 at h;split at h
  next heq=>cases heq
  next n r' heq=>
   simp only[List.cons.injEq] at heq;obtain⟨rfl,rfl⟩:=heq;split at h
   ·rename_i hn;split at h
    next l' hl=>simp at h;subst h;rw[qy r l' hl];simp only[zaZ,List.cons.injEq,and_true];congr 1;simp only[UInt8.toNat_ofNat'];omega
    cases h
   cases h
  cases h
def rR:TF
 | [.ref 0 v 0],R=>match lk R 0 with
  |some e=>if Nat.beq e.aw v then(match e.obj with
   | .box 72 [.d .gf,x]=>some (.dR [],ins 0 ⟨e.aw,e.tag,.box 72 [.ref 0 v 0,x]⟩ R)
   | .box 72 [.ref 0 v' 0,_]=>if Nat.beq v' v then some (.dR [],R) else none
   |_=>none) else none
  |none=>none
 |_,_=>none
def zp:TF
 | [.ref 0 v 0],R=>match lk R 0 with
  |some e=>if Nat.beq e.aw v then(match e.obj with
   | .box 72 [_,.d .cV]=>some (.d (.str []),R)
   | .box 72 [_,.sl m vm len]=>(match lk R m with
    |some em=>if Nat.beq em.aw vm then(match em.obj with
     | .arr 5 false es=>(match A1 (es.take len) with
      |some l=>if Nat.beq l.length len&&Nat.blt 0 len then some (.d (.str l),ins m ⟨em.aw,em.tag,.gone⟩ R) else none
      |none=>none)
     |_=>none) else none
    |none=>none)
   |_=>none) else none
  |none=>none
 |_,_=>none
section
variable{w0:World}
theorem sJ{F:Nat->Prop}{w:World}{G:Nat->Value}{R:List (Nat×En)}:ao F w G R (.tuple #[]) (.dR []):= .dR [] [] rfl (λi v c hv=>by simp at hv)
theorem pd{w:World}{b:Nat}{cs:Array Value}{T:TypeId}{fr:Nat×Nat}(h:w.heap[b]?=some (.cells cs T fr))(i:Nat)(v:Value):(w.setCell ⟨b,i,none⟩ v).heap[b]?=some (.cells (cs.setIfInBounds i v) T fr):=by simp[World.setCell,zaV,h]
theorem iG{w:World}{b c i:Nat}(h:c≠b)(v:Value):(w.setCell ⟨b,i,none⟩ v).heap[c]?=w.heap[c]?:=by simp[World.setCell,zaV,zaP h]
set_option maxHeartbeats 1000000 in
set_option maxRecDepth 100000 in
theorem zq(b:Nat)(w:World)(h0:w.cell? ⟨b,0,none⟩=some (.pointer (some ⟨b,0,none⟩))):
  Calls Try.prog 26 #[.pointer (some ⟨b,0,none⟩)] w λe w'=>e= .returned (.tuple #[])/\w'=w:=by
 obtain⟨j,hj,_⟩:=zaj.1 (show(Try.prog.info? 72).map (·.size)=some 2 by kernel_rfl);have a72:=Try.isAgg72;have z72:=Try.sizeOf72;have v72:=Try.zeroValue72;have Cu:=run_underlying Try.underlying72;have a70:=Try.isAgg70;have z70:=Try.sizeOf70;have v70:=Try.zeroValue70;have Cv:=run_underlying Try.underlying70;have a4:=Try.isAgg4;have z4:=Try.sizeOf4;have v4:=Try.zeroValue4;have u4:=run_underlying Try.underlying4;have Cw:=run_underlying Try.underlying80;have mixed:Try.prog.follows .mixedOrders=true:=by kernel_rfl
 go_enter Try.func26,Try.ntmps26
 go_wp2
 rw[Lib.run_neq_ptr_same w _ Try.underlying70 hj]
 go_wp2
 go_end0
 exact⟨rfl,rfl⟩
set_option maxHeartbeats 1000000 in
set_option maxRecDepth 100000 in
theorem xU(b:Nat)(w:World)(h0:w.cell? ⟨b,0,none⟩=some (.pointer none))(sb:w.shape? b=some (72,2))(um:w.frozen? ⟨b,0,none⟩=false):
  Calls Try.prog 26 #[.pointer (some ⟨b,0,none⟩)] w λe w'=>e= .returned (.tuple #[])/\w'=w.setCell ⟨b,0,none⟩ (.pointer (some ⟨b,0,none⟩)):=by
 obtain⟨j,hj,Cr⟩:=zaj.1 (show(Try.prog.info? 72).map (·.size)=some 2 by kernel_rfl);have EB:liesAt Try.prog Try.prog.depth 72 (2/Try.prog.cellsOf 72) 0 72 1=true:=by kernel_rfl
 have a72:=Try.isAgg72;have z72:=Try.sizeOf72;have v72:=Try.zeroValue72;have Cu:=run_underlying Try.underlying72;have a70:=Try.isAgg70;have z70:=Try.sizeOf70;have v70:=Try.zeroValue70;have Cv:=run_underlying Try.underlying70;have a4:=Try.isAgg4;have z4:=Try.sizeOf4;have v4:=Try.zeroValue4;have u4:=run_underlying Try.underlying4;have Cw:=run_underlying Try.underlying80;have mixed:Try.prog.follows .mixedOrders=true:=by kernel_rfl
 go_enter Try.func26,Try.ntmps26
 go_wp2
 rw[Lib.run_to_unsafe w ⟨b,0,none⟩ Try.underlying70 Try.underlying80 hj (by rw[Cr];decide) sb (Nat.zero_lt_succ 1)];simp only[Result.andThen];rw[Oper.upon_value]
 go_wp2
 rw[run_callFunc_extern Try.func28 (by kernel_rfl) (by kernel_rfl) (by kernel_rfl) (e:=Extern.AbiNoEscape.same) (by kernel_rfl)];rw[Lib.run_noEscape];simp only[Result.andThen];rw[Oper.upon_value]
 go_wp2
 rw[Lib.run_from_unsafe w ⟨b,0,none⟩ Try.underlying80 Try.underlying70 hj sb EB];simp only[Result.andThen];rw[Oper.upon_value]
 go_wp2
 go_end0
 exact⟨rfl,rfl⟩
theorem ub:AW Try.prog w0 26 rR:=by
 intro h0 ps R p R1 h F G w vs hH hl hv;unfold rR at h;split at h
 next v=>
  match vs,hl,hv with
  | [u],_,hv=>
   have hp:=hv 0 u _ rfl rfl;split at h
   ·rename_i e he;split at h
    ·rename_i gM;have gM:=zac gM;have hO:=hH.rg 0 e he;cases hp with
     |ref _ _ _ _ hr h1=>
      split at h
      ·rename_i x aN;rw[aN] at hO;obtain⟨b,hG,rfl⟩:=hr.at he gM (by rw[aN];rfl);obtain⟨b',cs,dO,hh,bn,cK,pg⟩:=hO;rw[hG] at dO;simp at dO;subst dO;simp only[zae,zaQ] at h;obtain⟨rfl,rfl⟩:=h;have c0:cs[0]?=some (.pointer none):=by
        have wk:0<cs.size:=by rw[bn];simp
        have:=pg 0 _ rfl;rw[jH wk];generalize cs.getD 0 undef=c at this;cases this with
        |d hd=>exact congrArg some (hd.bW rfl)
       have lO:b<w.heap.size:=(zal.1 hh).1;have ft:=xU b w (by rw[cx hh];exact c0) (by simp[World.shape?,hh,bn]) (by simp[World.frozen?,hh]);refine .inl ⟨enters Try.func26 (by kernel_rfl) (by kernel_rfl) _ w,ft.mono λe' w' ⟨aW,uv⟩=>⟨_,aW,F,G,?_⟩⟩;subst uv;have cD:fm G R 0 ⟨e.aw,e.tag,.box 72 [.ref 0 v 0,x]⟩ (G 0):=λe1 jJ=>by rw[he] at jJ;cases jJ;exact .inr ⟨rfl,λ_=>⟨by rw[aN];rfl,rfl⟩⟩
       have jU:=cd cD;rw[aH] at jU;have vp: ¬F b:=hH.hS 0 e b he (by rw[aN];simp[aD,hG,au]);have hF: ∀c,F c->(w.setCell ⟨b,0,none⟩ (.pointer (some ⟨b,0,none⟩))).heap[c]?=w.heap[c]?:=λc hc=>iG (λe=>vp (by rw[<-e];exact hc)) _;obtain⟨d1,d2⟩:=ar.gk hH (e1:=⟨e.aw,e.tag,.box 72 [.ref 0 v 0,x]⟩) (g1:=G 0) (w':=w.setCell ⟨b,0,none⟩ (.pointer (some ⟨b,0,none⟩))) cD
        (λc hc dH=>iG (λe'=>dH ⟨e,he,by rw[e',aN];simp[aD,hG,au]⟩) _) (by simp[World.setCell]) rfl rfl rfl
        (λc hc=> .inr ⟨e,he,by rw[aN];exact hc⟩)
        (by
         rw[aH];refine⟨b,_,hG,pd hh 0 _,by simpa using bn,?_,?_⟩
         ·intro c hc;obtain⟨i,hi⟩:=List.mem_iff_getElem?.1 hc;rw[zaU,Array.getElem?_setIfInBounds] at hi;split at hi
          ·simp at hi;obtain⟨_,rfl⟩:=hi;rfl
          exact cK c (List.mem_iff_getElem?.2 ⟨i,by rw[zaU];exact hi⟩)
         intro i p hp
         match i with
         |0=>
          simp at hp;subst hp;have e0:(cs.setIfInBounds 0 (.pointer (some ⟨b,0,none⟩))).getD 0 undef= .pointer (some ⟨b,0,none⟩):=by
           have wk:0<cs.size:=by rw[bn];simp
           simp[zak,wk]
          rw[e0];exact .ref 0 v 0 _ ⟨_,aK _ _ _,by rw[gM];exact zag _,λ_ _=>⟨b,hG,rfl⟩⟩ rfl
         |1=>
          simp at hp;subst hp;have e1:(cs.setIfInBounds 0 (.pointer (some ⟨b,0,none⟩))).getD 1 undef=cs.getD 1 undef:=by simp[zak]
          rw[e1];exact(pg 1 x rfl).mono (λ_ h=>h) hF jU
         |i+2=>simp at hp)
        (λi hi hl=>hH.tag 0 e i he hi (by rw[aN];rfl))
       rw[aH] at d1 d2;exact⟨d1,sJ,d2⟩
      ·rename_i v' x aN;split at h
       ·rename_i r7;have r7:=zac r7;subst r7;rw[aN] at hO;obtain⟨b,hG,rfl⟩:=hr.at he gM (by rw[aN];rfl);obtain⟨b',cs,dO,hh,bn,cK,pg⟩:=hO;rw[hG] at dO;simp at dO;subst dO;simp only[zae,zaQ] at h;obtain⟨rfl,rfl⟩:=h;have c0:cs[0]?=some (.pointer (some ⟨b,0,none⟩)):=by
         have wk:0<cs.size:=by rw[bn];simp
         have:=pg 0 _ rfl;rw[jH wk];generalize cs.getD 0 undef=c at this;cases this with
         |ref _ _ _ _ EC _=>obtain⟨b2,Ay,rfl⟩:=EC.at he gM (by rw[aN];rfl);rw[hG] at Ay;simp at Ay;subst Ay;rfl
        have ft:=zq b w (by rw[cx hh];exact c0);refine .inl ⟨enters Try.func26 (by kernel_rfl) (by kernel_rfl) _ w,ft.mono λe' w' ⟨aW,uv⟩=>⟨_,aW,F,G,?_⟩⟩;subst uv;exact⟨hH,sJ,Ext.refl _ _ _⟩
       cases h
      cases h
    cases h
   cases h
 cases h
theorem qz{w:World}{g c n:Nat}(h:c≠g):(w.freeze ⟨g,0,none⟩ n).heap[c]?=w.heap[c]?:=by
 unfold World.freeze;split
 ·rfl
 simp[zaV,zaP h]
theorem qA{w:World}{g n:Nat}:(w.freeze ⟨g,0,none⟩ n).heap.size=w.heap.size:=by
 unfold World.freeze;split
 ·rfl
 simp
set_option maxHeartbeats 2000000 in
set_option maxRecDepth 100000 in
theorem xV(b g cap len:Nat)(p:Value)(cur:Array Value)(l:List UInt8)(w:World)(xh:w.heap[b]?=some (.cells #[p,.slice (some ⟨g,0,none⟩) len cap] 72 (0,0)))(hg:w.heap[g]?=some (.cells cur 5 (0,0)))
  (h0:l≠[]) (hlen:l.length=len) (jq:len<=cap) (kl:cap<=maxLen) (hcs:cap<=cur.size) (hb: ∀(j:Nat) (x:UInt8),l[j]?=some x->cur[j]?=some (Value.int IntKind.u8 (x.toNat:Int))):
  Calls Try.prog 25 #[.pointer (some ⟨b,0,none⟩)] w λe w'=>e= .returned (.string ⟨l.toArray⟩)/\w'=w.drew.freeze ⟨g,0,none⟩ l.length:=by
 subst hlen;have L:=Try.pc;have X:=Try.cU;have wL:l.length≠0:=by simpa using h0
 have c1:w.drew.cell? ⟨b,1,none⟩=some (.slice (some ⟨g,0,none⟩) l.length cap):=by have:w.drew.heap[b]?=some (.cells #[p,.slice (some ⟨g,0,none⟩) l.length cap] 72 (0,0)):=xh;rw[Lib.cell_of_heap this];rfl
 have ED:(Builtin.unsafeSliceData_ #[(Try.aB.t 37)] (Try.aB.t 127) #[.slice (some ⟨g,0,none⟩) l.length cap]).run Try.prog w.drew= .ok (.pointer (some ⟨g,0,none⟩)) w.drew:=
  Lib.run_unsafeSliceData_row _ _ _ _ _ _ (by omega)
 have EE:(Builtin.unsafeString_ #[(Try.aB.t 127),(Try.aB.t 3)] (Try.aB.t 9) #[.pointer (some ⟨g,0,none⟩),.int .i64 l.length]).run Try.prog w.drew= .ok (.string ⟨l.toArray⟩) (w.drew.freeze ⟨g,0,none⟩ l.length):=by refine Lib.run_unsafeString_row w.drew (Try.aB.t 127) (Try.aB.t 3) (Try.aB.t 9) (Try.aB.t 5) L.t127 X.cellsByte g cur.size (by have sW:w.drew.heap[g]?=some (.cells cur (Try.aB.t 5) (0,0)):=hg;simp[World.shape?,sW]) l h0 (by omega) (by unfold maxLen at kl;omega) ?_;intro j x hx;have sW:w.drew.heap[g]?=some (.cells cur 5 (0,0)):=hg;rw[show(⟨g,0,none⟩:Addr).add j=⟨g,j,none⟩ by cases j<;>simp[Addr.add],cx sW];exact hb j x hx
 have mixed:=L.mixed;have t72:=L.t72;have a72:=L.a72;have z72:=L.z72;have v72:=L.v72;have Cu:=run_underlying L.t72;have t70:=L.t70;have a70:=L.a70;have z70:=L.z70;have v70:=L.v70;have Cv:=run_underlying L.t70;have t37:=L.t37;have a37:=L.a37;have z37:=L.z37;have v37:=L.v37;have EF:=run_underlying L.t37;have t127:=L.t127;have a127:=L.a127;have z127:=L.z127;have v127:=L.v127;have Cx:=run_underlying L.t127;have t3:=L.t3;have a3:=L.a3;have z3:=L.z3;have v3:=L.v3;have u3:=run_underlying L.t3;have t9:=L.t9;have a9:=L.a9;have z9:=L.z9;have v9:=L.v9;have u9:=run_underlying L.t9;have t5:=X.t5;have a5:=X.a5;have z5:=X.z5;have v5:=X.v5;have u5:=run_underlying X.t5
 go_enter L.f169,Body.n169_ntmps Try.aB
 go_wp2
 go_region_o
 all_goals (go_wp2;go_ret;exact⟨rfl,rfl⟩)
set_option maxHeartbeats 2000000 in
set_option maxRecDepth 100000 in
theorem xW(b:Nat)(p:Value)(w:World)(xh:w.heap[b]?=some (.cells #[p,.slice none 0 0] 72 (0,0))):
  Calls Try.prog 25 #[.pointer (some ⟨b,0,none⟩)] w λe w'=>e= .returned (.string ⟨#[]⟩)/\w'=w.drew:=by
 have L:=Try.pc;have X:=Try.cU;have EE:=λW q=>Lib.run_unsafeString_none (P:=Try.prog) W (Try.aB.t 127) (Try.aB.t 3) (Try.aB.t 9) q;have c1:w.drew.cell? ⟨b,1,none⟩=some (.slice none 0 0):=by have:w.drew.heap[b]?=some (.cells #[p,.slice none 0 0] 72 (0,0)):=xh;rw[Lib.cell_of_heap this];rfl
 have ED:(Builtin.unsafeSliceData_ #[(Try.aB.t 37)] (Try.aB.t 127) #[.slice none 0 0]).run Try.prog w.drew= .ok (.pointer none) w.drew:=rfl;have mixed:=L.mixed;have t72:=L.t72;have a72:=L.a72;have z72:=L.z72;have v72:=L.v72;have Cu:=run_underlying L.t72;have t70:=L.t70;have a70:=L.a70;have z70:=L.z70;have v70:=L.v70;have Cv:=run_underlying L.t70;have t37:=L.t37;have a37:=L.a37;have z37:=L.z37;have v37:=L.v37;have EF:=run_underlying L.t37;have t127:=L.t127;have a127:=L.a127;have z127:=L.z127;have v127:=L.v127;have Cx:=run_underlying L.t127;have t3:=L.t3;have a3:=L.a3;have z3:=L.z3;have v3:=L.v3;have u3:=run_underlying L.t3;have t9:=L.t9;have a9:=L.a9;have z9:=L.z9;have v9:=L.v9;have u9:=run_underlying L.t9;have t5:=X.t5;have a5:=X.a5;have z5:=X.z5;have v5:=X.v5;have u5:=run_underlying X.t5
 go_enter L.f169,Body.n169_ntmps Try.aB
 go_wp2
 go_region_o
 all_goals (go_wp2;go_ret;exact⟨rfl,rfl⟩)
theorem cZ.drew{T:Tg}{F:Nat->Prop}{G:Nat->Value}{w:World}{R:List (Nat×En)}(h:cZ Try.prog T F G w R):cZ Try.prog T F G w.drew R:=by have hn:Names G G R R:=Names.refl G R;exact⟨h.qX,h.size,λt p hp=>by simp[lk] at hp,λn e he=>(h.rg n e he).mono (λ_ h=>h) (λ_ _=>rfl) hn rfl (λ_ _=>rfl),h.own,h.hS,h.fL,h.tag,h.z,Nat.le_succ_of_le h.dr,h.sz⟩
theorem nX{cs:Array Value}(h:cs.size=2):cs= #[cs.getD 0 undef,cs.getD 1 undef]:=by
 apply Array.ext
 ·simp[h]
 intro i h1 h2;have:i=0\/i=1:=by simp at h2;omega
 rcases this with rfl |rfl<;>simp[Array.getD,h]
theorem xX:AW Try.prog w0 25 zp:=by
 intro h0 ps R p R1 h F G w vs hH hl hv;unfold zp at h;split at h
 next v=>
  match vs,hl,hv with
  | [u],_,hv=>
   have hp:=hv 0 u _ rfl rfl;split at h
   ·rename_i e he;split at h
    ·rename_i gM;have gM:=zac gM;have hO:=hH.rg 0 e he;cases hp with
     |ref _ _ _ _ hr h1=>
      have Dl:=enters Try.func25 (by kernel_rfl) (by kernel_rfl);split at h
      ·rename_i x aN;rw[aN] at hO;obtain⟨b,hG,rfl⟩:=hr.at he gM (by rw[aN];rfl);obtain⟨b',cs,dO,hh,bn,cK,pg⟩:=hO;rw[hG] at dO;simp at dO;subst dO;simp only[zae,zaQ] at h;obtain⟨rfl,rfl⟩:=h;have e1:cs.getD 1 undef= .slice none 0 0:=by
        have:=pg 1 _ rfl;generalize cs.getD 1 undef=c at this;cases this with
        |d hd=>exact hd.bW rfl
       have h2:=nX (by simpa using bn);rw[e1] at h2;rw[h2] at hh;refine .inl ⟨Dl _ w,(xW b _ w hh).mono λe' w' ⟨aW,uv⟩=>⟨_,aW,F,G,?_,.d (.str []),?_⟩⟩
       ·subst uv;exact hH.drew
       subst uv;exact⟨λ_ h=>h,λ_ h=> .inl h,λ_ h=> .inl h,λ_ _ _=>rfl,zag _,rfl,rfl,rfl⟩
      ·rename_i x m vm len aN;rw[aN] at hO;obtain⟨b,hG,rfl⟩:=hr.at he gM (by rw[aN];rfl);obtain⟨b',cs,dO,hh,bn,cK,pg⟩:=hO;rw[hG] at dO;simp at dO;subst dO;split at h
       ·rename_i em z8;split at h
        ·rename_i Cy;have Cy:=zac Cy;split at h
         ·rename_i es Cz;split at h
          ·rename_i l EG;split at h
           ·rename_i bR;simp only[zad,Nat.blt_eq] at bR;have yd:=zac bR.1;simp only[zae,zaQ] at h;obtain⟨rfl,rfl⟩:=h;have ze:=pg 1 _ rfl;have Dm:=hH.rg m em z8;rw[Cz] at Dm;have h2:=nX (by simpa using bn);generalize cs.getD 1 undef=c1 at ze h2;cases ze with
            |sl _ _ _ _ _ EH=>
             obtain⟨a,N,cap,Dn,rfl,E5⟩:=EH.at z8 Cy (by rw[Cz];rfl);have ur:=qy _ _ EG;have uW:len<=es.length:=by have:=congrArg List.length ur;simp at this;omega
             rcases Dm with⟨_,rfl⟩| ⟨g,cX,cur,k,zr,hg,hk,jt,hle,kl,hcs,_,hE⟩
             ·simp at uW;omega
             rw[Dn] at zr;simp only[Value.slice.injEq] at zr;obtain⟨rfl,rfl,rfl⟩:=zr;have w6:k=1:=by
              have:sz Try.prog 5=some 1:=by kernel_rfl
              rw[this] at hk;exact(zbc hk).symm
             subst w6;rw[h2] at hh;have bz:l≠[]:=λe0=>by subst e0;simp at yd;omega
             have aO: ∀(j:Nat) (x:UInt8),l[j]?=some x->cur[j]?=some (.int .u8 x.toNat):=λj x hx=>by
              have hj:j<l.length:=(zaa.1 hx).1;have B1:es[j]?=some (.int .u8 x.toNat):=by
               have:(es.take len)[j]?=some (D.int .u8 (x.toNat:Int)):=by rw[ur,zap,hx];rfl
               rw[zaO] at this;split at this
               ·exact this
               cases this
              obtain⟨q1,q2,q3⟩:=hE j _ B1;have:=q3 0 _ rfl;rw[jH (by omega)];simp only[zb1,zbb] at this;rw[this.bW rfl]
             refine .inl ⟨Dl _ w,(xV b g cap len _ cur l w hh hg bz yd (by omega) kl (by omega) aO).mono λe' w' ⟨aW,uv⟩=>⟨_,aW,F,G,?_⟩⟩;subst uv;have cD:fm G R m ⟨em.aw,em.tag,.gone⟩ (G m):=λe1 jJ=>by rw[z8] at jJ;cases jJ;exact .inr ⟨rfl,λyV=>by cases yV⟩
             obtain⟨d1,d2⟩:=ar.gk hH (e1:=⟨em.aw,em.tag,.gone⟩) (g1:=G m) (w':=w.drew.freeze ⟨g,0,none⟩ l.length) (hdr:=by unfold World.freeze;split<;>exact zbJ _) cD
              (λc hc dH=>qz (λe'=>dH ⟨em,z8,by rw[e',Cz];simp[aD,Dn,au]⟩)) (by rw[qA];exact zag _) (by unfold World.freeze;split<;>rfl) (by unfold World.freeze;split<;>rfl) (by unfold World.freeze;split<;>rfl)
              (λc hc=>by simp[aD] at hc) trivial (λi _ yV=>by cases yV)
             rw[aH] at d1 d2;exact⟨d1,.d (.str l),d2⟩
           cases h
          cases h
         cases h
        cases h
       cases h
      cases h
    cases h
   cases h
 cases h
end
end Pi
namespace Pi
open Go Go.Proofs
set_option maxRecDepth 100000
set_option maxHeartbeats 0
def A2:List (Nat×List (Nat×List Nat×List Nat)):=[(4,[(8,[0,3,4,5,6],[2,3])]),
 (5,[(8,[0,1,5,6,7,8],[4,5])]),
 (6,[(11,[0,2,7,8,10,11],[0,2,7,8,10]),(20,[0,2,7,8,12,13,14,15,16],[6,7,12,15])]),
 (7,[(13,[0,1,7,8,10,12,13,14,15],[0,1,6,7,13,14])]),
 (9,[(8,[0,1,2,3,10],[10]),(13,[10,60,61],[10])]),
 (10,[(10,[0,1,2,3,10,11,12],[11])]),
 (11,[(4,[0,1,5],[4])]),
 (14,[(10,[0,3,7,8],[0,3,4,5,6,7]),(21,[0,3,7,9,10],[0,3,7,9]),(29,[0,3,7,9,11,12],[0,3,7,11])]),
 (17,[(12,[0,1,5,39,40,41],[0,1,5]),(22,[1,8,63,64,65],[8])]),
 (19,[(2,[0,3,5],[0,4])]),
 (20,[(2,[0,3,5],[0,4])])]
def zs:List (Nat×List (Nat×Nat)):=[(4,[(14,1)]),
 (5,[(14,1),(17,1)]),
 (14,[(16,1),(23,1),(33,1)]),
 (16,[(4,1)]),
 (23,[(3,1)]),
 (25,[(1,1)]),
 (27,[(0,1)])]
def CA:List Nat:=[17,26,25]
def A3:List Nat:=CA++[]
def CB:List Nat:=[]
def mE(f id:Nat):Option (List Nat×List Nat):=if Nat.beq id 999999 then(if dJ f CB then some ([],[]) else none) else match lk A2 f with |some l=>lk l id |none=>none
abbrev A4:kX:=⟨mE,A3,λ_ _ _=>none⟩
end Pi
namespace Pi
open Go Go.Proofs Go.RowKit
def gZ:List D->Option (List (List UInt8))
 | []=>some []
 | .str s::r=>match gZ r with |some l=>some (s::l)|none=>none
 |_=>none
def qB:TF
 | [.d (.sl 1 es),.d (.str c)],[]=>match gZ es with
  |some l=>if l.length<=140737488355328/\(Lib.join l c).length<=140737488355328 then some (.d (.str (Lib.join l c)),[]) else none
  |none=>none
 |_,_=>none
noncomputable def xL:List (Nat×TF):=[(17,qB),(26,rR),(25,zp)]
noncomputable def xB:CF:=BA xL
structure BD(w0:World):Prop where
 t:True
theorem BD.zero{w0:World}(h:BD w0):BD {w0 with drawn:=0} where
 t:=trivial
section
variable{w0:World}
theorem zt{F:Nat->Prop}{w:World}{G:Nat->Value}{R:List (Nat×En)}{v:Value}{s:List UInt8}(h:ao F w G R v (.d (.str s))):v= .string ⟨⟨s⟩⟩:=ao.aV (p:= .d (.str s)) h rfl
theorem kR: ∀(es:List D) (l:List (List UInt8)),gZ es=some l->es=l.map D.str
 | [],l,h=>by simp[gZ] at h;subst h;rfl
 |x::es,l,h=>by
  cases x<;>try (simp[gZ] at h;done)
  rename_i s;simp only[gZ] at h;split at h
  next l' hl=>simp at h;subst h;rw[kR es l' hl];rfl
  cases h
theorem wy:AW Try.prog w0 17 qB:=by
 intro h0 ps R p R1 h F G w vs hH hl hv;unfold qB at h;split at h
 next es c=>
  split at h
  next l ur=>
   have ur:=kR es l ur;subst ur;split at h
   ·rename_i hc;simp only[zae,zaQ] at h;obtain⟨rfl,rfl⟩:=h
    match vs,hl,hv with
    | [v,u],_,hv=>
     have h1:=hv 0 v _ rfl rfl;have e2:u= .string ⟨⟨c⟩⟩:=zt (hv 1 u _ rfl rfl);subst e2;refine tY h0 hH (enters Try.func17 (by kernel_rfl) (by kernel_rfl) _ w) ?_;cases h1 with
     |d h1=>
      generalize ur:l.map D.str=es at h1;cases h1 with
      |sS a k cap=>
       have:l=[]:=by simpa using ur
       subst this;exact(Try.strings_Join_none a cap ⟨⟨c⟩⟩ w).mono λe w' ⟨he,hb⟩=>⟨_,he,hb▸Below.refl _ _,λF G=> .d (.str _)⟩
      |ui b off k cap es f jq hb hk aO hw hr=>
       subst ur;have hj:=Try.strings_Join b off cap (l.map λx=>⟨⟨x⟩⟩) ⟨⟨c⟩⟩ w (λj x hx=>by
        rw[zap] at hx;cases hi:l[j]? with
        |none=>rw[hi] at hx;cases hx
        |some s=>rw[hi] at hx;cases hx;have yb:j<l.length:=(zaa.1 hi).1;rw[hw j (by simpa using yb)];have:=hr j 0 (.str s) (.str s) (by rw[zap,hi];rfl) rfl;simp only[zb1,zbb] at this;rw[this.bW rfl]) (hH.fL b hb) (by simpa using hc.1) (by simpa using jq) (by simpa [zbs] using hc.2)
       simp only[zaD] at hj⊢;have e:(List.map (λx=>x.data.toList) (List.map (λx=>(⟨⟨x⟩⟩:ByteArray)) l))=l:=by simp[zbs]
       rw[e] at hj;exact hj.mono λe w' ⟨he,hb⟩=>⟨_,he,hb,λF G=> .d (.str _)⟩
   cases h
  cases h
 cases h
theorem A5{w1:World}(EI:BD w1):gl Try.prog {w1 with drawn:=0} xB:=by have hw:=EI.zero;exact tZ.ok rfl (.cons wy (.cons ub (.cons xX .nil)))
end
end Pi
namespace Pi
open Go Go.Proofs
set_option maxRecDepth 100000
set_option maxHeartbeats 0
structure XF where
 cf:CF
 eq: ∀f,dJ f CA=true-> ∀ps R,cf f ps R=xB f ps R
abbrev Aa(X:XF):kX:=⟨mE,A3,X.cf⟩
def yq(f id:Nat):Nat:=match lk zs f with |some l=>(lk l id).getD 2 |none=>2
theorem zu:iN yq 0 Try.prog.funcs.toList=true:=by kernel_rfl
noncomputable abbrev PR:=Try.prog
noncomputable def j8(H:List (FuncId×hQ))(hk:List (Nat×(S->K (PX×S))))(f id:Nat)(s:S):K (PX×S):=
 ot (bY PR (runK PR A4 yq H 60 60) (mE f) hk (yq f) 60 (dq PR f id)) (mE f id) s
noncomputable def kS(H:List (FuncId×hQ))(hk:List (Nat×(S->K (PX×S))))(f:Nat)(ps:List P)(R:List (Nat×En)):K (P×List (Nat×En)):=
 fi PR (runK PR A4 yq H 60 60) A4 hk yq 60 f ps R
def FD(X:XF)(f:Nat)(h:hQ):Prop:=wT PR (Aa X) f h
def HD(X:XF)(H:List (FuncId×hQ)):Prop:=sE PR (Aa X) H
def LD(X:XF)(f id:Nat)(g:S->K (PX×S)):Prop:= ∀s,KW (g s) (λx=>Ev λa b=>c8 (aP PR (dh PR (Aa X) a b) (mE f) a (dq PR f id)) (mE f id) a s=some x)
theorem HD.nil{X:XF}:HD X []:=sE.nil
theorem HD.cons{X:XF}{f:Nat}{h:hQ}{H:List (FuncId×hQ)}(hf:FD X f h)(hH:HD X H):HD X ((f,h)::H):=sE.cons hf hH
inductive zw(X:XF)(f:Nat):List (Nat×(S->K (PX×S)))->Prop
 |nil:zw X f []
 |cons {id:Nat} {g:S->K (PX×S)} {r:List (Nat×(S->K (PX×S)))} (h:LD X f id g) (hr:zw X f r):zw X f ((id,g)::r)
theorem zw.get{X:XF}{f:Nat}{hk:List (Nat×(S->K (PX×S)))}(h:zw X f hk): ∀id g,lk hk id=some g->LD X f id g:=by
 induction h with
 |nil=>exact sG
 |cons h hr ih=>exact xQ h ih
theorem FD.mk{X:XF}{H:List (FuncId×hQ)}{hk:List (Nat×(S->K (PX×S)))}{f:Nat}{h:hQ}(hu:uniq PR f=true)(hH:HD X H)(hl:zw X f hk)(hb: ∀ps R ae,h ps R ae->kS H hk f ps R ae):FD X f h:=
 wT.mk zu hH hu hl.get (λps R ae hp=>by have:=hb ps R ae hp;unfold kS at this;rw[rQ PR mE A3 _ X.cf yq H 60 60] at this;exact this)
theorem LD.par{X:XF}{H:List (FuncId×hQ)}{hk:List (Nat×(S->K (PX×S)))}{f id:Nat}{g:S->K (PX×S)}(hu:uniq PR f=true)(hc:eM (yq f) (dq PR f id)=true)(hH:HD X H)(hl:zw X f hk)
  {A B:Type} (hd:A->B->S) (Inv:A->B->Prop) (mu:A->B->Nat) (Out:A->PX×S->Prop)
  (hr: ∀a b,Inv a b->j8 H hk f id (hd a b) (roundPost (mu a b) (λm s=> ∃b',s=hd a b'/\Inv a b'/\m=mu a b') (Out a)))
  (hg: ∀s ae,g s ae-> ∃a b,s=hd a b/\Inv a b/\ ∀x,Out a x->ae x):LD X f id (bg (mE f id) g):=by
 refine qu λs0 ae hp=> ?_;obtain⟨a,b,rfl,h1,h2⟩:=hg s0 ae hp;obtain⟨x,g1,g2⟩:=xH (keep:=mE f id) (kp1:=mE f) (O:=Out a) zu hH hc (λd hd h hh=>by have:=hl.get _ _ hh;unfold LD at this;rwa [tR hu hd] at this) (I:=λm s=> ∃b',s=hd a b'/\Inv a b'/\m=mu a b') (λn s hs=>by obtain⟨b',rfl,h3,rfl⟩:=hs;have:=hr a b' h3;unfold j8 at this;rw[rQ PR mE A3 _ X.cf yq H 60 60] at this;exact this) (mu a b) (hd a b) ⟨b,rfl,h1,rfl⟩;exact⟨x,g2,h2 x g1⟩
theorem FD.Ck{X:XF}{f:Nat}{fn:Func}{h:hQ}(gq:PR.funcs[f]?=some fn)(hx:dJ f A3=true)(EJ:dJ f CA=true)(hb: ∀ps R ae,h ps R ae-> ∃x,xB f ps R=some x/\ae x):FD X f h:=
 wT.Ck gq hx λps R ae hp=>by obtain⟨x,h1,h2⟩:=hb ps R ae hp;exact⟨x,by rw[<-h1];exact X.eq f EJ ps R,h2⟩
theorem FD.run{X:XF}{f:Nat}{h:hQ}(hf:FD X f h){ps:List P}{R:List (Nat×En)}{y:P×List (Nat×En)}(hp:h ps R (λx=>x=y)): ∃lf k,dh PR (Aa X) lf k f ps R=some y:=by obtain⟨x,h1,h2⟩:=hf ps R _ hp;subst h2;exact h1.some
def FC(f:Nat)(h:hQ):Prop:=wT PR A4 f h
def HC(H:List (FuncId×hQ)):Prop:=sE PR A4 H
theorem HC.nil:HC []:=sE.nil
theorem HC.cons{f:Nat}{h:hQ}{H:List (FuncId×hQ)}(hf:FC f h)(hH:HC H):HC ((f,h)::H):=sE.cons hf hH
theorem FC.mk{H:List (FuncId×hQ)}{f:Nat}{h:hQ}(hu:uniq PR f=true)(hH:HC H)(hb: ∀ps R ae,h ps R ae->kS H [] f ps R ae):FC f h:=
 wT.mk zu hH hu sG hb
noncomputable def wz:XF:=⟨xB,λ_ _ _ _=>rfl⟩
def mF(z:Nat):Nat->List UInt8->List (List UInt8)
 |0,_=>[]
 |f+1,s=>if s=[] then [] else s.take z::mF z f (s.drop z)
def chunk(z:Nat)(s:List UInt8):List (List UInt8):=mF z s.length s
theorem hB{z:Nat}(hz:0<z): ∀(n m:Nat) (s:List UInt8),s.length<=n->s.length<=m->mF z n s=mF z m s
 |0,0,_,_,_=>rfl
 |0,m+1,s,h,_=>by have:s=[]:=zam (by omega);subst this;rfl
 |n+1,0,s,_,h=>by have:s=[]:=zam (by omega);subst this;rfl
 |n+1,m+1,s,h1,h2=>by
  unfold mF;split
  ·rfl
  rename_i bz;have hl:0<s.length:=zaG.2 bz;rw[hB hz n m _ (by rw[zaC];omega) (by rw[zaC];omega)]
theorem j9(z:Nat):chunk z []=[]:=rfl
theorem jf{z:Nat}(hz:0<z){s:List UInt8}(h:s≠[]):chunk z s=s.take z::chunk z (s.drop z):=by have hl:0<s.length:=zaG.2 h;unfold chunk;rw[hB hz s.length ((s.length-1)+1) s (zag _) (by omega)];show(if s=[] then [] else _)=_;rw[zaB h,hB hz (s.length-1) (s.drop z).length _ (by rw[zaC];omega) (zag _)]
theorem kb{z:Nat}(hz:0<z){P:List UInt8->Prop}(h0:P [])(h1: ∀s,s≠[]->P (s.drop z)->P s): ∀(n:Nat) (s:List UInt8),s.length<=n->P s
 |0,s,h=>by have:s=[]:=zam (by omega);subst this;exact h0
 |n+1,s,h=>by
  by_cases hs:s=[]
  ·subst hs;exact h0
  have hl:0<s.length:=zaG.2 hs;exact h1 s hs (kb hz h0 h1 n _ (by rw[zaC];omega))
theorem kc{z:Nat}(hz:0<z)(s:List UInt8)(h:s≠[]):(chunk z s).length=(s.length-1)/z+1:=by
 refine kb hz (P:=λs=>s≠[]->(chunk z s).length=(s.length-1)/z+1) (λh=>absurd rfl h) (λs hs ih _=> ?_) _ s (zag _) h;have hl:0<s.length:=zaG.2 hs;rw[jf hz hs,zbv];by_cases hd:s.drop z=[]
 ·have:s.length<=z:=by have:=congrArg List.length hd;rw[zaC,zbY] at this;omega
  rw[hd,j9,zbY,Nat.div_eq_of_lt (by omega)]
 have h1:z<s.length:=by refine Nat.lt_of_not_le λhle=>hd (zaK hle)
 rw[ih hd,zaC,show s.length-1=(s.length-z-1)+z by omega,Nat.add_div_right _ hz]
theorem uc{z:Nat}(hz:0<z)(s:List UInt8): ∀i,i<(chunk z s).length->(chunk z s)[i]?=some ((s.drop (i*z)).take z):=by
 refine kb hz (P:=λs=> ∀i,i<(chunk z s).length->(chunk z s)[i]?=some ((s.drop (i*z)).take z)) (λi h=>by simp[j9] at h) (λs hs ih i hi=> ?_) _ s (zag _);rw[jf hz hs] at hi⊢;cases i with
 |zero=>simp
 |succ i=>rw[zbd,ih i (by simpa using hi),zbE,zas,zaI,Nat.add_comm]
abbrev cL:=Int×Int×Int×Int×List UInt8
def kT(a n q:Int)(ps:List (List UInt8)):List cL:=ps.zipIdx.map λp=>(a,n,(p.2:Int),q,p.1)
theorem bS(a n q:Int)(ps:List (List UInt8)):(kT a n q ps).length=ps.length:=by simp[kT]
theorem qC(a n q:Int)(ps:List (List UInt8))(p:List UInt8):kT a n q (ps++[p])=kT a n q ps++[(a,n,(ps.length:Int),q,p)]:=by simp[kT,List.zipIdx_append]
abbrev iD(n:Int):P:= .d (.int .i64 n)
abbrev sD(s:List UInt8):P:= .d (.str s)
def eK(x:cL):D:= .agg [.int .i64 x.1,.int .i64 x.2.1,.int .i64 x.2.2.1,.int .i64 x.2.2.2.1,.str x.2.2.2.2]
abbrev nh(z:Bool)(l:List cL):Obj:= .arr 37 z (l.map eK)
abbrev CC(a n:Int)(s:List UInt8)(z:Int)(o:List cL):S:=⟨72,[(0,iD a),(1,iD n),(2,sD s),(3,iD z),(10,.sl 0 0 o.length)],[(0,⟨0,none,nh false o⟩)]⟩
abbrev xY(o:List cL):S:=⟨72,[(10,.sl 0 0 o.length)],[(0,⟨0,none,nh false o⟩)]⟩
def zx:S->K (PX×S):=λst ae=> ∃a n s z,st=CC a n s z []/\(1<=z/\s.length<=1000000/\(chunk z.toNat s).length<=1000)/\ ∀o,o=kT a n 0 (chunk z.toNat s)->ae (.exit 1,xY o)
def Za(o:List cL):List (Nat×En):=[(0,En.mk 0 none (Obj.arr (37:TypeId) false (List.map eK o)))]
def Z9(o:List cL):Nat×P:=(10,P.sl 0 0 (List.length o))
def Z8(o:List cL):List D:=List.take (List.length o) (List.map eK o)
def Z2(a:Int):D:=D.int .i64 a
def Z7(z:Int):Nat×P:=(3,P.d (Z2 z))
def Z0(s:List UInt8):Int:=(↑(List.length s):Int)
def Z6(n:Int):Nat×P:=(1,P.d (Z2 n))
def Z5(a:Int):Nat×P:=(0,P.d (Z2 a))
def Z3(o:List cL):D:=D.int .i64 (↑(List.length o):Int)
def Z4(a:Int)(n:Int)(o:List cL)(z:Int)(s:List UInt8):List D:=[D.agg [Z2 a,Z2 n,Z3 o,D.int .i64 (0:Int),D.str (List.drop 0 (List.take (Int.toNat (min z (Z0 s))) s))]]
def Z1(z:Int)(s:List UInt8):Bool:=decide ((0:Int)<=min z (Z0 s)/\min z (Z0 s)<=Z0 s)
theorem A6(a n:Int)(s:List UInt8)(z:Int)(o:List cL)(ae:PX×S->Prop):(bif !s==[] then ob (Z1 z s) (ob (Nat.ble (List.length o) (List.length (List.map eK o))&&de (List.length o+List.length (Z4 a n o z s)) 48) (ob (Z1 z s) (ae (PX.normal,S.mk 72 [Z5 a,Z6 n,(2,P.d (D.str (List.drop (Int.toNat (min z (Z0 s))) (List.take (List.length s) s)))),Z7 z,(10,P.sl 0 0 (List.length o+List.length (Z4 a n o z s)))] [(0,En.mk 0 none (Obj.arr (37:TypeId) false (Z8 o++Z4 a n o z s)))])))) else ae (PX.exit 1,S.mk 72 [Z9 o] (Za o)))=(j8 [] [] 9 8 (CC a n s z o)) ae:=by kernel_rfl
abbrev zy(o:List cL)(m i:Int):S:=⟨72,[(10,.sl 0 0 o.length),(60,iD m),(61,iD i)],[(0,⟨0,none,nh false o⟩)]⟩
def Zf(i:Int):P:=P.d (D.int .i64 (i+(1:Int)))
def Zd:Int:=(9223372036854775807:Int)
def Zc:Int:=(-9223372036854775808:Int)
def Ze(i:Int):Bool:=decide (Zc<=i+(1:Int)/\i+(1:Int)<=Zd)
def Zb(o:List cL)(i:Int):D:=D.nth (List.map eK o) (Int.toNat i)
theorem zz(o:List cL)(m i:Int)(ae:PX×S->Prop):(bif decide (i<m) then ob (decide ((0:Int)<=i/\i<(↑(List.length o):Int))) (ob (decide (Int.toNat i<List.length (List.map eK o))) (ob (zM PR (37:TypeId) (Zb o i)) (ob (Ze i) (ae (PX.normal,S.mk 72 [Z9 o,(60,P.d (Z2 m)),(61,Zf i)] [(0,En.mk 0 none (Obj.arr (37:TypeId) false (List.set (List.map eK o) (Int.toNat i) (D.db (D.agg [D.int .i64 (D.cr (D.e7 (Zb o i) 0)),D.int .i64 (D.cr (D.e7 (Zb o i) 1)),D.int .i64 (D.cr (D.e7 (Zb o i) 2)),D.int .i64 (D.cr (D.e7 (Zb o i) 3)),D.str (D.oe (D.e7 (Zb o i) 4))]) [D.int .i64 (D.cr (D.e7 (Zb o i) 0)),D.int .i64 (D.cr (D.e7 (Zb o i) 1)),D.int .i64 (D.cr (D.e7 (Zb o i) 2)),Z3 o,D.str (D.oe (D.e7 (Zb o i) 4))]))))]))))) else ae (PX.exit 3,S.mk 72 [Z9 o] (Za o)))=(j8 [] [] 9 13 (zy o m i)) ae:=by kernel_rfl
def fU(N:Int)(i:Nat)(l:List cL):List cL:=(l.take i).map (λx=>(x.1,x.2.1,x.2.2.1,N,x.2.2.2.2))++l.drop i
def wA:S->K (PX×S):=λst ae=> ∃o,st=zy o o.length 0/\o.length<=1000/\ ∀o',o'=fU o.length o.length o->ae (.exit 3,xY o')
def cM(a n:Int)(s:List UInt8)(z:Int):Int:=if a<1\/16<a\/n<0\/z<1 then 1 else if s=[] then 10 else if 1000<=(s.length-1)/z.toNat then 2 else 0
def ni(a n:Int)(s:List UInt8)(z:Int):List cL:=kT a n (chunk z.toNat s).length (chunk z.toNat s)
def ud:hQ:=λps R ae=> ∃a n s z,ps=[iD a,iD n,sD s,iD z]/\R=[]/\(s.length<=1000000/\z<=9223372036854775807)/\(∀e,e=cM a n s z->e≠0->ae (.dR [.sl 0 0 0,iD e],[(0,⟨0,none,nh false []⟩)]))/\(cM a n s z=0-> ∀l,l=ni a n s z->ae (.dR [.sl 0 0 l.length,iD 0],[(0,⟨0,none,nh false l⟩)]))
def Zq:P:=P.d (D.int .i64 (0:Int))
def Zs(ae:P×List (Nat×En)->Prop)(o':List cL):Prop:=ae (P.dR [P.sl 0 0 (List.length o'),Zq],Za o')
def Zr(xZ:List cL):S:=S.mk 72 [Z9 xZ,(60,P.d (Z3 xZ)),(61,Zq)] (Za xZ)
def Zi:List (Nat×En):=[(0,En.mk 0 none (Obj.arr (37:TypeId) false []))]
def Zh:P:=P.sl 0 0 0
def Zo(lb:List UInt8):Nat×P:=(2,P.d (D.str lb))
def Zp(sK:Int)(sL:Int)(lb:List UInt8)(mG:Int):S:=S.mk 72 [Z5 sK,Z6 sL,Zo lb,Z7 mG,(10,Zh)] Zi
def Zn(ae:P×List (Nat×En)->Prop):Prop:=ae (P.dR [Zh,P.d (D.int .i64 (2:Int))],Zi)
def Zm(s:List UInt8)(z:Int):Bool:=decide (Zc<=Int.tdiv (Z0 s-(1:Int)) z/\Int.tdiv (Z0 s-(1:Int)) z<=Zd)
def Zl(s:List UInt8):Bool:=decide (Zc<=Z0 s-(1:Int)/\Z0 s-(1:Int)<=Zd)
def Zk(ae:P×List (Nat×En)->Prop):Prop:=ae (P.dR [Zh,P.d (D.int .i64 (10:Int))],Zi)
def Zj(ae:P×List (Nat×En)->Prop):Prop:=ae (P.dR [Zh,P.d (D.int .i64 (1:Int))],Zi)
def Zg(a:Int):Bool:=decide (a<(1:Int))
theorem A7(a n:Int)(s:List UInt8)(z:Int)(ae:P×List (Nat×En)->Prop):(bif Zg a then Zj ae else bif decide (a>(16:Int)) then Zj ae else bif decide (n<(0:Int)) then Zj ae else bif Zg z then Zj ae else bif s==[] then Zk ae else ob (Zl s) (ob (!decide (z=(0:Int))) (ob (Zm s z) (bif decide (Int.tdiv (Z0 s-(1:Int)) z>=(1000:Int)) then Zn ae else∃(sK:Int) (sL:Int) (lb:List UInt8) (mG:Int),Zp a n s z=Zp sK sL lb mG/\((1:Int)<=mG/\List.length lb<=1000000/\List.length (chunk (Int.toNat mG) lb)<=1000)/\ ∀(o:List cL),o=kT sK sL (0:Int) (chunk (Int.toNat mG) lb)-> ∃(xZ:List cL),Zr o=Zr xZ/\List.length xZ<=1000/\ ∀(o':List cL),o'=fU (↑(List.length xZ):Int) (List.length xZ) xZ->Zs ae o'))))=(kS [] [(8,bg (mE 9 8) zx),(13,bg (mE 9 13) wA)] 9 [iD a,iD n,sD s,iD z] []) ae:=by kernel_rfl
abbrev zA(a n:Int)(s:List UInt8)(z m:Int)(o:List cL)(i:Int):S:=⟨63,[(0,iD a),(1,iD n),(2,sD s),(3,iD z),(10,iD m),(11,.sl 0 0 o.length),(12,iD i)],[(0,⟨0,none,nh false o⟩)]⟩
def Zt(a:Int)(n:Int)(i:Int)(m:Int)(z:Int)(s:List UInt8):List D:=[D.agg [Z2 a,Z2 n,Z2 i,Z2 m,D.str (List.drop (Int.toNat (i*z)) (List.take (Int.toNat (min (Z0 s) ((i+(1:Int))*z))) s))]]
theorem zB(a n:Int)(s:List UInt8)(z m:Int)(o:List cL)(i:Int)(ae:PX×S->Prop):(bif decide (i<m) then ob (decide (Zc<=i*z/\i*z<=Zd)) (ob (Ze i) (ob (decide (Zc<=(i+(1:Int))*z/\(i+(1:Int))*z<=Zd)) (ob (decide ((0:Int)<=min (Z0 s) ((i+(1:Int))*z)/\min (Z0 s) ((i+(1:Int))*z)<=Z0 s)) (ob (decide ((0:Int)<=i*z/\i*z<=(↑(Int.toNat (min (Z0 s) ((i+(1:Int))*z))):Int))) (ob (Nat.ble (List.length o) (List.length (List.map eK o))&&de (List.length o+List.length (Zt a n i m z s)) 48) (ob (Ze i) (ae (PX.normal,S.mk 63 [Z5 a,Z6 n,Zo s,Z7 z,(10,P.d (Z2 m)),(11,P.sl 0 0 (List.length o+List.length (Zt a n i m z s))),(12,Zf i)] [(0,En.mk 0 none (Obj.arr (37:TypeId) false (Z8 o++Zt a n i m z s)))])))))))) else ae (PX.exit 0,S.mk 63 [(11,P.sl 0 0 (List.length o))] (Za o)))=(j8 [] [] 10 10 (zA a n s z m o i)) ae:=by kernel_rfl
def wB:S->K (PX×S):=λst ae=> ∃a n s z,st=zA a n s z (chunk z.toNat s).length [] 0/\(1<=z/\z<=9223372036854775807/\s.length<=1000000/\s≠[]/\(chunk z.toNat s).length<=1000)/\ ∀o,o=ni a n s z->ae (.exit 0,⟨63,[(11,.sl 0 0 o.length)],[(0,⟨0,none,nh false o⟩)]⟩)
def Zv:List (Nat×P):=[(11,Zh),(12,Zq)]
def Zu(s:List UInt8)(z:Int):Int:=Int.tdiv (Z0 s-(1:Int)) z+(1:Int)
theorem zC(a n:Int)(s:List UInt8)(z:Int)(ae:P×List (Nat×En)->Prop):(bif Zg a then Zj ae else bif decide (a>(16:Int)) then Zj ae else bif decide (n<(0:Int)) then Zj ae else bif Zg z then Zj ae else bif s==[] then Zk ae else ob (Zl s) (ob (!decide (z=(0:Int))) (ob (Zm s z) (ob (decide (Zc<=Zu s z/\Zu s z<=Zd)) (bif decide (Zu s z>(1000:Int)) then Zn ae else∃(sK:Int) (sL:Int) (lb:List UInt8) (mG:Int),S.mk 63 (Z5 a::Z6 n::Zo s::Z7 z::(10,P.d (D.int .i64 (Zu s z)))::Zv) Zi=S.mk 63 (Z5 sK::Z6 sL::Zo lb::Z7 mG::(10,P.d (D.int .i64 (↑(List.length (chunk (Int.toNat mG) lb)):Int)))::Zv) Zi/\((1:Int)<=mG/\mG<=Zd/\List.length lb<=1000000/\lb≠[]/\List.length (chunk (Int.toNat mG) lb)<=1000)/\ ∀(o:List cL),o=ni sK sL lb mG->Zs ae o)))))=(kS [] [(10,bg (mE 10 10) wB)] 10 [iD a,iD n,sD s,iD z] []) ae:=by kernel_rfl
abbrev CD(l m:List cL)(i:Int):S:=⟨26,[(0,.d (.sl 5 (l.map eK))),(1,.d (.sl 5 (m.map eK))),(5,iD i)],[]⟩
def Zx(l:List cL):P:=P.d (D.sl 5 (List.map eK l))
def Zw(l:List cL):Int:=(↑(List.length (List.map eK l)):Int)
theorem A8(l m:List cL)(i:Int)(ae:PX×S->Prop):(bif decide (i<Zw l) then ob (decide ((0:Int)<=i/\i<Zw l)) (ob (zM PR (37:TypeId) (Zb l i)) (ob (decide ((0:Int)<=i/\i<Zw m)) (ob (zM PR (37:TypeId) (Zb m i)) (bif !(D.cr (D.e7 (Zb l i) 0)==D.cr (D.e7 (Zb m i) 0)&&(D.cr (D.e7 (Zb l i) 1)==D.cr (D.e7 (Zb m i) 1)&&(D.cr (D.e7 (Zb l i) 2)==D.cr (D.e7 (Zb m i) 2)&&(D.cr (D.e7 (Zb l i) 3)==D.cr (D.e7 (Zb m i) 3)&&(D.oe (D.e7 (Zb l i) 4)==D.oe (D.e7 (Zb m i) 4)&&true))))) then ae (PX.ret,S.mk 26 [(4,P.d (D.bool false))] []) else ob (Ze i) (ae (PX.normal,S.mk 26 [(0,Zx l),(1,Zx m),(5,Zf i)] [])))))) else ae (PX.exit 0,S.mk 26 [] []))=(j8 [] [] 11 4 (CD l m i)) ae:=by kernel_rfl
def zD:S->K (PX×S):=λst ae=> ∃l m,st=CD l m 0/\(l.length=m.length/\l.length<=1000000)/\(l≠m->ae (.ret,⟨26,[(4,.d (.bool false))],[]⟩))/\(l=m->ae (.exit 0,⟨26,[],[]⟩))
def wC:hQ:=λps R ae=> ∃(l m:List cL),ps=[.d (.sl 5 (l.map eK)),.d (.sl 5 (m.map eK))]/\R=[]/\l.length<=1000000/\ ∀b,(b=true↔l=m)->ae (.d (.bool b),[])
def ZB(ae:P×List (Nat×En)->Prop):Prop:=ae (P.d (D.bool true),[])
def ZA(nY:List cL):Prop:=List.length nY<=1000000
def Zz(nY:List cL)(Ab:List cL):S:=S.mk 26 [(0,Zx nY),(1,Zx Ab),(5,Zq)] []
def Zy(ae:P×List (Nat×En)->Prop):Prop:=ae (P.d (D.bool false),[])
theorem zF(l m:List cL)(ae:P×List (Nat×En)->Prop):(bif Zw l !=Zw m then Zy ae else∃(nY:List cL) (Ab:List cL),Zz l m=Zz nY Ab/\(List.length nY=List.length Ab/\ZA nY)/\(nY≠Ab->Zy ae)/\(nY=Ab->ZB ae))=(kS [] [(4,bg (mE 11 4) zD)] 11 [.d (.sl 5 (l.map eK)),.d (.sl 5 (m.map eK))] []) ae:=by kernel_rfl
def rS:hQ:=λps R ae=>ps=[]/\R=[]/\ae (.d (.bool true),[])
def ZH:P:=P.d (D.sl 5 [])
def ZF(lb:List UInt8)(mG:Int):Prop:=List.length lb<=1000000/\mG<=Zd
def ZE(sK:Int)(sL:Int)(lb:List UInt8)(mG:Int):List P:=[P.d (Z2 sK),P.d (Z2 sL),P.d (D.str lb),P.d (Z2 mG)]
def ZD:Prop:=Et [] []
def ZC:Prop:=Es [] []
theorem zG(a n:Int)(s:List UInt8)(z:Int)(ae:P×List (Nat×En)->Prop):(bif decide (Z0 s>(5000:Int)) then ZC/\ZD/\ZB ae else∃(sK:Int) (sL:Int) (lb:List UInt8) (mG:Int),ZE a n s z=ZE sK sL lb mG/\ZD/\ZF lb mG/\(∀(e:Int),e=cM sK sL lb mG->e≠(0:Int)-> ∃(x0:Int) (x2:Int) (wD:List UInt8) (wE:Int),ZE a n s z=ZE x0 x2 wD wE/\ZD/\ZF wD wE/\(∀(CG:Int),CG=cM x0 x2 wD wE->CG≠(0:Int)->ZC/\ZD/\ ∃(l:List cL) (m:List cL),[ZH,ZH]=[Zx l,Zx m]/\ZD/\ZA l/\ ∀(b:Bool),(b=true↔l=m)->bif b then ae (P.d (D.bool (e==CG)),[]) else Zy ae)/\(cM x0 x2 wD wE=(0:Int)-> ∀(l:List cL),l=ni x0 x2 wD wE->ZC/\ZD/\ ∃(nY:List cL) (m:List cL),[ZH,P.d (D.sl 5 (Z8 l))]=[Zx nY,Zx m]/\ZD/\ZA nY/\ ∀(b:Bool),(b=true↔nY=m)->bif b then ae (P.d (D.bool (e==(0:Int))),[]) else Zy ae))/\(cM sK sL lb mG=(0:Int)-> ∀(l:List cL),l=ni sK sL lb mG-> ∃(x0:Int) (x2:Int) (wD:List UInt8) (wE:Int),ZE a n s z=ZE x0 x2 wD wE/\ZD/\ZF wD wE/\(∀(e:Int),e=cM x0 x2 wD wE->e≠(0:Int)->ZC/\ZD/\ ∃(nY:List cL) (m:List cL),[P.d (D.sl 5 (Z8 l)),ZH]=[Zx nY,Zx m]/\ZD/\ZA nY/\ ∀(b:Bool),(b=true↔nY=m)->bif b then ae (P.d (D.bool ((0:Int)==e)),[]) else Zy ae)/\(cM x0 x2 wD wE=(0:Int)-> ∀(nY:List cL),nY=ni x0 x2 wD wE->ZC/\ZD/\ ∃(CH:List cL) (m:List cL),[P.d (D.sl 5 (Z8 l)),P.d (D.sl 5 (Z8 nY))]=[Zx CH,Zx m]/\ZD/\ZA CH/\ ∀(b:Bool),(b=true↔CH=m)->bif b then ZB ae else Zy ae)))=(kS [(8,rS),(9,ud),(10,ud),(11,wC)] [] 3 [iD a,iD n,sD s,iD z] []) ae:=by kernel_rfl
def rT:hQ:=λps R ae=> ∃l c,ps=[.d (.sl 1 (l.map D.str)),sD c]/\R=[]/\(l.length<=1000000/\(Lib.join l c).length<=1000000)/\ae (sD (Lib.join l c),[])
theorem zH(ae:P×List (Nat×En)->Prop):(∃(l:List (List UInt8)) (c:List UInt8),[P.d (D.sl 1 [D.str [(97:UInt8),(98:UInt8)],D.str [(99:UInt8),(100:UInt8)],D.str [(101:UInt8)]]),P.d (D.str [])]=[P.d (D.sl 1 (List.map D.str l)),P.d (D.str c)]/\ZD/\(List.length l<=1000000/\List.length (Lib.join l c)<=1000000)/\bif Lib.join l c==[(97:UInt8),(98:UInt8),(99:UInt8),(100:UInt8),(101:UInt8)] then ZB ae else Zy ae)=(kS [(17,rT)] [] 8 [] []) ae:=by kernel_rfl
theorem fV{p:Prop}{i:Decidable p}{A:Prop}(h1:p)(h2:A):cond (@decide p i) A False:=by rw[zbH h1];exact h2
theorem eT{p:Prop}{i:Decidable p}{A B:Prop}(h1:p->A)(h2: ¬p->B):cond (@decide p i) A B:=by
 by_cases h:p
 ·rw[zbH h];exact h1 h
 rw[zb4 h];exact h2 h
theorem zI(x:cL):zM PR 37 (eK x)=true:=by obtain⟨a,b,c,d,e⟩:=x;kernel_rfl
theorem rU{l:List cL}{i:Nat}(h:i<l.length):D.nth (l.map eK) i=eK l[i]:=by unfold D.nth;simp[zah,h]
theorem ly(l:List cL):List.take l.length (l.map eK)=l.map eK:=zat (by simp)
section
variable{X:XF}
theorem x3:LD X 9 8 (bg (mE 9 8) zx):=LD.par (H:=[]) (hk:=[]) (by kernel_rfl) (by kernel_rfl) .nil .nil
 (A:=Int×Int×Int×List UInt8) (B:=List UInt8×List (List UInt8)) (λa b=>CC a.1 a.2.1 b.1 a.2.2.1 (kT a.1 a.2.1 0 b.2))
 (λa b=>(1<=a.2.2.1/\a.2.2.2.length<=1000000/\(chunk a.2.2.1.toNat a.2.2.2).length<=1000)/\b.2++chunk a.2.2.1.toNat b.1=chunk a.2.2.1.toNat a.2.2.2/\b.1.length<=1000000)
 (λ_ b=>b.1.length)
 (λa x=>x=(.exit 1,xY (kT a.1 a.2.1 0 (chunk a.2.2.1.toNat a.2.2.2))))
 (by
  rintro⟨a,n,z,s0⟩ ⟨s,ps⟩ ⟨⟨hz,wk,hc⟩,hp,hs⟩;dsimp only at*
  (rw[<-A6];delta Za Z9 Z8 Z2 Z7 Z0 Z6 Z5 Z3 Z4 Z1)
  refine qq (λh=> ?_) λh=> ?_
  ·have bz:s≠[]:=λe=>by subst e;simp at h
   have hl:0<s.length:=zaG.2 bz;have e1:List.drop (Int.toNat (min z (s.length:Int))) (List.take s.length s)=s.drop z.toNat:=by
    rw[zbw];by_cases tf:z<=s.length
    ·rw[zb5 tf]
    rw[zbX (by omega),zaK (by simp),zaK (by omega)]
   have e2:List.drop 0 (List.take (Int.toNat (min z (s.length:Int))) s)=s.take z.toNat:=by
    rw[zb7];by_cases tf:z<=s.length
    ·rw[zb5 tf]
    rw[zbX (by omega),zat (by simp),zat (by omega)]
   rw[e1,e2];have Dp:(ps++[s.take z.toNat])++chunk z.toNat (s.drop z.toNat)=chunk z.toNat s0:=by rw[<-hp,jf (by omega) bz,zbh,List.singleton_append]
   have yE:ps.length+1<=1000:=by have:=congrArg List.length Dp;simp only[zaq,zbD] at this;omega
   have la:List.take (kT a n 0 ps).length ((kT a n 0 ps).map eK)++[D.agg [D.int IntKind.i64 a,D.int IntKind.i64 n,D.int IntKind.i64 ((kT a n 0 ps).length:Int),D.int IntKind.i64 0,D.str (s.take z.toNat)]]=(kT a n 0 (ps++[s.take z.toNat])).map eK:=by rw[ly,qC,zbg,bS];rfl
   rw[la];have hlen:(kT a n 0 ps).length+[D.agg [D.int IntKind.i64 a,D.int IntKind.i64 n,D.int IntKind.i64 ((kT a n 0 ps).length:Int),D.int IntKind.i64 0,D.str (s.take z.toNat)]].length=(kT a n 0 (ps++[s.take z.toNat])).length:=by rw[bS,bS,zaq];rfl
   rw[hlen];refine fV ⟨by omega,by omega⟩ (rP ?_ (fV ⟨by omega,by omega⟩ ?_))
   ·rw[zaD,bS,bS,zaq,zbD];simp only[de,zad,za7];omega
   refine⟨_,?_,(s.drop z.toNat,ps++[s.take z.toNat]),rfl,⟨⟨hz,wk,hc⟩,Dp,?_⟩,rfl⟩
   ·rw[zaC];omega
   dsimp only;rw[zaC];omega
  have bz:s=[]:=by simpa using h
  subst bz;rw[j9,zb3] at hp;rw[<-hp];rfl)
 (by rintro st ae ⟨a,n,s,z,rfl,hc,hp⟩;refine⟨(a,n,z,s),(s,[]),rfl,⟨hc,rfl,hc.2.1⟩,?_⟩;rintro x rfl;exact hp _ rfl)
theorem fA(N:Int)(i:Nat)(l:List cL):(fU N i l).length=l.length:=by simp only[fU,zaq,zaD,za9,zaC];omega
theorem wF(N:Int){i:Nat}{l:List cL}(h:i<l.length):(fU N i l)[i]'(by rw[fA];exact h)=l[i]:=by
 have hl:((l.take i).map (λx:cL=>((x.1,x.2.1,x.2.2.1,N,x.2.2.2.2):cL))).length=i:=by rw[zaD,za9];omega
 simp only[fU];rw[List.getElem_append_right (by omega)];have:min i l.length=i:=by omega
 simp[this]
theorem uf(N:Int){i:Nat}{l:List cL}(h:i<l.length):(fU N i l).set i (l[i].1,l[i].2.1,l[i].2.2.1,N,l[i].2.2.2.2)=fU N (i+1) l:=by
 have hl:((l.take i).map (λx:cL=>((x.1,x.2.1,x.2.2.1,N,x.2.2.2.2):cL))).length=i:=by rw[zaD,za9];omega
 simp only[fU];rw[List.set_append_right _ _ (by omega),hl,Nat.sub_self,zbq h,List.set_cons_zero,List.take_succ_eq_append_getElem h,zbg,zbh];rfl
theorem wG(a n:Int)(ps:List (List UInt8)):fU (ps.length:Int) ps.length (kT a n 0 ps)=kT a n ps.length ps:=by unfold fU;rw[zat (by rw[bS];exact zag _),zaK (by rw[bS];exact zag _),zb3];simp[kT]
theorem wH:LD X 9 13 (bg (mE 9 13) wA):=LD.par (H:=[]) (hk:=[]) (by kernel_rfl) (by kernel_rfl) .nil .nil
 (A:=List cL) (B:=Int) (λo i=>zy (fU o.length i.toNat o) o.length i)
 (λo i=>o.length<=1000/\0<=i/\i<=o.length)
 (λo i=>(o.length-i).toNat)
 (λo x=>x=(.exit 3,xY (fU o.length o.length o)))
 (by
  rintro o i ⟨hm,h0,h1⟩
  (rw[<-zz];delta Za Z3 Zf Z2 Z9 Zd Zc Ze Zb)
  refine eT (λh=> ?_) λh=> ?_
  ·have hi:i.toNat<o.length:=by omega
   have Bx:i.toNat<(fU o.length i.toNat o).length:=by rw[fA];exact hi
   rw[rU Bx,wF _ hi];generalize hy:o[i.toNat]=y;have la:List.set ((fU o.length i.toNat o).map eK) i.toNat (D.db (D.agg [D.int IntKind.i64 (D.cr (D.e7 (eK y) 0)),D.int IntKind.i64 (D.cr (D.e7 (eK y) 1)),D.int IntKind.i64 (D.cr (D.e7 (eK y) 2)),D.int IntKind.i64 (D.cr (D.e7 (eK y) 3)),D.str (D.oe (D.e7 (eK y) 4))]) [D.int IntKind.i64 (D.cr (D.e7 (eK y) 0)),D.int IntKind.i64 (D.cr (D.e7 (eK y) 1)),D.int IntKind.i64 (D.cr (D.e7 (eK y) 2)),D.int IntKind.i64 ((fU o.length i.toNat o).length:Int),D.str (D.oe (D.e7 (eK y) 4))])=(fU o.length (i+1).toNat o).map eK:=by
    have e:(i+1).toNat=i.toNat+1:=by omega
    rw[e,<-uf _ hi,List.map_set,hy,fA];rfl
   rw[la];refine fV ⟨h0,by rw[fA];omega⟩ (fV (by rw[zaD];exact Bx) (rP (zI y) (fV (by omega) ?_)));have hl:(fU o.length i.toNat o).length=(fU o.length (i+1).toNat o).length:=by rw[fA,fA]
   rw[hl];exact⟨_,by omega,i+1,rfl,⟨hm,by omega,by omega⟩,rfl⟩
  have e:i.toNat=o.length:=by omega
  rw[e];rfl)
 (by rintro st ae ⟨o,rfl,hm,hp⟩;refine⟨o,0,rfl,⟨hm,Int.le_refl 0,by omega⟩,?_⟩;rintro x rfl;exact hp _ rfl)
theorem mH{a n:Int}{s:List UInt8}{z:Int}(h:cM a n s z=0):(1<=a/\a<=16/\0<=n/\1<=z)/\s≠[]/\(s.length-1)/z.toNat<1000/\(chunk z.toNat s).length=(s.length-1)/z.toNat+1:=by
 unfold cM at h;split at h
 ·cases h
 split at h
 ·cases h
 rename_i h1 h2;split at h
 ·cases h
 exact⟨by omega,h2,by omega,kc (by omega) s h2⟩
theorem qD{s:List UInt8}{z:Int}(hs:s≠[])(hz:1<=z):Int.tdiv ((s.length:Int)-1) z=((s.length-1)/z.toNat:Nat):=by
 have hl:0<s.length:=zaG.2 hs;have e1:((s.length:Int)-1)=((s.length-1:Nat):Int):=by omega
 have e2:z=(z.toNat:Int):=by omega
 rw[e1]
 conv=>lhs;rw[e2]
 exact(Int.ofNat_tdiv _ _).symm
theorem A9:FD X 9 ud:=FD.mk (H:=[]) (hk:=[(8,bg (mE 9 8) zx),(13,bg (mE 9 13) wA)]) (by kernel_rfl) .nil (.cons x3 (.cons wH .nil)) (by
 intro ps R ae hh;obtain⟨a,n,s,z,rfl,rfl,⟨hs,BE⟩,h1,h2⟩:=hh
 (rw[<-A7];delta Za Zq Zs Z3 Z9 Zr Zi Zh Z2 Z7 Zo Z6 Z5 Zp Zn Z0 Zd Zc Zm Zl Zk Zj Zg)
 have bad: ∀e:Int,cM a n s z=e->e≠0->ae (P.dR [P.sl 0 0 0,iD e],[(0,⟨0,none,nh false []⟩)]):=λe he bz=>h1 e he.symm bz;refine eT (λg=>bad 1 (by unfold cM;rw[zax (.inl g)]) (by decide)) λg1=>eT (λg=>bad 1 (by unfold cM;rw[zax (.inr (.inl (by omega)))]) (by decide)) λg2=>eT (λg=>bad 1 (by unfold cM;rw[zax (.inr (.inr (.inl g)))]) (by decide)) λg3=>eT (λg=>bad 1 (by unfold cM;rw[zax (.inr (.inr (.inr g)))]) (by decide)) λg4=> ?_;have hn: ¬(a<1\/16<a\/n<0\/z<1):=by omega
 refine qq (λg=>bad 10 (by unfold cM;rw[zaB hn,zax (by simpa using g)]) (by decide)) λg5=> ?_;have bz:s≠[]:=by simpa using g5
 have hl:0<s.length:=zaG.2 bz;have EK:(s.length-1)/z.toNat<=s.length-1:=Nat.div_le_self _ _;have E6:(0:Int)<=((s.length-1:Nat):Int)/(z.toNat:Int):=Int.ediv_nonneg (Int.natCast_nonneg _) (Int.natCast_nonneg _);rw[qD bz (by omega)];refine fV (by omega) (rP (by simp;omega) (fV (by omega) (eT (λg=>bad 2 (by unfold cM;rw[zaB hn,zaB bz,zax (by omega)]) (by decide)) λg6=> ?_)));have h0:cM a n s z=0:=by unfold cM;rw[zaB hn,zaB bz,zaB (by omega)]
 obtain⟨_,_,c1,c2⟩:=mH h0;refine⟨a,n,s,z,rfl,⟨by omega,hs,by omega⟩,λo ho=>⟨o,rfl,by rw[ho,bS];omega,λo' oV=>h2 h0 o' ?_⟩⟩;rw[oV,ho,bS];exact wG a n _)
theorem wI:LD X 10 10 (bg (mE 10 10) wB):=LD.par (H:=[]) (hk:=[]) (by kernel_rfl) (by kernel_rfl) .nil .nil
 (A:=Int×Int×Int×List UInt8) (B:=Int) (λa i=>zA a.1 a.2.1 a.2.2.2 a.2.2.1 (chunk a.2.2.1.toNat a.2.2.2).length (kT a.1 a.2.1 (chunk a.2.2.1.toNat a.2.2.2).length ((chunk a.2.2.1.toNat a.2.2.2).take i.toNat)) i)
 (λa i=>(1<=a.2.2.1/\a.2.2.1<=9223372036854775807/\a.2.2.2.length<=1000000/\a.2.2.2≠[]/\(chunk a.2.2.1.toNat a.2.2.2).length<=1000)/\0<=i/\i<=(chunk a.2.2.1.toNat a.2.2.2).length)
 (λa i=>((chunk a.2.2.1.toNat a.2.2.2).length-i).toNat)
 (λa x=>x=(.exit 0,⟨63,[(11,.sl 0 0 (ni a.1 a.2.1 a.2.2.2 a.2.2.1).length)],[(0,⟨0,none,nh false (ni a.1 a.2.1 a.2.2.2 a.2.2.1)⟩)]⟩))
 (by
  rintro⟨a,n,z,s⟩ i ⟨⟨hz,BE,hs,bz,hc⟩,h0,h1⟩;dsimp only at*
  (rw[<-zB];delta Za Z8 Zf Z2 Z7 Zo Z6 Z5 Z0 Zt Zd Zc Ze)
  have yO:=kc (z:=z.toNat) (by omega) s bz;have hl:0<s.length:=zaG.2 bz;refine eT (λh=> ?_) λh=> ?_
  ·have hi:i.toNat<(chunk z.toNat s).length:=by omega
   have hmul:i.toNat*z.toNat<=s.length-1:=by
    have h3:i.toNat<=(s.length-1)/z.toNat:=by omega
    exact zaA (zaf _ h3) (Nat.div_mul_le_self _ _)
   have e1:i*z=((i.toNat*z.toNat:Nat):Int):=by rw[Int.natCast_mul,zbK h0,zbK (by omega)]
   have e2:(i+1)*z=((i.toNat*z.toNat:Nat):Int)+z:=by rw[Int.add_mul,Int.one_mul,e1]
   have E7:(i.toNat*z.toNat:Nat)+z<=9223372036854775807:=by
    by_cases yS:i=0
    ·subst yS;simp;omega
    have:1*z.toNat<=i.toNat*z.toNat:=zaf _ (by omega);omega
   rw[e2,e1];generalize hm:i.toNat*z.toNat=m at*
   have EL:List.drop (Int.toNat (m:Int)) (List.take (Int.toNat (min (s.length:Int) ((m:Int)+z))) s)=(s.drop m).take z.toNat:=by
    rw[Int.toNat_natCast,List.take_drop];congr 1;by_cases tf:(m:Int)+z<=s.length
    ·rw[zbX tf,show((m:Int)+z).toNat=m+z.toNat by omega]
    rw[zb5 (by omega),Int.toNat_natCast,zbw,zat (by omega)]
   rw[EL];have hg:=uc (z:=z.toNat) (by omega) s i.toNat hi;rw[hm] at hg;have CI:(chunk z.toNat s).take (i+1).toNat=(chunk z.toNat s).take i.toNat++[(s.drop m).take z.toNat]:=by rw[show(i+1).toNat=i.toNat+1 by omega,zbP,hg];rfl
   have vF:((chunk z.toNat s).take i.toNat).length=i.toNat:=by rw[za9];omega
   have la:List.take (kT a n (chunk z.toNat s).length ((chunk z.toNat s).take i.toNat)).length ((kT a n (chunk z.toNat s).length ((chunk z.toNat s).take i.toNat)).map eK)++[D.agg [D.int IntKind.i64 a,D.int IntKind.i64 n,D.int IntKind.i64 i,D.int IntKind.i64 ((chunk z.toNat s).length:Int),D.str ((s.drop m).take z.toNat)]]=(kT a n (chunk z.toNat s).length ((chunk z.toNat s).take (i+1).toNat)).map eK:=by rw[ly,CI,qC,zbg,vF,zbK h0];rfl
   have hlen:(kT a n (chunk z.toNat s).length ((chunk z.toNat s).take i.toNat)).length+[D.agg [D.int IntKind.i64 a,D.int IntKind.i64 n,D.int IntKind.i64 i,D.int IntKind.i64 ((chunk z.toNat s).length:Int),D.str ((s.drop m).take z.toNat)]].length=(kT a n (chunk z.toNat s).length ((chunk z.toNat s).take (i+1).toNat)).length:=by rw[CI,bS,bS,zaq];rfl
   rw[la,hlen];refine fV (by omega) (fV (by omega) (fV (by omega) (fV (by omega) (fV (by omega) (rP ?_ (fV (by omega) ⟨_,?_,i+1,rfl,⟨⟨hz,BE,hs,bz,hc⟩,by omega,by omega⟩,rfl⟩))))))
   ·rw[zaD,bS,bS,CI,zaq,zbD];simp only[de,zad,za7];omega
   omega
  have e:(chunk z.toNat s).take i.toNat=chunk z.toNat s:=zat (by omega);rw[e];rfl)
 (by rintro st ae ⟨a,n,s,z,rfl,hc,hp⟩;refine⟨(a,n,z,s),0,rfl,⟨hc,Int.le_refl 0,by omega⟩,?_⟩;rintro x rfl;exact hp _ rfl)
theorem zJ:FD X 10 ud:=FD.mk (H:=[]) (hk:=[(10,bg (mE 10 10) wB)]) (by kernel_rfl) .nil (.cons wI .nil) (by
 intro ps R ae hh;obtain⟨a,n,s,z,rfl,rfl,⟨hs,BE⟩,h1,h2⟩:=hh
 (rw[<-zC];delta Za Zq Zs Zi Zh Zv Z2 Z7 Zo Z6 Z5 Zn Zd Z0 Zu Zc Zm Zl Zk Zj Zg)
 have bad: ∀e:Int,cM a n s z=e->e≠0->ae (P.dR [P.sl 0 0 0,iD e],[(0,⟨0,none,nh false []⟩)]):=λe he bz=>h1 e he.symm bz;refine eT (λg=>bad 1 (by unfold cM;rw[zax (.inl g)]) (by decide)) λg1=>eT (λg=>bad 1 (by unfold cM;rw[zax (.inr (.inl (by omega)))]) (by decide)) λg2=>eT (λg=>bad 1 (by unfold cM;rw[zax (.inr (.inr (.inl g)))]) (by decide)) λg3=>eT (λg=>bad 1 (by unfold cM;rw[zax (.inr (.inr (.inr g)))]) (by decide)) λg4=> ?_;have hn: ¬(a<1\/16<a\/n<0\/z<1):=by omega
 refine qq (λg=>bad 10 (by unfold cM;rw[zaB hn,zax (by simpa using g)]) (by decide)) λg5=> ?_;have bz:s≠[]:=by simpa using g5
 have hl:0<s.length:=zaG.2 bz;have EK:(s.length-1)/z.toNat<=s.length-1:=Nat.div_le_self _ _;have h0: ¬1000<=(s.length-1)/z.toNat->cM a n s z=0:=λg=>by unfold cM;rw[zaB hn,zaB bz,zaB g]
 have Al:1000<=(s.length-1)/z.toNat->cM a n s z=2:=λg=>by unfold cM;rw[zaB hn,zaB bz,zax g]
 have c2:((chunk z.toNat s).length:Int)=(((s.length-1)/z.toNat:Nat):Int)+1:=by rw[kc (by omega) s bz];rfl
 rw[qD bz (by omega)];generalize hk:(s.length-1)/z.toNat=k at*
 have E8:(0:Int)<=(k:Int)/\(k:Int)<=1000000:=by omega
 have zV: ∀g:Int,(g=(k:Int))->(1000<=k↔1000<=g):=λg hg=>by omega
 generalize hq:(k:Int)=q at*
 have zV:=zV q rfl;refine fV (by omega) (rP (by simp;omega) (fV (by omega) (fV (by omega) (eT (λg=>bad 2 (Al (zV.2 (by omega))) (by decide)) λg6=> ?_))));have h0:=h0 λh=>g6 (by have:=zV.1 h;omega);rw[<-c2];exact⟨a,n,s,z,rfl,⟨by omega,BE,hs,bz,by omega⟩,λo ho=>h2 h0 o ho⟩)
end
theorem kU: ∀l:List (List UInt8),gZ (l.map D.str)=some l
 | []=>rfl
 |x::l=>by simp[gZ,kU l]
theorem Ba(x y:cL):(D.cr (D.e7 (eK x) 0)==D.cr (D.e7 (eK y) 0)&&(D.cr (D.e7 (eK x) 1)==D.cr (D.e7 (eK y) 1)&&(D.cr (D.e7 (eK x) 2)==D.cr (D.e7 (eK y) 2)&&(D.cr (D.e7 (eK x) 3)==D.cr (D.e7 (eK y) 3)&&(D.oe (D.e7 (eK x) 4)==D.oe (D.e7 (eK y) 4)&&true)))))=decide (x=y):=by obtain⟨a,b,c,d,e⟩:=x;obtain⟨a',b',c',d',e'⟩:=y;show(a==a'&&(b==b'&&(c==c'&&(d==d'&&(e==e'&&true)))))=_;rw[Bool.eq_iff_iff];simp
section
variable{X:XF}
theorem x4:FD X 17 rT:=FD.Ck Try.func17 (by kernel_rfl) (by kernel_rfl) (by intro ps R ae hh;obtain⟨l,c,rfl,rfl,hc,hp⟩:=hh;refine⟨_,?_,hp⟩;show qB [.d (.sl 1 (l.map D.str)),.d (.str c)] []=_;unfold qB;simp only[kU];exact zax ⟨by omega,by omega⟩)
theorem x5:LD X 11 4 (bg (mE 11 4) zD):=LD.par (H:=[]) (hk:=[]) (by kernel_rfl) (by kernel_rfl) .nil .nil
 (A:=List cL×List cL) (B:=Int) (λa k=>CD a.1 a.2 k)
 (λa k=>(a.1.length=a.2.length/\a.1.length<=1000000)/\(0<=k/\k.toNat<=a.1.length)/\a.1.take k.toNat=a.2.take k.toNat)
 (λa k=>(a.1.length-k).toNat)
 (λa x=>(a.1≠a.2/\x=(.ret,⟨26,[(4,.d (.bool false))],[]⟩))\/(a.1=a.2/\x=(.exit 0,⟨26,[],[]⟩)))
 (by
  rintro⟨v,w⟩ k ⟨⟨hl,hm⟩,⟨h0,h1⟩,ht⟩;dsimp only at*
  (rw[<-A8];delta Zf Zx Zd Zc Ze Zb Zw)
  simp only[zaD];refine eT (λh=> ?_) λh=> ?_
  ·have hk:k.toNat<v.length:=by omega
   have r9:k.toNat<w.length:=by omega
   rw[rU hk,rU r9,Ba];refine fV ⟨h0,by omega⟩ (rP (zI _) (fV ⟨h0,by omega⟩ (rP (zI _) (qq (λh2=> ?_) λh2=>fV (by omega) ?_))))
   ·refine .inl ⟨λe=> ?_,rfl⟩;subst e;simp at h2
   refine⟨_,?_,k+1,rfl,⟨⟨hl,hm⟩,⟨by omega,by omega⟩,?_⟩,rfl⟩
   ·omega
   have h3:v[k.toNat]=w[k.toNat]:=by simpa using h2
   rw[show(k+1).toNat=k.toNat+1 by omega,zbP,zbP,ht,zab hk,zab r9,h3]
  refine .inr ⟨?_,rfl⟩;rw[zat (by omega),zat (by omega)] at ht;exact ht)
 (by
  rintro s ae ⟨v,w,rfl,⟨hl,hm⟩,h1,h2⟩;refine⟨(v,w),0,rfl,⟨⟨hl,hm⟩,⟨by decide,by simp⟩,by simp⟩,?_⟩;rintro x (⟨h3,rfl⟩| ⟨h3,rfl⟩)
  ·exact h1 h3
  exact h2 h3)
theorem x6:FD X 11 wC:=FD.mk (H:=[]) (hk:=[(4,bg (mE 11 4) zD)]) (by kernel_rfl) .nil (.cons x5 .nil) (by
 intro ps R ae hh;obtain⟨v,w,rfl,rfl,hm,hp⟩:=hh
 (rw[<-zF];delta ZB ZA Zq Zx Zz Zy Zw)
 simp only[zaD];refine qq (λh=> ?_) λh=>⟨v,w,rfl,⟨by simp at h;omega,hm⟩,λh=>hp false ⟨λh2=>(by cases h2),λh2=>absurd h2 h⟩,λh=>hp true ⟨λ_=>h,λ_=>rfl⟩⟩
 exact hp false ⟨λh2=>(by cases h2),λh2=>by subst h2;simp at h⟩)
theorem ug:FD X 8 rS:=FD.mk (H:=[(17,rT)]) (hk:=[]) (by kernel_rfl) (.cons x4 .nil) .nil (by
 intro ps R ae hh;obtain⟨rfl,rfl,hp⟩:=hh
 (rw[<-zH];delta Zy ZB ZD)
 exact⟨[[97,98],[99,100],[101]],[],rfl,rfl,⟨by decide,by decide⟩,AV (by decide) hp⟩)
def Bb:hQ:=λps R ae=> ∃a n s z,ps=[iD a,iD n,sD s,iD z]/\R=[]/\z<=9223372036854775807/\ae (.d (.bool true),[])
theorem wJ{a n:Int}{s:List UInt8}{z:Int}(h:cM a n s z=0):(ni a n s z).length<=1000:=by obtain⟨_,_,h1,h2⟩:=mH h;unfold ni;rw[bS];omega
theorem zK:FD X 3 Bb:=FD.mk (H:=[(8,rS),(9,ud),(10,ud),(11,wC)]) (hk:=[]) (by kernel_rfl) (.cons ug (.cons A9 (.cons zJ (.cons x6 .nil)))) .nil (by
 intro ps R ae hh;obtain⟨a,n,s,z,rfl,rfl,hz,hp⟩:=hh
 (rw[<-zG];delta Z8 Zy ZA Zx ZH Zd ZF Z2 ZE ZB ZD ZC Z0)
 refine eT (λ_=>⟨rfl,rfl,hp⟩) λh=>⟨a,n,s,z,rfl,rfl,⟨by omega,hz⟩,λe he bz=>⟨a,n,s,z,rfl,rfl,⟨by omega,hz⟩,λe1 jJ Bc=>⟨rfl,rfl,[],[],rfl,rfl,by decide,λb hb=> ?_⟩,λh0=>absurd (he.trans h0) bz⟩,λh0 l hl=>⟨a,n,s,z,rfl,rfl,⟨by omega,hz⟩,λe1 jJ Bc=>absurd (jJ.trans h0) Bc,λ_ l1 EM=>⟨rfl,rfl,l,l1,by rw[ly,ly],rfl,by rw[hl];have:=wJ h0;omega,λb hb=> ?_⟩⟩⟩
 ·rw[hb.2 rfl,he,jJ];simp only[zbS,zby];exact hp
 rw[hb.2 (by rw[hl,EM])];exact hp)
end
theorem jI(xs:List D)(h:je PR 8 [3,3,9,3] xs): ∃lf k R,dh PR (Aa wz) lf k 3 (xs.map P.d) []=some (.d (.bool true),R):=by obtain⟨x,r,rfl,hx,h⟩:=fitAll_cons h;obtain⟨y,r,rfl,hy,h⟩:=fitAll_cons h;obtain⟨u,r,rfl,hu,h⟩:=fitAll_cons h;obtain⟨v,r,rfl,hv,h⟩:=fitAll_cons h;have e:=fitAll_nil h;subst e;obtain⟨a,rfl,_⟩:=mA Try.underlying3 hx;obtain⟨n,rfl,_⟩:=mA Try.underlying3 hy;obtain⟨s,rfl,_⟩:=wu Try.underlying9 hu;obtain⟨z,rfl,hz⟩:=mA Try.underlying3 hv;obtain⟨lf,k,hr⟩:=(zK (X:=wz)).run (y:=(.d (.bool true),[])) ⟨a,n,s,z,rfl,rfl,(zn hz).2,rfl⟩;exact⟨lf,k,[],hr⟩
end Pi
