/- The texts X3Shelf XBld K3 X3 S3 FrP Fr1 Fr2 Fr3 Fr4 Fr5 Fr6 QP Fr1H FrQ Fr8 Fr2H Fr4H Fr8H FrR Fr6H Fr7 Fr7H Fr20H Fr10 Fr10H. -/
import Derived.Test.YtfelfooeclnbiaaEbo
import Derived.Shelf.LaysM
import Derived.Shelf.LaysC
import Derived.Shelf.Strings.OnBuilder
import Derived.Test.YtfelfooeclnbiaaProg
import Derived.KernelRfl
namespace Go.Proofs
open Go.Shelf
def Try.aC:Go.Shelf.Ren:=⟨λ|169=>25 |n=>n,λ|70=>70 |9=>9 |0=>0 |72=>72 |37=>46 |127=>79 |3=>3 |5=>5 |n=>n,λ|n=>n⟩
theorem Try.p5:Go.Proofs.Lays.n169 Try.prog Try.aC:={
 mixed:=by kernel_rfl
 f169:=Try.func25.trans (congrArg some (by kernel_rfl))
 t0:=Try.underlying0
 a0:=Try.isAgg0
 z0:=Try.sizeOf0
 v0:=Try.zeroValue0
 t3:=Try.underlying3
 a3:=Try.isAgg3
 z3:=Try.sizeOf3
 v3:=Try.zeroValue3
 t9:=Try.underlying9
 a9:=Try.isAgg9
 z9:=Try.sizeOf9
 v9:=Try.zeroValue9
 t37:=Try.underlying46
 a37:=Try.isAgg46
 z37:=Try.sizeOf46
 v37:=Try.zeroValue46
 t70:=Try.underlying70
 a70:=Try.isAgg70
 z70:=Try.sizeOf70
 v70:=Try.zeroValue70
 t72:=Try.underlying72
 a72:=Try.isAgg72
 z72:=Try.sizeOf72
 v72:=Try.zeroValue72
 t127:=Try.underlying79
 a127:=Try.isAgg79
 z127:=Try.sizeOf79
 v127:=Try.zeroValue79}
theorem Try.di:Builder.Extra Try.prog Try.aC:={
 sizeBuilder:=by kernel_rfl
 liesBuilder:=by kernel_rfl
 t5:=Try.underlying5
 a5:=Try.isAgg5
 z5:=Try.sizeOf5
 v5:=Try.zeroValue5
 infoByte:=by kernel_rfl
 cellsByte:=by kernel_rfl
 sizeByte:=by kernel_rfl
 neB5:=by decide}
open Go.RowKit in
theorem Try.Builder_String(B b:Nat)(l:List UInt8)(w:World)(h:Lib.IsBuilder 72 5 B b (Lib.byteCells l) w)(h0:l≠[]):
 Calls Try.prog 25 #[.pointer (some ⟨b,0,none⟩)] w λe w'=>e= .returned (.string ⟨l.toArray⟩)/\Below B w w':=Any.Builder_String Try.p5 Try.di B b l w h h0
def Try.lF:Go.Shelf.Ren:=⟨λ|156=>17 |165=>23 |166=>24 |169=>25 |240=>26 |241=>27 |276=>28 |277=>29 |n=>n,λ|31=>59 |9=>9 |3=>3 |4=>4 |0=>0 |20=>20 |72=>72 |76=>76 |70=>70 |37=>46 |75=>75 |127=>79 |164=>80 |5=>5 |80=>78 |n=>n,λ|n=>n⟩
theorem Try.tU:Go.Proofs.Lays.n156 Try.prog Try.lF:={
 mixed:=by kernel_rfl
 f156:=Try.func17.trans (congrArg some (by kernel_rfl))
 f165:=Try.func23.trans (congrArg some (by kernel_rfl))
 f166:=Try.func24.trans (congrArg some (by kernel_rfl))
 f169:=Try.func25.trans (congrArg some (by kernel_rfl))
 f240:=Try.func26.trans (congrArg some (by kernel_rfl))
 f241:=Try.func27.trans (congrArg some (by kernel_rfl))
 f276:=Try.func28.trans (congrArg some (by kernel_rfl))
 f277:=Try.func29.trans (congrArg some (by kernel_rfl))
 t0:=Try.underlying0
 a0:=Try.isAgg0
 z0:=Try.sizeOf0
 v0:=Try.zeroValue0
 t3:=Try.underlying3
 a3:=Try.isAgg3
 z3:=Try.sizeOf3
 v3:=Try.zeroValue3
 t4:=Try.underlying4
 a4:=Try.isAgg4
 z4:=Try.sizeOf4
 v4:=Try.zeroValue4
 t9:=Try.underlying9
 a9:=Try.isAgg9
 z9:=Try.sizeOf9
 v9:=Try.zeroValue9
 t20:=Try.underlying20
 a20:=Try.isAgg20
 z20:=Try.sizeOf20
 v20:=Try.zeroValue20
 t31:=Try.underlying59
 a31:=Try.isAgg59
 z31:=Try.sizeOf59
 v31:=Try.zeroValue59
 t37:=Try.underlying46
 a37:=Try.isAgg46
 z37:=Try.sizeOf46
 v37:=Try.zeroValue46
 t70:=Try.underlying70
 a70:=Try.isAgg70
 z70:=Try.sizeOf70
 v70:=Try.zeroValue70
 t72:=Try.underlying72
 a72:=Try.isAgg72
 z72:=Try.sizeOf72
 v72:=Try.zeroValue72
 t75:=Try.underlying75
 a75:=Try.isAgg75
 z75:=Try.sizeOf75
 v75:=Try.zeroValue75
 t76:=Try.underlying76
 a76:=Try.isAgg76
 z76:=Try.sizeOf76
 v76:=Try.zeroValue76
 t127:=Try.underlying79
 a127:=Try.isAgg79
 z127:=Try.sizeOf79
 v127:=Try.zeroValue79
 t164:=Try.underlying80
 a164:=Try.isAgg80
 z164:=Try.sizeOf80
 v164:=Try.zeroValue80}
theorem Try.fe:Builder.Extra Try.prog Try.lF:={
 sizeBuilder:=by kernel_rfl
 liesBuilder:=by kernel_rfl
 t5:=Try.underlying5
 a5:=Try.isAgg5
 z5:=Try.sizeOf5
 v5:=Try.zeroValue5
 infoByte:=by kernel_rfl
 cellsByte:=by kernel_rfl
 sizeByte:=by kernel_rfl
 neB5:=by decide}
open Go.RowKit in
theorem Try.strings_Join_none(a:Option Addr)(c:Nat)(sep:ByteArray)(w:World):
 Calls Try.prog 17 #[.slice a 0 c,.string sep] w λe w'=>e= .returned (.string ⟨#[]⟩)/\w'=w:=Any.strings_Join_none Try.tU Try.fe a c sep w
open Go.RowKit in
theorem Try.strings_Join(bk o c:Nat)(xs:List ByteArray)(sep:ByteArray)(w:World)(Bk: ∀(j:Nat) x,xs[j]?=some x->w.cell? ⟨bk,o+j,none⟩=some (.string x))(yW:bk<w.heap.size)(hN:xs.length<=140737488355328)(jT:xs.length<=c)(hlen:(Lib.join (xs.map (·.data.toList)) sep.data.toList).length<=140737488355328):
 Calls Try.prog 17 #[.slice (some ⟨bk,o,none⟩) xs.length c,.string sep] w λe w'=>e= .returned (.string ⟨(Lib.join (xs.map (·.data.toList)) sep.data.toList).toArray⟩)/\Below w.heap.size w w':=Any.strings_Join Try.tU Try.fe bk o c xs sep w Bk yW hN jT hlen
end Go.Proofs
namespace Pi
open Go Go.Proofs Go.RowKit Go.Shelf
def CW:List D->Option (List UInt8)
 | []=>some []
 | .int .u8 n::r=>if 0<=n/\n<256 then(match CW r with |some l=>some (UInt8.ofNat n.toNat::l)|none=>none) else none
 |_=>none
theorem rq: ∀(es:List D) (l:List UInt8),CW es=some l->es=l.map λb=>D.int .u8 (b.toNat:Int)
 | [],l,h=>by simp[CW] at h;subst h;rfl
 |x::r,l,h=>by
  unfold CW at h;split at h
  next heq=>cases heq
  next n r' heq=>
   simp only[List.cons.injEq] at heq;obtain⟨rfl,rfl⟩:=heq;split at h
   ·rename_i hn;split at h
    next l' hl=>simp at h;subst h;rw[rq r l' hl];simp only[za7,List.cons.injEq,and_true];congr 1;simp only[UInt8.toNat_ofNat'];omega
    cases h
   cases h
  cases h
def sX:TF
 | [.ref 0 v 0],R=>match lk R 0 with
  |some e=>if Nat.beq e.ay v then(match e.obj with
   | .box 72 [.d .gC,x]=>some (.dW [],ins 0 ⟨e.ay,e.tag,.box 72 [.ref 0 v 0,x]⟩ R)
   | .box 72 [.ref 0 v' 0,_]=>if Nat.beq v' v then some (.dW [],R) else none
   |_=>none) else none
  |none=>none
 |_,_=>none
def Bl:TF
 | [.ref 0 v 0],R=>match lk R 0 with
  |some e=>if Nat.beq e.ay v then(match e.obj with
   | .box 72 [_,.d .dq]=>some (.d (.str []),R)
   | .box 72 [_,.sl m vm len]=>(match lk R m with
    |some em=>if Nat.beq em.ay vm then(match em.obj with
     | .arr 5 false es=>(match CW (es.take len) with
      |some l=>if Nat.beq l.length len&&Nat.blt 0 len then some (.d (.str l),ins m ⟨em.ay,em.tag,.gone⟩ R) else none
      |none=>none)
     |_=>none) else none
    |none=>none)
   |_=>none) else none
  |none=>none
 |_,_=>none
section
variable{w0:World}
theorem tV{F:Nat->Prop}{w:World}{G:Nat->Value}{R:List (Nat×En)}:ao F w G R (.tuple #[]) (.dW []):= .dW [] [] rfl (λi v c hv=>by simp at hv)
theorem p6{w:World}{b:Nat}{cs:Array Value}{T:TypeId}{fr:Nat×Nat}(h:w.heap[b]?=some (.cells cs T fr))(i:Nat)(v:Value):(w.setCell ⟨b,i,none⟩ v).heap[b]?=some (.cells (cs.setIfInBounds i v) T fr):=by simp[World.setCell,zbq,h]
theorem ji{w:World}{b c i:Nat}(h:c≠b)(v:Value):(w.setCell ⟨b,i,none⟩ v).heap[c]?=w.heap[c]?:=by simp[World.setCell,zbq,za1 h]
set_option maxHeartbeats 1000000 in
set_option maxRecDepth 100000 in
theorem Bm(b:Nat)(w:World)(h0:w.cell? ⟨b,0,none⟩=some (.pointer (some ⟨b,0,none⟩))):
  Calls Try.prog 26 #[.pointer (some ⟨b,0,none⟩)] w λe w'=>e= .returned (.tuple #[])/\w'=w:=by
 obtain⟨j,hj,_⟩:=zak.1 (show(Try.prog.info? 72).map (·.size)=some 2 by kernel_rfl);have a72:=Try.isAgg72;have z72:=Try.sizeOf72;have v72:=Try.zeroValue72;have E6:=run_underlying Try.underlying72;have a70:=Try.isAgg70;have z70:=Try.sizeOf70;have v70:=Try.zeroValue70;have E7:=run_underlying Try.underlying70;have a4:=Try.isAgg4;have z4:=Try.sizeOf4;have v4:=Try.zeroValue4;have u4:=run_underlying Try.underlying4;have E8:=run_underlying Try.underlying80;have mixed:Try.prog.follows .mixedOrders=true:=by kernel_rfl
 go_enter Try.func26,Try.ntmps26
 go_wp2
 rw[Lib.run_neq_ptr_same w _ Try.underlying70 hj]
 go_wp2
 go_end0
 exact⟨rfl,rfl⟩
set_option maxHeartbeats 1000000 in
set_option maxRecDepth 100000 in
theorem zy(b:Nat)(w:World)(h0:w.cell? ⟨b,0,none⟩=some (.pointer none))(tq:w.shape? b=some (72,2))(vL:w.frozen? ⟨b,0,none⟩=false):
  Calls Try.prog 26 #[.pointer (some ⟨b,0,none⟩)] w λe w'=>e= .returned (.tuple #[])/\w'=w.setCell ⟨b,0,none⟩ (.pointer (some ⟨b,0,none⟩)):=by
 obtain⟨j,hj,HM⟩:=zak.1 (show(Try.prog.info? 72).map (·.size)=some 2 by kernel_rfl);have HN:liesAt Try.prog Try.prog.depth 72 (2/Try.prog.cellsOf 72) 0 72 1=true:=by kernel_rfl
 have a72:=Try.isAgg72;have z72:=Try.sizeOf72;have v72:=Try.zeroValue72;have E6:=run_underlying Try.underlying72;have a70:=Try.isAgg70;have z70:=Try.sizeOf70;have v70:=Try.zeroValue70;have E7:=run_underlying Try.underlying70;have a4:=Try.isAgg4;have z4:=Try.sizeOf4;have v4:=Try.zeroValue4;have u4:=run_underlying Try.underlying4;have E8:=run_underlying Try.underlying80;have mixed:Try.prog.follows .mixedOrders=true:=by kernel_rfl
 go_enter Try.func26,Try.ntmps26
 go_wp2
 rw[Lib.run_to_unsafe w ⟨b,0,none⟩ Try.underlying70 Try.underlying80 hj (by rw[HM];decide) tq (Nat.zero_lt_succ 1)];simp only[Result.andThen];rw[Oper.upon_value]
 go_wp2
 rw[run_callFunc_extern Try.func28 (by kernel_rfl) (by kernel_rfl) (by kernel_rfl) (e:=Extern.AbiNoEscape.same) (by kernel_rfl)];rw[Lib.run_noEscape];simp only[Result.andThen];rw[Oper.upon_value]
 go_wp2
 rw[Lib.run_from_unsafe w ⟨b,0,none⟩ Try.underlying80 Try.underlying70 hj tq HN];simp only[Result.andThen];rw[Oper.upon_value]
 go_wp2
 go_end0
 exact⟨rfl,rfl⟩
theorem vv:DR Try.prog w0 26 sX:=by
 intro h0 ps R p R1 h F G w vs hH hl hv;unfold sX at h;split at h
 next v=>
  match vs,hl,hv with
  | [u],_,hv=>
   have hp:=hv 0 u _ rfl rfl;split at h
   ·rename_i e he;split at h
    ·rename_i hS;have hS:=zab hS;have hO:=hH.rg 0 e he;cases hp with
     |ref _ _ _ _ hr h1=>
      split at h
      ·rename_i x aO;rw[aO] at hO;obtain⟨b,hG,rfl⟩:=hr.at he hS (by rw[aO];rfl);obtain⟨b',cs,e7,hh,bM,cW,oe⟩:=hO;rw[hG] at e7;simp at e7;subst e7;simp only[zae,za4] at h;obtain⟨rfl,rfl⟩:=h;have c0:cs[0]?=some (.pointer none):=by
        have xG:0<cs.size:=by rw[bM];simp
        have:=oe 0 _ rfl;rw[nq xG];generalize cs.getD 0 undef=c at this;cases this with
        |d hd=>exact congrArg some (hd.cp rfl)
       have qz:b<w.heap.size:=(zan.1 hh).1;have mI:=zy b w (by rw[fw hh];exact c0) (by simp[World.shape?,hh,bM]) (by simp[World.frozen?,hh]);refine .inl ⟨enters Try.func26 (by kernel_rfl) (by kernel_rfl) _ w,mI.mono λe' w' ⟨bb,Ak⟩=>⟨_,bb,F,G,?_⟩⟩;subst Ak;have df:gx G R 0 ⟨e.ay,e.tag,.box 72 [.ref 0 v 0,x]⟩ (G 0):=λe1 nM=>by rw[he] at nM;cases nM;exact .inr ⟨rfl,λ_=>⟨by rw[aO];rfl,rfl⟩⟩
       have kG:=cz df;rw[aN] at kG;have yT: ¬F b:=hH.iO 0 e b he (by rw[aO];simp[aH,hG,au]);have hF: ∀c,F c->(w.setCell ⟨b,0,none⟩ (.pointer (some ⟨b,0,none⟩))).heap[c]?=w.heap[c]?:=λc hc=>ji (λe=>yT (by rw[<-e];exact hc)) _;obtain⟨d1,d2⟩:=ar.gL hH (e1:=⟨e.ay,e.tag,.box 72 [.ref 0 v 0,x]⟩) (g1:=G 0) (w':=w.setCell ⟨b,0,none⟩ (.pointer (some ⟨b,0,none⟩))) df
        (λc hc dY=>ji (λe'=>dY ⟨e,he,by rw[e',aO];simp[aH,hG,au]⟩) _) (by simp[World.setCell]) rfl rfl rfl
        (λc hc=> .inr ⟨e,he,by rw[aO];exact hc⟩)
        (by
         rw[aN];refine⟨b,_,hG,p6 hh 0 _,by simpa using bM,?_,?_⟩
         ·intro c hc;obtain⟨i,hi⟩:=List.mem_iff_getElem?.1 hc;rw[zbd,Array.getElem?_setIfInBounds] at hi;split at hi
          ·simp at hi;obtain⟨_,rfl⟩:=hi;rfl
          exact cW c (List.mem_iff_getElem?.2 ⟨i,by rw[zbd];exact hi⟩)
         intro i p hp
         match i with
         |0=>
          simp at hp;subst hp;have e0:(cs.setIfInBounds 0 (.pointer (some ⟨b,0,none⟩))).getD 0 undef= .pointer (some ⟨b,0,none⟩):=by
           have xG:0<cs.size:=by rw[bM];simp
           simp[zam,xG]
          rw[e0];exact .ref 0 v 0 _ ⟨_,aK _ _ _,by rw[hS];exact zaf _,λ_ _=>⟨b,hG,rfl⟩⟩ rfl
         |1=>
          simp at hp;subst hp;have e1:(cs.setIfInBounds 0 (.pointer (some ⟨b,0,none⟩))).getD 1 undef=cs.getD 1 undef:=by simp[zam]
          rw[e1];exact(oe 1 x rfl).mono (λ_ h=>h) hF kG
         |i+2=>simp at hp)
        (λi hi hl=>hH.tag 0 e i he hi (by rw[aO];rfl))
       rw[aN] at d1 d2;exact⟨d1,tV,d2⟩
      ·rename_i v' x aO;split at h
       ·rename_i tl;have tl:=zab tl;subst tl;rw[aO] at hO;obtain⟨b,hG,rfl⟩:=hr.at he hS (by rw[aO];rfl);obtain⟨b',cs,e7,hh,bM,cW,oe⟩:=hO;rw[hG] at e7;simp at e7;subst e7;simp only[zae,za4] at h;obtain⟨rfl,rfl⟩:=h;have c0:cs[0]?=some (.pointer (some ⟨b,0,none⟩)):=by
         have xG:0<cs.size:=by rw[bM];simp
         have:=oe 0 _ rfl;rw[nq xG];generalize cs.getD 0 undef=c at this;cases this with
         |ref _ _ _ _ HO _=>obtain⟨b2,CA,rfl⟩:=HO.at he hS (by rw[aO];rfl);rw[hG] at CA;simp at CA;subst CA;rfl
        have mI:=Bm b w (by rw[fw hh];exact c0);refine .inl ⟨enters Try.func26 (by kernel_rfl) (by kernel_rfl) _ w,mI.mono λe' w' ⟨bb,Ak⟩=>⟨_,bb,F,G,?_⟩⟩;subst Ak;exact⟨hH,tV,Ext.refl _ _ _⟩
       cases h
      cases h
    cases h
   cases h
 cases h
theorem rr{w:World}{g c n:Nat}(h:c≠g):(w.freeze ⟨g,0,none⟩ n).heap[c]?=w.heap[c]?:=by
 unfold World.freeze;split
 ·rfl
 simp[zbq,za1 h]
theorem ru{w:World}{g n:Nat}:(w.freeze ⟨g,0,none⟩ n).heap.size=w.heap.size:=by
 unfold World.freeze;split
 ·rfl
 simp
set_option maxHeartbeats 2000000 in
set_option maxRecDepth 100000 in
theorem zz(b g cap len:Nat)(p:Value)(cur:Array Value)(l:List UInt8)(w:World)(yW:w.heap[b]?=some (.cells #[p,.slice (some ⟨g,0,none⟩) len cap] 72 (0,0)))(hg:w.heap[g]?=some (.cells cur 5 (0,0)))
  (h0:l≠[]) (hlen:l.length=len) (jT:len<=cap) (nx:cap<=maxLen) (hcs:cap<=cur.size) (hb: ∀(j:Nat) (x:UInt8),l[j]?=some x->cur[j]?=some (Value.int IntKind.u8 (x.toNat:Int))):
  Calls Try.prog 25 #[.pointer (some ⟨b,0,none⟩)] w λe w'=>e= .returned (.string ⟨l.toArray⟩)/\w'=w.drew.freeze ⟨g,0,none⟩ l.length:=by
 subst hlen;have L:=Try.p5;have X:=Try.di;have yi:l.length≠0:=by simpa using h0
 have c1:w.drew.cell? ⟨b,1,none⟩=some (.slice (some ⟨g,0,none⟩) l.length cap):=by have:w.drew.heap[b]?=some (.cells #[p,.slice (some ⟨g,0,none⟩) l.length cap] 72 (0,0)):=yW;rw[Lib.cell_of_heap this];rfl
 have HP:(Builtin.unsafeSliceData_ #[(Try.aC.t 37)] (Try.aC.t 127) #[.slice (some ⟨g,0,none⟩) l.length cap]).run Try.prog w.drew= .ok (.pointer (some ⟨g,0,none⟩)) w.drew:=
  Lib.run_unsafeSliceData_row _ _ _ _ _ _ (by omega)
 have HQ:(Builtin.unsafeString_ #[(Try.aC.t 127),(Try.aC.t 3)] (Try.aC.t 9) #[.pointer (some ⟨g,0,none⟩),.int .i64 l.length]).run Try.prog w.drew= .ok (.string ⟨l.toArray⟩) (w.drew.freeze ⟨g,0,none⟩ l.length):=by refine Lib.run_unsafeString_row w.drew (Try.aC.t 127) (Try.aC.t 3) (Try.aC.t 9) (Try.aC.t 5) L.t127 X.cellsByte g cur.size (by have sc:w.drew.heap[g]?=some (.cells cur (Try.aC.t 5) (0,0)):=hg;simp[World.shape?,sc]) l h0 (by omega) (by unfold maxLen at nx;omega) ?_;intro j x hx;have sc:w.drew.heap[g]?=some (.cells cur 5 (0,0)):=hg;rw[show(⟨g,0,none⟩:Addr).add j=⟨g,j,none⟩ by cases j<;>simp[Addr.add],fw sc];exact hb j x hx
 have mixed:=L.mixed;have t72:=L.t72;have a72:=L.a72;have z72:=L.z72;have v72:=L.v72;have E6:=run_underlying L.t72;have t70:=L.t70;have a70:=L.a70;have z70:=L.z70;have v70:=L.v70;have E7:=run_underlying L.t70;have t37:=L.t37;have a37:=L.a37;have z37:=L.z37;have v37:=L.v37;have HR:=run_underlying L.t37;have t127:=L.t127;have a127:=L.a127;have z127:=L.z127;have v127:=L.v127;have E9:=run_underlying L.t127;have t3:=L.t3;have a3:=L.a3;have z3:=L.z3;have v3:=L.v3;have u3:=run_underlying L.t3;have t9:=L.t9;have a9:=L.a9;have z9:=L.z9;have v9:=L.v9;have u9:=run_underlying L.t9;have t5:=X.t5;have a5:=X.a5;have z5:=X.z5;have v5:=X.v5;have u5:=run_underlying X.t5
 go_enter L.f169,Body.n169_ntmps Try.aC
 go_wp2
 go_region_o
 all_goals (go_wp2;go_ret;exact⟨rfl,rfl⟩)
set_option maxHeartbeats 2000000 in
set_option maxRecDepth 100000 in
theorem zA(b:Nat)(p:Value)(w:World)(yW:w.heap[b]?=some (.cells #[p,.slice none 0 0] 72 (0,0))):
  Calls Try.prog 25 #[.pointer (some ⟨b,0,none⟩)] w λe w'=>e= .returned (.string ⟨#[]⟩)/\w'=w.drew:=by
 have L:=Try.p5;have X:=Try.di;have HQ:=λW q=>Lib.run_unsafeString_none (P:=Try.prog) W (Try.aC.t 127) (Try.aC.t 3) (Try.aC.t 9) q;have c1:w.drew.cell? ⟨b,1,none⟩=some (.slice none 0 0):=by have:w.drew.heap[b]?=some (.cells #[p,.slice none 0 0] 72 (0,0)):=yW;rw[Lib.cell_of_heap this];rfl
 have HP:(Builtin.unsafeSliceData_ #[(Try.aC.t 37)] (Try.aC.t 127) #[.slice none 0 0]).run Try.prog w.drew= .ok (.pointer none) w.drew:=rfl;have mixed:=L.mixed;have t72:=L.t72;have a72:=L.a72;have z72:=L.z72;have v72:=L.v72;have E6:=run_underlying L.t72;have t70:=L.t70;have a70:=L.a70;have z70:=L.z70;have v70:=L.v70;have E7:=run_underlying L.t70;have t37:=L.t37;have a37:=L.a37;have z37:=L.z37;have v37:=L.v37;have HR:=run_underlying L.t37;have t127:=L.t127;have a127:=L.a127;have z127:=L.z127;have v127:=L.v127;have E9:=run_underlying L.t127;have t3:=L.t3;have a3:=L.a3;have z3:=L.z3;have v3:=L.v3;have u3:=run_underlying L.t3;have t9:=L.t9;have a9:=L.a9;have z9:=L.z9;have v9:=L.v9;have u9:=run_underlying L.t9;have t5:=X.t5;have a5:=X.a5;have z5:=X.z5;have v5:=X.v5;have u5:=run_underlying X.t5
 go_enter L.f169,Body.n169_ntmps Try.aC
 go_wp2
 go_region_o
 all_goals (go_wp2;go_ret;exact⟨rfl,rfl⟩)
theorem dO.drew{T:Tg}{F:Nat->Prop}{G:Nat->Value}{w:World}{R:List (Nat×En)}(h:dO Try.prog T F G w R):dO Try.prog T F G w.drew R:=by have hn:Names G G R R:=Names.refl G R;exact⟨h.r4,h.size,λt p hp=>by simp[lk] at hp,λn e he=>(h.rg n e he).mono (λ_ h=>h) (λ_ _=>rfl) hn rfl (λ_ _=>rfl),h.own,h.iO,h.gK,h.tag,h.z,Nat.le_succ_of_le h.dr,h.sz⟩
theorem oS{cs:Array Value}(h:cs.size=2):cs= #[cs.getD 0 undef,cs.getD 1 undef]:=by
 apply Array.ext
 ·simp[h]
 intro i h1 h2;have:i=0\/i=1:=by simp at h2;omega
 rcases this with rfl |rfl<;>simp[Array.getD,h]
theorem zB:DR Try.prog w0 25 Bl:=by
 intro h0 ps R p R1 h F G w vs hH hl hv;unfold Bl at h;split at h
 next v=>
  match vs,hl,hv with
  | [u],_,hv=>
   have hp:=hv 0 u _ rfl rfl;split at h
   ·rename_i e he;split at h
    ·rename_i hS;have hS:=zab hS;have hO:=hH.rg 0 e he;cases hp with
     |ref _ _ _ _ hr h1=>
      have Gt:=enters Try.func25 (by kernel_rfl) (by kernel_rfl);split at h
      ·rename_i x aO;rw[aO] at hO;obtain⟨b,hG,rfl⟩:=hr.at he hS (by rw[aO];rfl);obtain⟨b',cs,e7,hh,bM,cW,oe⟩:=hO;rw[hG] at e7;simp at e7;subst e7;simp only[zae,za4] at h;obtain⟨rfl,rfl⟩:=h;have e1:cs.getD 1 undef= .slice none 0 0:=by
        have:=oe 1 _ rfl;generalize cs.getD 1 undef=c at this;cases this with
        |d hd=>exact hd.cp rfl
       have h2:=oS (by simpa using bM);rw[e1] at h2;rw[h2] at hh;refine .inl ⟨Gt _ w,(zA b _ w hh).mono λe' w' ⟨bb,Ak⟩=>⟨_,bb,F,G,?_,.d (.str []),?_⟩⟩
       ·subst Ak;exact hH.drew
       subst Ak;exact⟨λ_ h=>h,λ_ h=> .inl h,λ_ h=> .inl h,λ_ _ _=>rfl,zaf _,rfl,rfl,rfl⟩
      ·rename_i x m vm len aO;rw[aO] at hO;obtain⟨b,hG,rfl⟩:=hr.at he hS (by rw[aO];rfl);obtain⟨b',cs,e7,hh,bM,cW,oe⟩:=hO;rw[hG] at e7;simp at e7;subst e7;split at h
       ·rename_i em B2;split at h
        ·rename_i Fa;have Fa:=zab Fa;split at h
         ·rename_i es Fb;split at h
          ·rename_i l HS;split at h
           ·rename_i cj;simp only[zac,Nat.blt_eq] at cj;have wV:=zab cj.1;simp only[zae,za4] at h;obtain⟨rfl,rfl⟩:=h;have CQ:=oe 1 _ rfl;have Gu:=hH.rg m em B2;rw[Fb] at Gu;have h2:=oS (by simpa using bM);generalize cs.getD 1 undef=c1 at CQ h2;cases CQ with
            |sl _ _ _ _ _ HT=>
             obtain⟨a,N,cap,Gv,rfl,Il⟩:=HT.at B2 Fa (by rw[Fb];rfl);have vO:=rq _ _ HS;have wC:len<=es.length:=by have:=congrArg List.length vO;simp at this;omega
             rcases Gu with⟨_,rfl⟩| ⟨g,dS,cur,k,Bn,hg,hk,fR,hle,nx,hcs,_,hE⟩
             ·simp at wC;omega
             rw[Gv] at Bn;simp only[Value.slice.injEq] at Bn;obtain⟨rfl,rfl,rfl⟩:=Bn;have qq:k=1:=by
              have:sz Try.prog 5=some 1:=by kernel_rfl
              rw[this] at hk;exact(zbb hk).symm
             subst qq;rw[h2] at hh;have cc:l≠[]:=λe0=>by subst e0;simp at wV;omega
             have aP: ∀(j:Nat) (x:UInt8),l[j]?=some x->cur[j]?=some (.int .u8 x.toNat):=λj x hx=>by
              have hj:j<l.length:=(zaa.1 hx).1;have EG:es[j]?=some (.int .u8 x.toNat):=by
               have:(es.take len)[j]?=some (D.int .u8 (x.toNat:Int)):=by rw[vO,zao,hx];rfl
               rw[zaZ] at this;split at this
               ·exact this
               cases this
              obtain⟨q1,q2,q3⟩:=hE j _ EG;have:=q3 0 _ rfl;rw[nq (by omega)];simp only[zb9,zbj] at this;rw[this.cp rfl]
             refine .inl ⟨Gt _ w,(zz b g cap len _ cur l w hh hg cc wV (by omega) nx (by omega) aP).mono λe' w' ⟨bb,Ak⟩=>⟨_,bb,F,G,?_⟩⟩;subst Ak;have df:gx G R m ⟨em.ay,em.tag,.gone⟩ (G m):=λe1 nM=>by rw[B2] at nM;cases nM;exact .inr ⟨rfl,λAY=>by cases AY⟩
             obtain⟨d1,d2⟩:=ar.gL hH (e1:=⟨em.ay,em.tag,.gone⟩) (g1:=G m) (w':=w.drew.freeze ⟨g,0,none⟩ l.length) (hdr:=by unfold World.freeze;split<;>exact zbR _) df
              (λc hc dY=>rr (λe'=>dY ⟨em,B2,by rw[e',Fb];simp[aH,Gv,au]⟩)) (by rw[ru];exact zaf _) (by unfold World.freeze;split<;>rfl) (by unfold World.freeze;split<;>rfl) (by unfold World.freeze;split<;>rfl)
              (λc hc=>by simp[aH] at hc) trivial (λi _ AY=>by cases AY)
             rw[aN] at d1 d2;exact⟨d1,.d (.str l),d2⟩
           cases h
          cases h
         cases h
        cases h
       cases h
      cases h
    cases h
   cases h
 cases h
end
end Pi
namespace Pi
open Go Go.Proofs
set_option maxRecDepth 100000
set_option maxHeartbeats 0
def CX:List (Nat×List (Nat×List Nat×List Nat)):=[(4,[(8,[0,3,4,5,6],[2,3])]),
 (5,[(8,[0,1,5,6,7,8],[4,5])]),
 (6,[(11,[0,2,7,8,10,11],[0,2,7,8,10]),(20,[0,2,7,8,12,13,14,15,16],[6,7,12,15])]),
 (7,[(13,[0,1,7,8,10,12,13,14,15],[0,1,6,7,13,14])]),
 (9,[(8,[0,1,2,3,10],[10]),(13,[10,60,61],[10])]),
 (10,[(10,[0,1,2,3,10,11,12],[11])]),
 (11,[(4,[0,1,5],[4])]),
 (14,[(10,[0,3,7,8],[0,3,4,5,6,7]),(21,[0,3,7,9,10],[0,3,7,9]),(29,[0,3,7,9,11,12],[0,3,7,11])]),
 (17,[(12,[0,1,5,39,40,41],[0,1,5]),(22,[1,8,63,64,65],[8])]),
 (19,[(2,[0,3,5],[0,4])]),
 (20,[(2,[0,3,5],[0,4])])]
def Bo:List (Nat×List (Nat×Nat)):=[(4,[(14,1)]),
 (5,[(14,1),(17,1)]),
 (14,[(16,1),(23,1),(33,1)]),
 (16,[(4,1)]),
 (23,[(3,1)]),
 (25,[(1,1)]),
 (27,[(0,1)])]
def Fc:List Nat:=[17,26,25]
def CY:List Nat:=Fc++[]
def Fe:List Nat:=[]
def nr(f id:Nat):Option (List Nat×List Nat):=if Nat.beq id 999999 then(if dR f Fe then some ([],[]) else none) else match lk CX f with |some l=>lk l id |none=>none
abbrev CZ:rT:=⟨nr,CY,λ_ _ _=>none⟩
end Pi
namespace Pi
open Go Go.Proofs Go.RowKit
def iq:List D->Option (List (List UInt8))
 | []=>some []
 | .str s::r=>match iq r with |some l=>some (s::l)|none=>none
 |_=>none
def rv:TF
 | [.d (.sl 1 es),.d (.str c)],[]=>match iq es with
  |some l=>if l.length<=140737488355328/\(Lib.join l c).length<=140737488355328 then some (.d (.str (Lib.join l c)),[]) else none
  |none=>none
 |_,_=>none
noncomputable def xL:List (Nat×TF):=[(17,rv),(26,sX),(25,Bl)]
noncomputable def xB:CF:=DQ xL
structure DS(w0:World):Prop where
 t:True
theorem DS.zero{w0:World}(h:DS w0):DS {w0 with drawn:=0} where
 t:=trivial
section
variable{w0:World}
theorem Bp{F:Nat->Prop}{w:World}{G:Nat->Value}{R:List (Nat×En)}{v:Value}{s:List UInt8}(h:ao F w G R v (.d (.str s))):v= .string ⟨⟨s⟩⟩:=ao.aX (p:= .d (.str s)) h rfl
theorem lG: ∀(es:List D) (l:List (List UInt8)),iq es=some l->es=l.map D.str
 | [],l,h=>by simp[iq] at h;subst h;rfl
 |x::es,l,h=>by
  cases x<;>try (simp[iq] at h;done)
  rename_i s;simp only[iq] at h;split at h
  next l' hl=>simp at h;subst h;rw[lG es l' hl];rfl
  cases h
theorem xM:DR Try.prog w0 17 rv:=by
 intro h0 ps R p R1 h F G w vs hH hl hv;unfold rv at h;split at h
 next es c=>
  split at h
  next l vO=>
   have vO:=lG es l vO;subst vO;split at h
   ·rename_i hc;simp only[zae,za4] at h;obtain⟨rfl,rfl⟩:=h
    match vs,hl,hv with
    | [v,u],_,hv=>
     have h1:=hv 0 v _ rfl rfl;have e2:u= .string ⟨⟨c⟩⟩:=Bp (hv 1 u _ rfl rfl);subst e2;refine vr h0 hH (enters Try.func17 (by kernel_rfl) (by kernel_rfl) _ w) ?_;cases h1 with
     |d h1=>
      generalize vO:l.map D.str=es at h1;cases h1 with
      |ur a k cap=>
       have:l=[]:=by simpa using vO
       subst this;exact(Try.strings_Join_none a cap ⟨⟨c⟩⟩ w).mono λe w' ⟨he,hb⟩=>⟨_,he,hb▸Below.refl _ _,λF G=> .d (.str _)⟩
      |vI b off k cap es f jT hb hk aP hw hr=>
       subst vO;have hj:=Try.strings_Join b off cap (l.map λx=>⟨⟨x⟩⟩) ⟨⟨c⟩⟩ w (λj x hx=>by
        rw[zao] at hx;cases hi:l[j]? with
        |none=>rw[hi] at hx;cases hx
        |some s=>rw[hi] at hx;cases hx;have Aa:j<l.length:=(zaa.1 hi).1;rw[hw j (by simpa using Aa)];have:=hr j 0 (.str s) (.str s) (by rw[zao,hi];rfl) rfl;simp only[zb9,zbj] at this;rw[this.cp rfl]) (hH.gK b hb) (by simpa using hc.1) (by simpa using jT) (by simpa [zbA] using hc.2)
       simp only[zat] at hj⊢;have e:(List.map (λx=>x.data.toList) (List.map (λx=>(⟨⟨x⟩⟩:ByteArray)) l))=l:=by simp[zbA]
       rw[e] at hj;exact hj.mono λe w' ⟨he,hb⟩=>⟨_,he,hb,λF G=> .d (.str _)⟩
   cases h
  cases h
 cases h
theorem C0{w1:World}(HU:DS w1):iR Try.prog {w1 with drawn:=0} xB:=by have hw:=HU.zero;exact vu.ok rfl (.cons xM (.cons vv (.cons zB .nil)))
end
end Pi
namespace Pi
open Go Go.Proofs
set_option maxRecDepth 100000
set_option maxHeartbeats 0
structure XF where
 cf:CF
 eq: ∀f,dR f Fc=true-> ∀ps R,cf f ps R=xB f ps R
abbrev B3(X:XF):rT:=⟨nr,CY,X.cf⟩
def Al(f id:Nat):Nat:=match lk Bo f with |some l=>(lk l id).getD 2 |none=>2
theorem Bq:jn Al 0 Try.prog.funcs.toList=true:=by kernel_rfl
noncomputable abbrev PR:=Try.prog
noncomputable def gm(H:List (FuncId×gF))(hk:List (Nat×(S->K (PX×S))))(f id:Nat)(s:S):K (PX×S):=
 pe (cr PR (runK PR CZ Al H 60 60) (nr f) hk (Al f) 60 (dA PR f id)) (nr f id) s
noncomputable def kj(H:List (FuncId×gF))(hk:List (Nat×(S->K (PX×S))))(f:Nat)(ps:List P)(R:List (Nat×En)):K (P×List (Nat×En)):=
 fD PR (runK PR CZ Al H 60 60) CZ hk Al 60 f ps R
def FD(X:XF)(f:Nat)(h:gF):Prop:=yr PR (B3 X) f h
def HD(X:XF)(H:List (FuncId×gF)):Prop:=tP PR (B3 X) H
def LD(X:XF)(f id:Nat)(g:S->K (PX×S)):Prop:= ∀s,KW (g s) (λx=>Ev λa b=>dp (aR PR (dN PR (B3 X) a b) (nr f) a (dA PR f id)) (nr f id) a s=some x)
theorem HD.nil{X:XF}:HD X []:=tP.nil
theorem HD.cons{X:XF}{f:Nat}{h:gF}{H:List (FuncId×gF)}(hf:FD X f h)(hH:HD X H):HD X ((f,h)::H):=tP.cons hf hH
inductive Br(X:XF)(f:Nat):List (Nat×(S->K (PX×S)))->Prop
 |nil:Br X f []
 |cons {id:Nat} {g:S->K (PX×S)} {r:List (Nat×(S->K (PX×S)))} (h:LD X f id g) (hr:Br X f r):Br X f ((id,g)::r)
theorem Br.get{X:XF}{f:Nat}{hk:List (Nat×(S->K (PX×S)))}(h:Br X f hk): ∀id g,lk hk id=some g->LD X f id g:=by
 induction h with
 |nil=>exact tT
 |cons h hr ih=>exact zw h ih
theorem FD.mk{X:XF}{H:List (FuncId×gF)}{hk:List (Nat×(S->K (PX×S)))}{f:Nat}{h:gF}(hu:uniq PR f=true)(hH:HD X H)(hl:Br X f hk)(hb: ∀ps R ae,h ps R ae->kj H hk f ps R ae):FD X f h:=
 yr.mk Bq hH hu hl.get (λps R ae hp=>by have:=hb ps R ae hp;unfold kj at this;rw[sW PR nr CY _ X.cf Al H 60 60] at this;exact this)
theorem LD.par{X:XF}{H:List (FuncId×gF)}{hk:List (Nat×(S->K (PX×S)))}{f id:Nat}{g:S->K (PX×S)}(hu:uniq PR f=true)(hc:e8 (Al f) (dA PR f id)=true)(hH:HD X H)(hl:Br X f hk)
  {A B:Type} (hd:A->B->S) (Inv:A->B->Prop) (mu:A->B->Nat) (Out:A->PX×S->Prop)
  (hr: ∀a b,Inv a b->gm H hk f id (hd a b) (roundPost (mu a b) (λm s=> ∃b',s=hd a b'/\Inv a b'/\m=mu a b') (Out a)))
  (hg: ∀s ae,g s ae-> ∃a b,s=hd a b/\Inv a b/\ ∀x,Out a x->ae x):LD X f id (bu (nr f id) g):=by
 refine rp λs0 ae hp=> ?_;obtain⟨a,b,rfl,h1,h2⟩:=hg s0 ae hp;obtain⟨x,g1,g2⟩:=zn (keep:=nr f id) (kp1:=nr f) (O:=Out a) Bq hH hc (λd hd h hh=>by have:=hl.get _ _ hh;unfold LD at this;rwa [vf hu hd] at this) (I:=λm s=> ∃b',s=hd a b'/\Inv a b'/\m=mu a b') (λn s hs=>by obtain⟨b',rfl,h3,rfl⟩:=hs;have:=hr a b' h3;unfold gm at this;rw[sW PR nr CY _ X.cf Al H 60 60] at this;exact this) (mu a b) (hd a b) ⟨b,rfl,h1,rfl⟩;exact⟨x,g2,h2 x g1⟩
theorem FD.EZ{X:XF}{f:Nat}{fn:Func}{h:gF}(jt:PR.funcs[f]?=some fn)(hx:dR f CY=true)(HV:dR f Fc=true)(hb: ∀ps R ae,h ps R ae-> ∃x,xB f ps R=some x/\ae x):FD X f h:=
 yr.EZ jt hx λps R ae hp=>by obtain⟨x,h1,h2⟩:=hb ps R ae hp;exact⟨x,by rw[<-h1];exact X.eq f HV ps R,h2⟩
theorem FD.run{X:XF}{f:Nat}{h:gF}(hf:FD X f h){ps:List P}{R:List (Nat×En)}{y:P×List (Nat×En)}(hp:h ps R (λx=>x=y)): ∃lf k,dN PR (B3 X) lf k f ps R=some y:=by obtain⟨x,h1,h2⟩:=hf ps R _ hp;subst h2;exact h1.some
def FC(f:Nat)(h:gF):Prop:=yr PR CZ f h
def HC(H:List (FuncId×gF)):Prop:=tP PR CZ H
theorem HC.nil:HC []:=tP.nil
theorem HC.cons{f:Nat}{h:gF}{H:List (FuncId×gF)}(hf:FC f h)(hH:HC H):HC ((f,h)::H):=tP.cons hf hH
theorem FC.mk{H:List (FuncId×gF)}{f:Nat}{h:gF}(hu:uniq PR f=true)(hH:HC H)(hb: ∀ps R ae,h ps R ae->kj H [] f ps R ae):FC f h:=
 yr.mk Bq hH hu tT hb
noncomputable def xN:XF:=⟨xB,λ_ _ _ _=>rfl⟩
def nt(z:Nat):Nat->List UInt8->List (List UInt8)
 |0,_=>[]
 |f+1,s=>if s=[] then [] else s.take z::nt z f (s.drop z)
def chunk(z:Nat)(s:List UInt8):List (List UInt8):=nt z s.length s
theorem iu{z:Nat}(hz:0<z): ∀(n m:Nat) (s:List UInt8),s.length<=n->s.length<=m->nt z n s=nt z m s
 |0,0,_,_,_=>rfl
 |0,m+1,s,h,_=>by have:s=[]:=zar (by omega);subst this;rfl
 |n+1,0,s,_,h=>by have:s=[]:=zar (by omega);subst this;rfl
 |n+1,m+1,s,h1,h2=>by
  unfold nt;split
  ·rfl
  rename_i cc;have hl:0<s.length:=zaW.2 cc;rw[iu hz n m _ (by rw[zaF];omega) (by rw[zaF];omega)]
theorem oT(z:Nat):chunk z []=[]:=rfl
theorem eX{z:Nat}(hz:0<z){s:List UInt8}(h:s≠[]):chunk z s=s.take z::chunk z (s.drop z):=by have hl:0<s.length:=zaW.2 h;unfold chunk;rw[iu hz s.length ((s.length-1)+1) s (zaf _) (by omega)];show(if s=[] then [] else _)=_;rw[zay h,iu hz (s.length-1) (s.drop z).length _ (by rw[zaF];omega) (zaf _)]
theorem fM{z:Nat}(hz:0<z){P:List UInt8->Prop}(h0:P [])(h1: ∀s,s≠[]->P (s.drop z)->P s): ∀(n:Nat) (s:List UInt8),s.length<=n->P s
 |0,s,h=>by have:s=[]:=zar (by omega);subst this;exact h0
 |n+1,s,h=>by
  by_cases hs:s=[]
  ·subst hs;exact h0
  have hl:0<s.length:=zaW.2 hs;exact h1 s hs (fM hz h0 h1 n _ (by rw[zaF];omega))
theorem sY{z:Nat}(hz:0<z)(s:List UInt8):(chunk z s).flatten=s:=
 fM hz (P:=λs=>(chunk z s).flatten=s) rfl (λs hs ih=>by rw[eX hz hs,List.flatten_cons,ih,zbJ]) _ s (zaf _)
theorem xO{z:Nat}(hz:0<z)(s:List UInt8): ∀p∈chunk z s,p≠[]:=
 fM hz (P:=λs=> ∀p∈chunk z s,p≠[]) (λp hp=>by cases hp) (λs hs ih p hp=>by
  rw[eX hz hs] at hp;rcases zav.1 hp with rfl |hp
  ·intro e;have:=congrArg List.length e;have hl:0<s.length:=zaW.2 hs;rw[zbh,zbv] at this;omega
  exact ih p hp) _ s (zaf _)
theorem xP{z:Nat}(hz:0<z)(s:List UInt8): ∀p∈chunk z s,p.length<=s.length:=
 fM hz (P:=λs=> ∀p∈chunk z s,p.length<=s.length) (λp hp=>by cases hp) (λs hs ih p hp=>by
  rw[eX hz hs] at hp;rcases zav.1 hp with rfl |hp
  ·rw[zbh];exact Nat.min_le_right _ _
  have:=ih p hp;rw[zaF] at this;omega) _ s (zaf _)
theorem vw{z:Nat}(hz:0<z)(s:List UInt8)(h:s≠[]):(chunk z s).length=(s.length-1)/z+1:=by
 refine fM hz (P:=λs=>s≠[]->(chunk z s).length=(s.length-1)/z+1) (λh=>absurd rfl h) (λs hs ih _=> ?_) _ s (zaf _) h;have hl:0<s.length:=zaW.2 hs;rw[eX hz hs,zbF];by_cases hd:s.drop z=[]
 ·have:s.length<=z:=by have:=congrArg List.length hd;rw[zaF,zbv] at this;omega
  rw[hd,oT,zbv,Nat.div_eq_of_lt (by omega)]
 have h1:z<s.length:=by refine Nat.lt_of_not_le λhle=>hd (zaS hle)
 rw[ih hd,zaF,show s.length-1=(s.length-z-1)+z by omega,Nat.add_div_right _ hz]
abbrev aY:=Int×Int×Int×Int×List UInt8
def fA(a n q:Int)(ps:List (List UInt8)):List aY:=ps.zipIdx.map λp=>(a,n,(p.2:Int),q,p.1)
theorem b8(a n q:Int)(ps:List (List UInt8)):(fA a n q ps).length=ps.length:=by simp[fA]
theorem xQ(a n q:Int)(ps:List (List UInt8))(p:List UInt8):fA a n q (ps++[p])=fA a n q ps++[(a,n,(ps.length:Int),q,p)]:=by simp[fA,List.zipIdx_append]
theorem tW(a n q:Int)(ps:List (List UInt8))(i:Nat):(fA a n q ps)[i]?=(ps[i]?).map λp=>(a,n,(i:Int),q,p):=by simp only[fA,zao,List.getElem?_zipIdx,Option.map_map,zbk];rfl
abbrev iD(n:Int):P:= .d (.int .i64 n)
abbrev sD(s:List UInt8):P:= .d (.str s)
def ko(x:aY):D:= .agg [.int .i64 x.1,.int .i64 x.2.1,.int .i64 x.2.2.1,.int .i64 x.2.2.2.1,.str x.2.2.2.2]
abbrev kN(z:Bool)(l:List aY):Obj:= .arr 37 z (l.map ko)
abbrev Ff(a n:Int)(s:List UInt8)(z:Int)(o:List aY):S:=⟨72,[(0,iD a),(1,iD n),(2,sD s),(3,iD z),(10,.sl 0 0 o.length)],[(0,⟨0,none,kN false o⟩)]⟩
abbrev zC(o:List aY):S:=⟨72,[(10,.sl 0 0 o.length)],[(0,⟨0,none,kN false o⟩)]⟩
def Bs:S->K (PX×S):=λst ae=> ∃a n s z,st=Ff a n s z []/\(1<=z/\s.length<=1000000/\(chunk z.toNat s).length<=1000)/\ ∀o,o=fA a n 0 (chunk z.toNat s)->ae (.exit 1,zC o)
def Zc(o:List aY):Nat×En:=(0,En.mk 0 none (Obj.arr (37:TypeId) false (List.map ko o)))
def Zd(o:List aY):List (Nat×En):=[Zc o]
def Z2(o:List aY):Nat:=List.length o
def Zb(o:List aY):Nat×P:=(10,P.sl 0 0 (Z2 o))
def Za(o:List aY):List D:=List.take (Z2 o) (List.map ko o)
def Z4(a:Int):D:=D.int .i64 a
def Z9(z:Int):Nat×P:=(3,P.d (Z4 z))
def Z0(s:List UInt8):Int:=(↑(List.length s):Int)
def Z8(n:Int):Nat×P:=(1,P.d (Z4 n))
def Z7(a:Int):Nat×P:=(0,P.d (Z4 a))
def Z5(o:List aY):Int:=(↑(Z2 o):Int)
def Z6(a:Int)(n:Int)(o:List aY)(z:Int)(s:List UInt8):List D:=[D.agg [Z4 a,Z4 n,D.int .i64 (Z5 o),D.int .i64 (0:Int),D.str (List.drop 0 (List.take (Int.toNat (min z (Z0 s))) s))]]
def Z3(o:List aY):Nat:=List.length (List.map ko o)
def Z1(z:Int)(s:List UInt8):Bool:=decide ((0:Int)<=min z (Z0 s)/\min z (Z0 s)<=Z0 s)
theorem C1(a n:Int)(s:List UInt8)(z:Int)(o:List aY)(ae:PX×S->Prop):(bif !s==[] then ob (Z1 z s) (ob (Nat.ble (Z2 o) (Z3 o)&&eE (Z2 o+List.length (Z6 a n o z s)) 48) (ob (Z1 z s) (ae (PX.normal,S.mk 72 [Z7 a,Z8 n,(2,P.d (D.str (List.drop (Int.toNat (min z (Z0 s))) (List.take (List.length s) s)))),Z9 z,(10,P.sl 0 0 (Z2 o+List.length (Z6 a n o z s)))] [(0,En.mk 0 none (Obj.arr (37:TypeId) false (Za o++Z6 a n o z s)))])))) else ae (PX.exit 1,S.mk 72 [Zb o] (Zd o)))=(gm [] [] 9 8 (Ff a n s z o)) ae:=by kernel_rfl
abbrev Bt(o:List aY)(m i:Int):S:=⟨72,[(10,.sl 0 0 o.length),(60,iD m),(61,iD i)],[(0,⟨0,none,kN false o⟩)]⟩
def Ze(i:Int):Nat:=Int.toNat i
def Zf(o:List aY)(i:Int):D:=D.nth (List.map ko o) (Ze i)
def Zk(o:List aY)(i:Int):List UInt8:=D.jR (D.iM (Zf o i) 4)
def Zj(i:Int):P:=P.d (D.int .i64 (i+(1:Int)))
def Zh:Int:=(9223372036854775807:Int)
def Zg:Int:=(-9223372036854775808:Int)
def Zi(i:Int):Bool:=decide (Zg<=i+(1:Int)/\i+(1:Int)<=Zh)
theorem Bu(o:List aY)(m i:Int)(ae:PX×S->Prop):(bif decide (i<m) then ob (decide ((0:Int)<=i/\i<Z5 o)) (ob (decide (Ze i<Z3 o)) (ob (kV PR (37:TypeId) (Zf o i)) (ob (Zi i) (ae (PX.normal,S.mk 72 [Zb o,(60,P.d (Z4 m)),(61,Zj i)] [(0,En.mk 0 none (Obj.arr (37:TypeId) false (List.set (List.map ko o) (Ze i) (D.bc (D.agg [D.int .i64 (D.bp (D.iM (Zf o i) 0)),D.int .i64 (D.bp (D.iM (Zf o i) 1)),D.int .i64 (D.bp (D.iM (Zf o i) 2)),D.int .i64 (D.bp (D.iM (Zf o i) 3)),D.str (Zk o i)]) [D.int .i64 (D.bp (D.iM (Zf o i) 0)),D.int .i64 (D.bp (D.iM (Zf o i) 1)),D.int .i64 (D.bp (D.iM (Zf o i) 2)),D.int .i64 (Z5 o),D.str (Zk o i)]))))]))))) else ae (PX.exit 3,S.mk 72 [Zb o] (Zd o)))=(gm [] [] 9 13 (Bt o m i)) ae:=by kernel_rfl
def gn(N:Int)(i:Nat)(l:List aY):List aY:=(l.take i).map (λx=>(x.1,x.2.1,x.2.2.1,N,x.2.2.2.2))++l.drop i
def xR:S->K (PX×S):=λst ae=> ∃o,st=Bt o o.length 0/\o.length<=1000/\ ∀o',o'=gn o.length o.length o->ae (.exit 3,zC o')
def iv(a n:Int)(s:List UInt8)(z:Int):Int:=if a<1\/16<a\/n<0\/z<1 then 1 else if s=[] then 10 else if 1000<=(s.length-1)/z.toNat then 2 else 0
def xS(a n:Int)(s:List UInt8)(z:Int):List aY:=fA a n (chunk z.toNat s).length (chunk z.toNat s)
def Bv:gF:=λps R ae=> ∃a n s z,ps=[iD a,iD n,sD s,iD z]/\R=[]/\(s.length<=1000000/\z<=9223372036854775807)/\(∀e,e=iv a n s z->e≠0->ae (.dW [.sl 0 0 0,iD e],[(0,⟨0,none,kN false []⟩)]))/\(iv a n s z=0-> ∀l,l=xS a n s z->ae (.dW [.sl 0 0 l.length,iD 0],[(0,⟨0,none,kN false l⟩)]))
def Zw:P:=P.d (D.int .i64 (0:Int))
def Zy(ae:P×List (Nat×En)->Prop)(o':List aY):Prop:=ae (P.dW [P.sl 0 0 (Z2 o'),Zw],Zd o')
def Zx(zD:List aY):S:=S.mk 72 [Zb zD,(60,P.d (D.int .i64 (Z5 zD))),(61,Zw)] (Zd zD)
def Zo:List (Nat×En):=[(0,En.mk 0 none (Obj.arr (37:TypeId) false []))]
def Zm:P:=P.sl 0 0 0
def Zu(aW:List UInt8):Nat×P:=(2,P.d (D.str aW))
def Zv(bU:Int)(aQ:Int)(aW:List UInt8)(rI:Int):S:=S.mk 72 [Z7 bU,Z8 aQ,Zu aW,Z9 rI,(10,Zm)] Zo
def Zt(ae:P×List (Nat×En)->Prop):Prop:=ae (P.dW [Zm,P.d (D.int .i64 (2:Int))],Zo)
def Zs(s:List UInt8)(z:Int):Bool:=decide (Zg<=Int.tdiv (Z0 s-(1:Int)) z/\Int.tdiv (Z0 s-(1:Int)) z<=Zh)
def Zr(s:List UInt8):Bool:=decide (Zg<=Z0 s-(1:Int)/\Z0 s-(1:Int)<=Zh)
def Zq(ae:P×List (Nat×En)->Prop):Prop:=ae (P.dW [Zm,P.d (D.int .i64 (10:Int))],Zo)
def Zn:List P:=[P.d (D.int .i64 (1:Int))]
def Zp(ae:P×List (Nat×En)->Prop):Prop:=ae (P.dW (Zm::Zn),Zo)
def Zl(a:Int):Bool:=decide (a<(1:Int))
theorem C2(a n:Int)(s:List UInt8)(z:Int)(ae:P×List (Nat×En)->Prop):(bif Zl a then Zp ae else bif decide (a>(16:Int)) then Zp ae else bif decide (n<(0:Int)) then Zp ae else bif Zl z then Zp ae else bif s==[] then Zq ae else ob (Zr s) (ob (!decide (z=(0:Int))) (ob (Zs s z) (bif decide (Int.tdiv (Z0 s-(1:Int)) z>=(1000:Int)) then Zt ae else∃(bU:Int) (aQ:Int) (aW:List UInt8) (rI:Int),Zv a n s z=Zv bU aQ aW rI/\((1:Int)<=rI/\List.length aW<=1000000/\List.length (chunk (Ze rI) aW)<=1000)/\ ∀(o:List aY),o=fA bU aQ (0:Int) (chunk (Ze rI) aW)-> ∃(zD:List aY),Zx o=Zx zD/\Z2 zD<=1000/\ ∀(o':List aY),o'=gn (Z5 zD) (Z2 zD) zD->Zy ae o'))))=(kj [] [(8,bu (nr 9 8) Bs),(13,bu (nr 9 13) xR)] 9 [iD a,iD n,sD s,iD z] []) ae:=by kernel_rfl
def ZC:P:=P.d (D.bool false)
def ZG(ae:P×List (Nat×En)->Prop):Prop:=ae (P.d (D.bool true),[])
def ZE(ae:P×List (Nat×En)->Prop):Prop:=ae (ZC,[])
def sZ:gF:=λps R ae=>ps=[]/\R=[]/\ae (.d (.bool true),[])
def ZK(aW:List UInt8)(rI:Int):Prop:=List.length aW<=1000000/\rI<=Zh
def ZJ(bU:Int)(aQ:Int)(aW:List UInt8)(rI:Int):List P:=[P.d (Z4 bU),P.d (Z4 aQ),P.d (D.str aW),P.d (Z4 rI)]
def ZI:Prop:=HL [] []
def ZH:Prop:=HK [] []
def kO:gF:=λps R ae=> ∃l c,ps=[.d (.sl 1 (l.map D.str)),sD c]/\R=[]/\(l.length<=1000000/\(Lib.join l c).length<=1000000)/\ae (sD (Lib.join l c),[])
def ZO(l:List (List UInt8))(c:List UInt8):Prop:=List.length l<=1000000/\List.length (Lib.join l c)<=1000000
def ZP:P:=P.d (D.str [])
theorem Bw(ae:P×List (Nat×En)->Prop):(∃(l:List (List UInt8)) (c:List UInt8),[P.d (D.sl 1 [D.str [(97:UInt8),(98:UInt8)],D.str [(99:UInt8),(100:UInt8)],D.str [(101:UInt8)]]),ZP]=[P.d (D.sl 1 (List.map D.str l)),P.d (D.str c)]/\ZI/\ZO l c/\bif Lib.join l c==[(97:UInt8),(98:UInt8),(99:UInt8),(100:UInt8),(101:UInt8)] then ZG ae else ZE ae)=(kj [(17,kO)] [] 8 [] []) ae:=by kernel_rfl
abbrev nA(a n:Int):D:= .agg [.int .i64 a,.int .i64 n]
abbrev vz(o d:Nat):Obj:= .box 53 [.mp o 0,.mp d 0]
abbrev C3(r k:Nat)(c:Int):Obj:= .box 61 [.sl r 0 k,iD c]
abbrev DT(l:List (List UInt8)):Obj:= .arr 9 false (l.map D.str)
abbrev DU(get:D->Option D)(c:Int):List (Nat×En):=[(0,⟨0,some 0,vz 1 2⟩),(1,⟨0,some 1,.a7 58 []⟩),(2,⟨0,some 2,.map 58 get c false⟩)]
abbrev C4(a n:Int)(ps:List (List UInt8))(m:Int)(get:D->Option D)(c:Int):List (Nat×En):=[(0,⟨0,some 0,vz 1 4⟩),(1,⟨0,some 1,.a7 58 [(nA a n,.ref 2 0 0)]⟩),(2,⟨0,some 2,C3 3 ps.length m⟩),(3,⟨0,some 3,DT ps⟩),(4,⟨0,some 4,.map 58 get c false⟩)]
abbrev DV(a n p q:Int)(s:List UInt8):P:= .d (.agg [.int .i64 a,.int .i64 n,.int .i64 p,.int .i64 q,.str s])
def ZZ(a:Int)(n:Int):D:=D.agg [Z4 a,Z4 n]
def Am(a:Int)(n:Int)(get:D->Option D)(c:Int):Obj:=Obj.map 58 (λ(k':D)=>bif D.fy (ZZ a n) k' then some (D.agg []) else get k') (bif Option.isSome (get (ZZ a n)) then c else c+(1:Int)) false
def ZV:Nat×En:=(1,En.mk 0 (some 1) (Obj.a7 58 []))
def yu(l:List (List UInt8))(av:List UInt8):P:=P.dW [P.d (D.str (Lib.join l av)),P.d (D.bool true),Zw]
def An(q:Int):List D:=List.replicate (Ze q) (D.str [])
def Bx(q:Int)(p:Int)(s:List UInt8):List D:=List.set (An q) (Ze p) (D.bc (D.str (D.jR (D.nth (An q) (Ze p)))) [D.str s])
def Ao(q:Int)(p:Int)(s:List UInt8):List P:=[P.d (D.sl 1 (List.take (Ze q) (Bx q p s))),ZP]
def zE(a:Int)(n:Int):Bool:=D.fy (ZZ a n) (ZZ a n)
def vQ(q:Int):Nat×En:=(3,En.mk 0 none (Obj.box (61:TypeId) (P.sl 4 0 (Ze q)::Zn)))
def ZW(get:D->Option D)(c:Int):Nat×En:=(2,En.mk 0 (some 2) (Obj.map 58 get c false))
def B4(a:Int)(n:Int):Obj:=Obj.a7 58 [(ZZ a n,P.ref 3 0 0)]
def ZT:Obj:=Obj.box (53:TypeId) [P.mp 1 0,P.mp 2 0]
def ZU:Nat×En:=(0,En.mk 0 (some 0) ZT)
def B5:P:=P.dW [ZP,ZC,Zw]
def C5(q:Int):Bool:=decide ((0:Int)+(1:Int)<q)
def C6(p:Int)(q:Int):Bool:=decide (Ze p<List.length (An q))
def C7(p:Int)(q:Int):Bool:=decide ((0:Int)<=p/\p<(↑(Ze q):Int))
def DW(q:Int):Bool:=decide ((0:Int)<=q/\q<=q/\q<=Zh/\(16:Int)*q<=(281474976710656:Int))
def ZX(get:D->Option D)(c:Int):List (Nat×En):=[ZU,ZV,ZW get c]
def C8:P:=P.dW [ZP,ZC,P.d (D.int .i64 (210:Int))]
def ZS:P:=P.dW [ZP,ZC,P.d (D.int .i64 (11:Int))]
def ZY(ae:P×List (Nat×En)->Prop)(get:D->Option D)(c:Int):Prop:=ae (ZS,ZX get c)
def ZR(n:Int):Bool:=decide (n>=(0:Int))
def ZQ(a:Int):Bool:=decide (a>=(1:Int))
theorem C9(a n p q:Int)(s:List UInt8)(get:D->Option D)(c:Int)(ae:P×List (Nat×En)->Prop):(bif ZQ a then bif decide (a<=(16:Int)) then bif ZR n then bif ZQ q then bif decide (q<=(1000:Int)) then bif ZR p then bif decide (p<q) then bif !!s==[] then ZY ae get c else ob (kV PR (62:TypeId) (gE (get (ZZ a n)) (D.agg []))) (bif Option.isSome (get (ZZ a n)) then ae (C8,ZX get c) else ob (DW q) (ob (C7 p q) (ob (C6 p q) (ob (kV PR (9:TypeId) (D.nth (An q) (Ze p))) (bif C5 q then ae (B5,[ZU,(1,En.mk 0 (some 1) (B4 a n)),ZW get c,vQ q,(4,En.mk 0 none (Obj.arr (9:TypeId) false (Bx q p s)))]) else bif zE a n then∃(l:List (List UInt8)) (av:List UInt8),Ao q p s=[P.d (D.sl 1 (List.map D.str l)),P.d (D.str av)]/\ZI/\ZO l av/\ae (yu l av,[ZU,ZV,(2,En.mk 0 (some 2) (Am a n get c))]) else∃(l:List (List UInt8)) (av:List UInt8),Ao q p s=[P.d (D.sl 1 (List.map D.str l)),P.d (D.str av)]/\ZI/\ZO l av/\ae (yu l av,[ZU,(1,En.mk 0 (some 1) (B4 a n)),(2,En.mk 0 (some 2) (Am a n get c)),vQ q,(4,En.mk 0 none (Obj.arr (9:TypeId) true (Bx q p s)))])))))) else ZY ae get c else ZY ae get c else ZY ae get c else ZY ae get c else ZY ae get c else ZY ae get c else ZY ae get c)=(kj [(17,kO)] [] 13 [.ref 0 0 0,DV a n p q s] (DU get c)) ae:=by kernel_rfl
def Fg(q:Int):Nat×En:=(5,En.mk 0 none (Obj.box (61:TypeId) (P.sl 6 0 (Ze q)::Zn)))
def By(ps:List (List UInt8)):Nat×En:=(3,En.mk 0 (some 3) (Obj.arr (9:TypeId) false (List.map D.str ps)))
def DX(ps:List (List UInt8))(m:Int):Obj:=Obj.box (61:TypeId) [P.sl 3 0 (List.length ps),P.d (Z4 m)]
def Bz(ps:List (List UInt8))(m:Int):Nat×En:=(2,En.mk 0 (some 2) (DX ps m))
def Fh(ps:List (List UInt8))(m:Int)(a:Int)(n:Int)(get:D->Option D)(c:Int)(q:Int)(p:Int)(s:List UInt8):List (Nat×En):=[Bz ps m,By ps,(4,En.mk 0 (some 4) (Am a n get c)),Fg q,(6,En.mk 0 none (Obj.arr (9:TypeId) true (Bx q p s)))]
def Fi(a:Int)(n:Int):Nat×En:=(1,En.mk 0 (some 1) (Obj.a7 58 [(ZZ a n,P.ref 2 0 0),(ZZ a n,P.ref 5 0 0)]))
def Fj(a:Int)(n:Int):Nat×En:=(1,En.mk 0 (some 1) (Obj.a7 58 [(ZZ a n,P.ref 5 0 0)]))
def Da:Obj:=Obj.box (53:TypeId) [P.mp 1 0,P.mp 4 0]
def vR:Nat×En:=(0,En.mk 0 (some 0) Da)
def Fk(q:Int)(p:Int)(s:List UInt8)(ae:P×List (Nat×En)->Prop)(a:Int)(n:Int)(ps:List (List UInt8))(m:Int)(get:D->Option D)(c:Int):Prop:= ∃(l:List (List UInt8)) (av:List UInt8),Ao q p s=[P.d (D.sl 1 (List.map D.str l)),P.d (D.str av)]/\ZI/\ZO l av/\ae (yu l av,vR::Fj a n::Fh ps m a n get c q p s)
def Db(get:D->Option D)(c:Int):Nat×En:=(4,En.mk 0 (some 4) (Obj.map 58 get c false))
def Fl(ps:List (List UInt8))(m:Int)(get:D->Option D)(c:Int)(q:Int)(p:Int)(s:List UInt8):List (Nat×En):=[Bz ps m,By ps,Db get c,Fg q,(6,En.mk 0 none (Obj.arr (9:TypeId) false (Bx q p s)))]
def Dc(ps:List (List UInt8))(p:Int)(s:List UInt8):List D:=List.set (List.map D.str ps) (Ze p) (D.bc (D.str (D.jR (D.nth (List.map D.str ps) (Ze p)))) [D.str s])
def Fm(ps:List (List UInt8))(m:Int):Nat×En:=(2,En.mk 0 (some 2) (Obj.box (61:TypeId) [P.sl 3 0 (List.length ps),Zj m]))
def Fo(ps:List (List UInt8))(m:Int)(p:Int)(s:List UInt8)(a:Int)(n:Int)(get:D->Option D)(c:Int):List (Nat×En):=[Fm ps m,(3,En.mk 0 (some 3) (Obj.arr (9:TypeId) true (Dc ps p s))),(4,En.mk 0 (some 4) (Am a n get c))]
def Dd(a:Int)(n:Int):Obj:=Obj.a7 58 [(ZZ a n,P.ref 2 0 0)]
def B6(a:Int)(n:Int):Nat×En:=(1,En.mk 0 (some 1) (Dd a n))
def ry(a:Int)(n:Int)(ps:List (List UInt8))(m:Int)(get:D->Option D)(c:Int):List (Nat×En):=[vR,B6 a n,Bz ps m,By ps,Db get c]
theorem De(a n p q:Int)(s:List UInt8)(ps:List (List UInt8))(m:Int)(get:D->Option D)(c:Int)(ae:P×List (Nat×En)->Prop):(bif ZQ a then bif decide (a<=(16:Int)) then bif ZR n then bif ZQ q then bif decide (q<=(1000:Int)) then bif ZR p then bif decide (p<q) then bif !!s==[] then ae (ZS,ry a n ps m get c) else ob (kV PR (62:TypeId) (gE (get (ZZ a n)) (D.agg []))) (bif Option.isSome (get (ZZ a n)) then ae (C8,ry a n ps m get c) else bif zE a n then bif (↑(List.length ps):Int) !=q then ae (ZS,ry a n ps m get c) else ob (decide ((0:Int)<=p/\p<(↑(List.length ps):Int))) (ob (decide (Ze p<List.length (List.map D.str ps))) (ob (kV PR (9:TypeId) (D.nth (List.map D.str ps) (Ze p))) (bif !D.jR (D.nth (List.map D.str ps) (Ze p))==[] then ae (C8,ry a n ps m get c) else ob (decide ((0:Int)<=p/\p<(↑(List.length ps):Int))) (ob (decide (Ze p<List.length (List.map D.str ps))) (ob (kV PR (9:TypeId) (D.nth (List.map D.str ps) (Ze p))) (ob (Zi m) (bif decide (m+(1:Int)<q) then ae (B5,[vR,B6 a n,Fm ps m,(3,En.mk 0 (some 3) (Obj.arr (9:TypeId) false (Dc ps p s))),Db get c]) else bif zE a n then∃(l:List (List UInt8)) (av:List UInt8),[P.d (D.sl 1 (List.take (List.length ps) (Dc ps p s))),ZP]=[P.d (D.sl 1 (List.map D.str l)),P.d (D.str av)]/\ZI/\ZO l av/\ae (yu l av,vR::ZV::Fo ps m p s a n get c) else∃(l:List (List UInt8)) (av:List UInt8),[P.d (D.sl 1 (List.take (List.length ps) (Dc ps p s))),ZP]=[P.d (D.sl 1 (List.map D.str l)),P.d (D.str av)]/\ZI/\ZO l av/\ae (yu l av,vR::B6 a n::Fo ps m p s a n get c)))))))) else ob (DW q) (bif zE a n then ob (C7 p q) (ob (C6 p q) (ob (kV PR (9:TypeId) (D.nth (An q) (Ze p))) (bif C5 q then ae (B5,vR::Fj a n::Fl ps m get c q p s) else bif zE a n then∃(l:List (List UInt8)) (av:List UInt8),Ao q p s=[P.d (D.sl 1 (List.map D.str l)),P.d (D.str av)]/\ZI/\ZO l av/\ae (yu l av,[vR,ZV,Bz ps m,By ps,(4,En.mk 0 (some 4) (Am a n get c))]) else Fk q p s ae a n ps m get c))) else ob (C7 p q) (ob (C6 p q) (ob (kV PR (9:TypeId) (D.nth (An q) (Ze p))) (bif C5 q then ae (B5,vR::Fi a n::Fl ps m get c q p s) else bif zE a n then Fk q p s ae a n ps m get c else bif zE a n then∃(l:List (List UInt8)) (av:List UInt8),Ao q p s=[P.d (D.sl 1 (List.map D.str l)),P.d (D.str av)]/\ZI/\ZO l av/\ae (yu l av,[vR,B6 a n,Bz ps m,By ps,(4,En.mk 0 (some 4) (Am a n get c))]) else∃(l:List (List UInt8)) (av:List UInt8),Ao q p s=[P.d (D.sl 1 (List.map D.str l)),P.d (D.str av)]/\ZI/\ZO l av/\ae (yu l av,vR::Fi a n::Fh ps m a n get c q p s)))))) else ae (ZS,ry a n ps m get c) else ae (ZS,ry a n ps m get c) else ae (ZS,ry a n ps m get c) else ae (ZS,ry a n ps m get c) else ae (ZS,ry a n ps m get c) else ae (ZS,ry a n ps m get c) else ae (ZS,ry a n ps m get c))=(kj [(17,kO)] [] 13 [.ref 0 0 0,DV a n p q s] (C4 a n ps m get c)) ae:=by kernel_rfl
def nu(a n p q:Int)(s:List UInt8):Prop:=(1<=a/\a<=16/\0<=n)/\(1<=q/\q<=1000/\0<=p/\p<q)/\s≠[]/\s.length<=100000
def iU(get:D->Option D):Prop:= ∀k,gE (get k) (.agg [])= .agg []
abbrev B7(s:List UInt8)(b:Bool)(e:Int):P:= .dW [sD s,.d (.bool b),iD e]
def Fp:gF:=λps R ae=> ∃a n p q s get c,ps=[.ref 0 0 0,DV a n p q s]/\R=DU get c/\(nu a n p q s/\iU get)/\((get (nA a n)).isSome=true->ae (B7 [] false 210,DU get c))/\
 ((get (nA a n)).isSome=false->q≠1->ae (B7 [] false 0,[(0,⟨0,some 0,vz 1 2⟩),(1,⟨0,some 1,.a7 58 [(nA a n,.ref 3 0 0)]⟩),(2,⟨0,some 2,.map 58 get c false⟩),(3,⟨0,none,C3 4 q.toNat 1⟩),(4,⟨0,none,DT ((List.replicate q.toNat []).set p.toNat s)⟩)]))/\
 ((get (nA a n)).isSome=false->q=1-> ∀get',iU get'->(∀x,(get' x).isSome=(D.fy (nA a n) x || (get x).isSome))->ae (B7 s true 0,DU get' (c+1)))
def Fq:gF:=λps R ae=> ∃a n p q s l m get c,ps=[.ref 0 0 0,DV a n p q s]/\R=C4 a n l m get c/\((nu a n p q s/\iU get/\(get (nA a n)).isSome=false)/\(l.length:Int)=q/\0<=m/\m<q/\(Lib.join (l.set p.toNat s) []).length<=1000000)/\(l.getD p.toNat []≠[]->ae (B7 [] false 210,C4 a n l m get c))/\
 (l.getD p.toNat []=[]->m+1<q->ae (B7 [] false 0,C4 a n (l.set p.toNat s) (m+1) get c))/\
 (l.getD p.toNat []=[]-> ¬m+1<q-> ∀get',iU get'->(∀x,(get' x).isSome=(D.fy (nA a n) x || (get x).isSome))->ae (B7 (Lib.join (l.set p.toNat s) []) true 0,[(0,⟨0,some 0,vz 1 4⟩),(1,⟨0,some 1,.a7 58 []⟩),(2,⟨0,some 2,C3 3 l.length (m+1)⟩),(3,⟨0,some 3,.arr 9 true ((l.set p.toNat s).map D.str)⟩),(4,⟨0,some 4,.map 58 get' (c+1) false⟩)]))
def zF:gF:=λps R ae=>match R.length with |3=>Fp ps R ae |5=>Fq ps R ae |_=>False
def xT:gF:=λps R ae=>ps=[]/\R=[]/\ae (.ref 0 0 0,[(0,⟨0,none,vz 1 2⟩),(1,⟨0,none,.a7 58 []⟩),(2,⟨0,none,.map 58 (λ_=>none) 0 false⟩)])
abbrev BA(s:List UInt8)(pk:List D)(l:List aY)(t:List UInt8)(i:Int):S:=⟨207,[(0,sD s),(2,.d (.sl 1 pk)),(7,.d (.bool true)),(8,.sl 0 0 l.length),(10,sD t),(11,iD i)],[(0,⟨0,none,kN false l⟩)]⟩
def rz(l:List aY):Nat×P:=(8,P.sl 0 0 (Z2 l))
def oU:Nat×P:=(7,P.d (D.bool true))
def B8(pk:List D):Nat×P:=(2,P.d (D.sl 1 pk))
def p7(s:List UInt8):Nat×P:=(0,P.d (D.str s))
theorem BB(s:List UInt8)(pk:List D)(l:List aY)(t:List UInt8)(i:Int)(ae:PX×S->Prop):(bif decide (i<Z5 l) then ob (decide ((0:Int)<=i/\i<Z5 l)) (ob (decide (Ze i<Z3 l)) (ob (kV PR (37:TypeId) (Zf l i)) (ob (decide (List.length t+List.length (Zk l i)<=9223372036854775807)) (ob (Zi i) (ae (PX.normal,S.mk 207 [p7 s,B8 pk,oU,rz l,(10,P.d (D.str (t++Zk l i))),(11,Zj i)] (Zd l))))))) else ae (PX.exit 0,S.mk 207 [p7 s,B8 pk,oU,rz l,(10,P.d (D.str t))] (Zd l)))=(gm [] [] 6 11 (BA s pk l t i)) ae:=by kernel_rfl
def xU:S->K (PX×S):=λst ae=> ∃s pk l,st=BA s pk l [] 0/\(l.length<=1000/\(l.flatMap (·.2.2.2.2)).length<=1000000)/\ ∀t,t=l.flatMap (·.2.2.2.2)->ae (.exit 0,⟨207,[(0,sD s),(2,.d (.sl 1 pk)),(7,.d (.bool true)),(8,.sl 0 0 l.length),(10,sD t)],[(0,⟨0,none,kN false l⟩)]⟩)
def rJ(v:Int):D:= .int .u8 v
def iV(v:Int):D:= .int .i64 v
abbrev DY(pk:List Int):P:= .d (.sl 1 (pk.map rJ))
abbrev DZ(l:List Int):Obj:= .arr 3 false (l.map iV)
abbrev D0(s:List UInt8)(pk:List Int)(l:List aY)(h:Nat)(hl:Nat)(n w i:Int):List (Nat×P):=[(0,sD s),(2,DY pk),(7,.d (.bool true)),(8,.sl 0 0 l.length),(12,.ref 1 0 0),(13,.sl h 0 hl),(14,iD n),(15,iD w),(16,iD i)]
abbrev vA(s:List UInt8)(pk:List Int)(l:List aY)(get:D->Option D)(c:Int)(hd:List Int)(n w i:Int):S:=⟨207,D0 s pk l 4 hd.length n w i,[(0,⟨0,none,kN false l⟩),(1,⟨0,none,vz 2 3⟩),(2,⟨0,none,.a7 58 []⟩),(3,⟨0,none,.map 58 get c false⟩),(4,⟨0,none,DZ hd⟩)]⟩
abbrev xV(s:List UInt8)(pk:List Int)(l:List aY)(a b:Int)(ps:List (List UInt8))(m:Int)(get:D->Option D)(c:Int)(hd:List Int)(n w i:Int):S:=⟨207,D0 s pk l 6 hd.length n w i,[(0,⟨0,none,kN false l⟩),(1,⟨0,none,vz 2 5⟩),(2,⟨0,none,.a7 58 [(nA a b,.ref 3 0 0)]⟩),(3,⟨0,none,C3 4 ps.length m⟩),(4,⟨0,none,DT ps⟩),(5,⟨0,none,.map 58 get c false⟩),(6,⟨0,none,DZ hd⟩)]⟩
def yv(ah:D->Option D)(av:Int):En:=En.mk 0 none (Obj.map 58 ah av false)
def B9:En:=En.mk 0 none (Obj.a7 58 [])
def Fs(ah:D->Option D)(av:Int):List (Nat×En):=[(0,En.mk 0 none ZT),(1,B9),(2,yv ah av)]
def zG:P:=P.ref 0 0 0
def Df(w:Int):List (Nat×P):=[oU,(12,zG),(15,P.d (Z4 w))]
def s4(pk:List Int):Int:=(↑(List.length (List.map rJ pk)):Int)
def l6(pk:List Int)(l:List aY)(i:Int):Int:=s4 pk+Z5 l-(1:Int)-i
def Dg(hd:List Int)(pk:List Int)(l:List aY)(i:Int):Int:=D.bp (D.nth (List.map iV hd) (Int.toNat (l6 pk l i)))+(1:Int)
def zH(hd:List Int)(pk:List Int)(l:List aY)(i:Int):List D:=List.set (List.map iV hd) (Int.toNat (l6 pk l i)) (D.bc (D.int .i64 (D.bp (D.nth (List.map iV hd) (Int.toNat (l6 pk l i))))) [D.int .i64 (Dg hd pk l i)])
def D1(get':D->Option D)(av:Int):Nat×En:=(3,En.mk 0 none (Obj.map 58 get' (av+(1:Int)) false))
def zI:Nat×En:=(2,B9)
def zJ:Nat×En:=(1,En.mk 0 none (Obj.box (53:TypeId) [P.mp 2 0,P.mp 3 0]))
def D2(l:List aY)(get':D->Option D)(av:Int)(hd:List Int)(pk:List Int)(i:Int):List (Nat×En):=[Zc l,zJ,zI,D1 get' av,(4,En.mk 0 none (Obj.arr (3:TypeId) false (zH hd pk l i)))]
def Ap(hd:List Int):Nat×P:=(13,P.sl 4 0 (List.length hd))
def vB:Nat×P:=(12,P.ref 1 0 0)
def tX(pk:List Int):Nat×P:=(2,P.d (D.sl 1 (List.map rJ pk)))
def D3(s:List UInt8)(pk:List Int)(l:List aY)(hd:List Int)(n:Int)(w:Int)(i:Int):List (Nat×P):=[p7 s,tX pk,oU,rz l,vB,Ap hd,(14,P.d (Z4 n)),(15,Zj w),(16,Zj i)]
def rK(hd:List Int)(pk:List Int)(l:List aY)(i:Int):Bool:=decide (D.bp (D.nth (zH hd pk l i) (Int.toNat (l6 pk l i)))>(1:Int))
def BD(w:Int):List (Nat×P):=(6,ZC)::Df w
def iJ(ae:PX×S->Prop)(w:Int)(get':D->Option D)(av:Int):Prop:=ae (PX.ret,S.mk 207 (BD w) [(0,En.mk 0 none ZT),(1,B9),(2,En.mk 0 none (Obj.map 58 get' (av+(1:Int)) false))])
def nB(hd:List Int)(pk:List Int)(l:List aY)(i:Int):Bool:=D.bp (D.nth (zH hd pk l i) (Int.toNat (l6 pk l i)))==(1:Int)
def vS(hd:List Int)(pk:List Int)(l:List aY)(i:Int):Bool:= !nB hd pk l i==((0:Int)==(0:Int))
noncomputable def ez(hd:List Int)(pk:List Int)(l:List aY)(i:Int):Bool:=kV PR (3:TypeId) (D.nth (zH hd pk l i) (Int.toNat (l6 pk l i)))
def eA(pk:List Int)(l:List aY)(i:Int)(hd:List Int):Bool:=decide (Int.toNat (l6 pk l i)<List.length (zH hd pk l i))
def cX(pk:List Int)(l:List aY)(i:Int)(hd:List Int):Bool:=decide ((0:Int)<=l6 pk l i/\l6 pk l i<(↑(List.length hd):Int))
noncomputable def D4(pk:List Int)(l:List aY)(i:Int)(hd:List Int)(ae:PX×S->Prop)(w:Int)(get':D->Option D)(av:Int)(s:List UInt8)(n:Int):Prop:=ob (cX pk l i hd) (ob (eA pk l i hd) (ob (ez hd pk l i) (bif vS hd pk l i then iJ ae w get' av else ob (cX pk l i hd) (ob (eA pk l i hd) (ob (ez hd pk l i) (bif rK hd pk l i then iJ ae w get' av else ob (Zi w) (ob (Zi i) (ae (PX.normal,S.mk 207 (D3 s pk l hd n w i) (D2 l get' av hd pk i))))))))))
def D5(s:List UInt8)(pk:List Int)(l:List aY)(hd:List Int)(n:Int)(w:Int)(i:Int):List (Nat×P):=[p7 s,tX pk,oU,rz l,vB,Ap hd,(14,Zj n),(15,Zj w),(16,Zj i)]
noncomputable def D6(pk:List Int)(l:List aY)(i:Int)(hd:List Int)(ae:PX×S->Prop)(w:Int)(get':D->Option D)(av:Int)(s:List UInt8)(n:Int):Prop:=ob (cX pk l i hd) (ob (eA pk l i hd) (ob (ez hd pk l i) (bif vS hd pk l i then iJ ae w get' av else ob (cX pk l i hd) (ob (eA pk l i hd) (ob (ez hd pk l i) (bif rK hd pk l i then iJ ae w get' av else ob (Zi w) (ob (Zi i) (ae (PX.normal,S.mk 207 (D5 s pk l hd n w i) (D2 l get' av hd pk i))))))))))
def tY(ah:D->Option D)(av:Int)(hd:List Int)(pk:List Int)(l:List aY)(i:Int):List (Nat×En):=[(5,yv ah av),(6,En.mk 0 none (Obj.arr (3:TypeId) false (zH hd pk l i)))]
def Ft(l:List aY)(ah:D->Option D)(av:Int)(hd:List Int)(pk:List Int)(i:Int):List (Nat×En):=[Zc l,zJ,zI,(3,yv ah av),(4,En.mk 0 none (Obj.arr (3:TypeId) false (zH hd pk l i)))]
def Aq(w:Int)(i:Int):List (Nat×P):=[(15,P.d (Z4 w)),(16,Zj i)]
def Fu(i:Int)(ae:PX×S->Prop)(s:List UInt8)(pk:List Int)(l:List aY)(hd:List Int)(n:Int)(w:Int)(ah:D->Option D)(av:Int):Prop:=ob (Zi i) (ae (PX.normal,S.mk 207 (p7 s::tX pk::oU::rz l::vB::Ap hd::(14,P.d (Z4 n))::Aq w i) (Ft l ah av hd pk i)))
def zK(ae:PX×S->Prop)(w:Int)(ah:D->Option D)(av:Int):Prop:=ae (PX.ret,S.mk 207 (BD w) (Fs ah av))
def Ca(hd:List Int)(pk:List Int)(l:List aY)(i:Int):Bool:= !nB hd pk l i==((210:Int)==(0:Int))
noncomputable def Fv(pk:List Int)(l:List aY)(i:Int)(hd:List Int)(ae:PX×S->Prop)(w:Int)(ah:D->Option D)(av:Int)(s:List UInt8)(n:Int):Prop:=ob (cX pk l i hd) (ob (eA pk l i hd) (ob (ez hd pk l i) (bif Ca hd pk l i then zK ae w ah av else ob (cX pk l i hd) (ob (eA pk l i hd) (ob (ez hd pk l i) (bif rK hd pk l i then Fu i ae s pk l hd n w ah av else Fu i ae s pk l hd n w ah av))))))
def Fw(i:Int)(ae:PX×S->Prop)(s:List UInt8)(pk:List Int)(l:List aY)(hd:List Int)(n:Int)(w:Int)(ah:D->Option D)(av:Int):Prop:=ob (Zi i) (ae (PX.normal,S.mk 207 (p7 s::tX pk::oU::rz l::vB::Ap hd::(14,Zj n)::Aq w i) (Ft l ah av hd pk i)))
noncomputable def Fx(pk:List Int)(l:List aY)(i:Int)(hd:List Int)(ae:PX×S->Prop)(w:Int)(ah:D->Option D)(av:Int)(s:List UInt8)(n:Int):Prop:=ob (cX pk l i hd) (ob (eA pk l i hd) (ob (ez hd pk l i) (bif Ca hd pk l i then zK ae w ah av else ob (cX pk l i hd) (ob (eA pk l i hd) (ob (ez hd pk l i) (bif rK hd pk l i then Fw i ae s pk l hd n w ah av else Fw i ae s pk l hd n w ah av))))))
def Ar(hd:List Int)(pk:List Int)(l:List aY)(i:Int):Bool:=decide (Zg<=Dg hd pk l i/\Dg hd pk l i<=Zh)
noncomputable def tZ(hd:List Int)(pk:List Int)(l:List aY)(i:Int):Bool:=kV PR (3:TypeId) (D.nth (List.map iV hd) (Int.toNat (l6 pk l i)))
def ua(pk:List Int)(l:List aY)(i:Int)(hd:List Int):Bool:=decide (Int.toNat (l6 pk l i)<List.length (List.map iV hd))
def zL(l:List aY)(pk:List Int)(i:Int):D:=D.nth (List.map ko l) (Int.toNat (l6 pk l i))
def D7(l:List aY)(pk:List Int)(i:Int):List P:=[zG,P.d (D.agg [D.int .i64 (D.bp (D.iM (zL l pk i) 0)),D.int .i64 (D.bp (D.iM (zL l pk i) 1)),D.int .i64 (D.bp (D.iM (zL l pk i) 2)),D.int .i64 (D.bp (D.iM (zL l pk i) 3)),D.str (D.jR (D.iM (zL l pk i) 4))])]
def oV(pk:List Int)(i:Int)(l:List aY):Int:=Int.tmod (D.bp (D.nth (List.map rJ pk) (Ze i))) (Z5 l)
def Dh(hd:List Int)(pk:List Int)(i:Int)(l:List aY):Int:=D.bp (D.nth (List.map iV hd) (Int.toNat (oV pk i l)))+(1:Int)
def zM(hd:List Int)(pk:List Int)(i:Int)(l:List aY):List D:=List.set (List.map iV hd) (Int.toNat (oV pk i l)) (D.bc (D.int .i64 (D.bp (D.nth (List.map iV hd) (Int.toNat (oV pk i l))))) [D.int .i64 (Dh hd pk i l)])
def D8(l:List aY)(get':D->Option D)(av:Int)(hd:List Int)(pk:List Int)(i:Int):List (Nat×En):=[Zc l,zJ,zI,D1 get' av,(4,En.mk 0 none (Obj.arr (3:TypeId) false (zM hd pk i l)))]
def rL(hd:List Int)(pk:List Int)(i:Int)(l:List aY):Bool:=decide (D.bp (D.nth (zM hd pk i l) (Int.toNat (oV pk i l)))>(1:Int))
def nC(hd:List Int)(pk:List Int)(i:Int)(l:List aY):Bool:=D.bp (D.nth (zM hd pk i l) (Int.toNat (oV pk i l)))==(1:Int)
def vT(hd:List Int)(pk:List Int)(i:Int)(l:List aY):Bool:= !nC hd pk i l==((0:Int)==(0:Int))
noncomputable def eB(hd:List Int)(pk:List Int)(i:Int)(l:List aY):Bool:=kV PR (3:TypeId) (D.nth (zM hd pk i l) (Int.toNat (oV pk i l)))
def eC(pk:List Int)(i:Int)(l:List aY)(hd:List Int):Bool:=decide (Int.toNat (oV pk i l)<List.length (zM hd pk i l))
def cY(pk:List Int)(i:Int)(l:List aY)(hd:List Int):Bool:=decide ((0:Int)<=oV pk i l/\oV pk i l<(↑(List.length hd):Int))
noncomputable def D9(pk:List Int)(i:Int)(l:List aY)(hd:List Int)(ae:PX×S->Prop)(w:Int)(get':D->Option D)(av:Int)(s:List UInt8)(n:Int):Prop:=ob (cY pk i l hd) (ob (eC pk i l hd) (ob (eB hd pk i l) (bif vT hd pk i l then iJ ae w get' av else ob (cY pk i l hd) (ob (eC pk i l hd) (ob (eB hd pk i l) (bif rL hd pk i l then iJ ae w get' av else ob (Zi w) (ob (Zi i) (ae (PX.normal,S.mk 207 (D3 s pk l hd n w i) (D8 l get' av hd pk i))))))))))
def Cb(n:Int)(l:List aY):Bool:= !true==(n==Z5 l)
noncomputable def Ea(pk:List Int)(i:Int)(l:List aY)(hd:List Int)(ae:PX×S->Prop)(w:Int)(get':D->Option D)(av:Int)(s:List UInt8)(n:Int):Prop:=ob (cY pk i l hd) (ob (eC pk i l hd) (ob (eB hd pk i l) (bif vT hd pk i l then iJ ae w get' av else ob (cY pk i l hd) (ob (eC pk i l hd) (ob (eB hd pk i l) (bif rL hd pk i l then iJ ae w get' av else ob (Zi w) (ob (Zi i) (ae (PX.normal,S.mk 207 (D5 s pk l hd n w i) (D8 l get' av hd pk i))))))))))
def Cc(n:Int)(l:List aY):Bool:= !true==(n+(1:Int)==Z5 l)
def Cd(get':D->Option D)(a:Int)(aQ:Int)(ah:D->Option D):Prop:= ∀(x:D),Option.isSome (get' x)=(D.fy (nA a aQ) x ||Option.isSome (ah x))
def ub(s:List UInt8)(pk:List Int)(l:List aY)(hd:List Int)(n:Int)(w:Int)(i:Int):List (Nat×P):=p7 s::tX pk::oU::rz l::vB::(13,P.sl 6 0 (List.length hd))::(14,P.d (Z4 n))::Aq w i
def uc(ah:D->Option D)(av:Int)(hd:List Int)(pk:List Int)(i:Int)(l:List aY):List (Nat×En):=[(5,yv ah av),(6,En.mk 0 none (Obj.arr (3:TypeId) false (zM hd pk i l)))]
def yw(q:Int)(p:Int)(aW:List UInt8):En:=En.mk 0 none (Obj.arr (9:TypeId) false (List.map D.str (List.set (List.replicate (Ze q) []) (Ze p) aW)))
def lH(a:Int)(aQ:Int):Nat×En:=(2,En.mk 0 none (B4 a aQ))
def lI:Nat×En:=(1,En.mk 0 none (Obj.box (53:TypeId) [P.mp 2 0,P.mp 5 0]))
def ud(s:List UInt8)(pk:List Int)(l:List aY)(hd:List Int)(n:Int)(w:Int)(i:Int):List (Nat×P):=p7 s::tX pk::oU::rz l::vB::(13,P.sl 6 0 (List.length hd))::(14,Zj n)::Aq w i
def Di(a:Int)(aQ:Int):Nat×En:=(1,En.mk 0 none (Dd a aQ))
def Dj:Nat×En:=(0,En.mk 0 none Da)
def nY(ae:PX×S->Prop)(w:Int)(a:Int)(aQ:Int)(q:Int)(p:Int)(aW:List UInt8)(ah:D->Option D)(av:Int):Prop:=ae (PX.ret,S.mk 207 (BD w) [Dj,Di a aQ,(2,En.mk 0 none (Obj.box (61:TypeId) (P.sl 3 0 (Ze q)::Zn))),(3,yw q p aW),(4,yv ah av)])
def BE(ah:D->Option D)(a:Int)(aQ:Int):Prop:=Option.isSome (ah (nA a aQ))=false
def Fy(l:List aY)(ah:D->Option D)(av:Int)(hd:List Int)(pk:List Int)(i:Int):List (Nat×En):=[Zc l,zJ,zI,(3,yv ah av),(4,En.mk 0 none (Obj.arr (3:TypeId) false (zM hd pk i l)))]
def Fz(i:Int)(ae:PX×S->Prop)(s:List UInt8)(pk:List Int)(l:List aY)(hd:List Int)(n:Int)(w:Int)(ah:D->Option D)(av:Int):Prop:=ob (Zi i) (ae (PX.normal,S.mk 207 (p7 s::tX pk::oU::rz l::vB::Ap hd::(14,P.d (Z4 n))::Aq w i) (Fy l ah av hd pk i)))
def Ce(hd:List Int)(pk:List Int)(i:Int)(l:List aY):Bool:= !nC hd pk i l==((210:Int)==(0:Int))
noncomputable def FA(pk:List Int)(i:Int)(l:List aY)(hd:List Int)(ae:PX×S->Prop)(w:Int)(ah:D->Option D)(av:Int)(s:List UInt8)(n:Int):Prop:=ob (cY pk i l hd) (ob (eC pk i l hd) (ob (eB hd pk i l) (bif Ce hd pk i l then zK ae w ah av else ob (cY pk i l hd) (ob (eC pk i l hd) (ob (eB hd pk i l) (bif rL hd pk i l then Fz i ae s pk l hd n w ah av else Fz i ae s pk l hd n w ah av))))))
def yx(n:Int)(l:List aY):Bool:= !false==(n==Z5 l)
def FB(i:Int)(ae:PX×S->Prop)(s:List UInt8)(pk:List Int)(l:List aY)(hd:List Int)(n:Int)(w:Int)(ah:D->Option D)(av:Int):Prop:=ob (Zi i) (ae (PX.normal,S.mk 207 (p7 s::tX pk::oU::rz l::vB::Ap hd::(14,Zj n)::Aq w i) (Fy l ah av hd pk i)))
noncomputable def FE(pk:List Int)(i:Int)(l:List aY)(hd:List Int)(ae:PX×S->Prop)(w:Int)(ah:D->Option D)(av:Int)(s:List UInt8)(n:Int):Prop:=ob (cY pk i l hd) (ob (eC pk i l hd) (ob (eB hd pk i l) (bif Ce hd pk i l then zK ae w ah av else ob (cY pk i l hd) (ob (eC pk i l hd) (ob (eB hd pk i l) (bif rL hd pk i l then FB i ae s pk l hd n w ah av else FB i ae s pk l hd n w ah av))))))
def yy(n:Int)(l:List aY):Bool:= !false==(n+(1:Int)==Z5 l)
def As(hd:List Int)(pk:List Int)(i:Int)(l:List aY):Bool:=decide (Zg<=Dh hd pk i l/\Dh hd pk i l<=Zh)
noncomputable def uf(hd:List Int)(pk:List Int)(i:Int)(l:List aY):Bool:=kV PR (3:TypeId) (D.nth (List.map iV hd) (Int.toNat (oV pk i l)))
def ug(pk:List Int)(i:Int)(l:List aY)(hd:List Int):Bool:=decide (Int.toNat (oV pk i l)<List.length (List.map iV hd))
def zN(l:List aY)(pk:List Int)(i:Int):D:=D.nth (List.map ko l) (Int.toNat (oV pk i l))
def Eb(l:List aY)(pk:List Int)(i:Int):List P:=[zG,P.d (D.agg [D.int .i64 (D.bp (D.iM (zN l pk i) 0)),D.int .i64 (D.bp (D.iM (zN l pk i) 1)),D.int .i64 (D.bp (D.iM (zN l pk i) 2)),D.int .i64 (D.bp (D.iM (zN l pk i) 3)),D.str (D.jR (D.iM (zN l pk i) 4))])]
def Ec(pk:List Int)(i:Int):Bool:=decide (Zg<=D.bp (D.nth (List.map rJ pk) (Ze i))/\D.bp (D.nth (List.map rJ pk) (Ze i))<=Zh)
def Ed(pk:List Int)(l:List aY):Bool:=decide (Zg<=s4 pk+Z5 l-(1:Int)/\s4 pk+Z5 l-(1:Int)<=Zh)
def Cf(pk:List Int)(l:List aY):Bool:=decide (Zg<=s4 pk+Z5 l/\s4 pk+Z5 l<=Zh)
theorem BF(s:List UInt8)(pk:List Int)(l:List aY)(get:D->Option D)(c:Int)(hd:List Int)(n w i:Int)(ae:PX×S->Prop):(ob (Cf pk l) (bif decide (i<s4 pk+Z5 l) then ob (Cf pk l) (ob (Ed pk l) (ob (decide (Zg<=l6 pk l i/\l6 pk l i<=Zh)) (bif decide (i<s4 pk) then ob (decide ((0:Int)<=i/\i<s4 pk)) (ob (kV PR (5:TypeId) (D.nth (List.map rJ pk) (Ze i))) (ob (Ec pk i) (ob (!decide (Z5 l=(0:Int))) (ob (decide ((0:Int)<=oV pk i l/\oV pk i l<Z5 l)) (ob (decide (Int.toNat (oV pk i l)<Z3 l)) (ob (kV PR (37:TypeId) (zN l pk i)) (∃(a:Int) (aQ:Int) (p:Int) (q:Int) (aW:List UInt8) (ah:D->Option D) (av:Int),Eb l pk i=[zG,P.d (D.agg [Z4 a,Z4 aQ,Z4 p,Z4 q,D.str aW])]/\ZX get c=ZX ah av/\(nu a aQ p q aW/\iU ah)/\(Option.isSome (ah (nA a aQ))=true->ob (cY pk i l hd) (ob (ug pk i l hd) (ob (uf hd pk i l) (ob (As hd pk i l) (ob (cY pk i l hd) (ob (ug pk i l hd) (ob (uf hd pk i l) (ob (cY pk i l hd) (ob (eC pk i l hd) (ob (eB hd pk i l) (bif nC hd pk i l then ob (Zi n) (ob (cY pk i l hd) (ob (eC pk i l hd) (ob (eB hd pk i l) (bif nC hd pk i l then bif yy n l then zK ae w ah av else FE pk i l hd ae w ah av s n else FE pk i l hd ae w ah av s n)))) else ob (cY pk i l hd) (ob (eC pk i l hd) (ob (eB hd pk i l) (bif nC hd pk i l then bif yx n l then zK ae w ah av else FA pk i l hd ae w ah av s n else FA pk i l hd ae w ah av s n))))))))))))))/\(BE ah a aQ->q≠(1:Int)->ob (cY pk i l hd) (ob (ug pk i l hd) (ob (uf hd pk i l) (ob (As hd pk i l) (ob (cY pk i l hd) (ob (ug pk i l hd) (ob (uf hd pk i l) (ob (cY pk i l hd) (ob (eC pk i l hd) (ob (eB hd pk i l) (bif nC hd pk i l then ob (Zi n) (ob (cY pk i l hd) (ob (eC pk i l hd) (ob (eB hd pk i l) (bif nC hd pk i l then bif yy n l then nY ae w a aQ q p aW ah av else ob (cY pk i l hd) (ob (eC pk i l hd) (ob (eB hd pk i l) (bif vT hd pk i l then nY ae w a aQ q p aW ah av else ob (cY pk i l hd) (ob (eC pk i l hd) (ob (eB hd pk i l) (bif rL hd pk i l then nY ae w a aQ q p aW ah av else ob (Zi i) (ae (PX.normal,S.mk 207 (ud s pk l hd n w i) (Zc l::lI::lH a aQ::vQ q::(4,yw q p aW)::uc ah av hd pk i l))))))))) else ob (cY pk i l hd) (ob (eC pk i l hd) (ob (eB hd pk i l) (bif vT hd pk i l then nY ae w a aQ q p aW ah av else ob (cY pk i l hd) (ob (eC pk i l hd) (ob (eB hd pk i l) (bif rL hd pk i l then nY ae w a aQ q p aW ah av else ob (Zi i) (ae (PX.normal,S.mk 207 (ud s pk l hd n w i) (Zc l::lI::lH a aQ::vQ q::(4,yw q p aW)::uc ah av hd pk i l))))))))))))) else ob (cY pk i l hd) (ob (eC pk i l hd) (ob (eB hd pk i l) (bif nC hd pk i l then bif yx n l then nY ae w a aQ q p aW ah av else ob (cY pk i l hd) (ob (eC pk i l hd) (ob (eB hd pk i l) (bif vT hd pk i l then nY ae w a aQ q p aW ah av else ob (cY pk i l hd) (ob (eC pk i l hd) (ob (eB hd pk i l) (bif rL hd pk i l then nY ae w a aQ q p aW ah av else ob (Zi i) (ae (PX.normal,S.mk 207 (ub s pk l hd n w i) (Zc l::lI::lH a aQ::vQ q::(4,yw q p aW)::uc ah av hd pk i l))))))))) else ob (cY pk i l hd) (ob (eC pk i l hd) (ob (eB hd pk i l) (bif vT hd pk i l then nY ae w a aQ q p aW ah av else ob (cY pk i l hd) (ob (eC pk i l hd) (ob (eB hd pk i l) (bif rL hd pk i l then nY ae w a aQ q p aW ah av else ob (Zi i) (ae (PX.normal,S.mk 207 (ub s pk l hd n w i) (Zc l::lI::lH a aQ::vQ q::(4,yw q p aW)::uc ah av hd pk i l)))))))))))))))))))))))/\(BE ah a aQ->q=(1:Int)-> ∀(get':D->Option D),iU get'->Cd get' a aQ ah->ob (cY pk i l hd) (ob (ug pk i l hd) (ob (uf hd pk i l) (ob (As hd pk i l) (ob (cY pk i l hd) (ob (ug pk i l hd) (ob (uf hd pk i l) (ob (cY pk i l hd) (ob (eC pk i l hd) (ob (eB hd pk i l) (bif nC hd pk i l then ob (Zi n) (ob (cY pk i l hd) (ob (eC pk i l hd) (ob (eB hd pk i l) (bif nC hd pk i l then bif Cc n l then iJ ae w get' av else bif !aW==s then iJ ae w get' av else Ea pk i l hd ae w get' av s n else iJ ae w get' av)))) else ob (cY pk i l hd) (ob (eC pk i l hd) (ob (eB hd pk i l) (bif nC hd pk i l then bif Cb n l then iJ ae w get' av else bif !aW==s then iJ ae w get' av else D9 pk i l hd ae w get' av s n else iJ ae w get' av))))))))))))))))))))) else ob (decide ((0:Int)<=l6 pk l i/\l6 pk l i<Z5 l)) (ob (decide (Int.toNat (l6 pk l i)<Z3 l)) (ob (kV PR (37:TypeId) (zL l pk i)) (∃(a:Int) (aQ:Int) (p:Int) (q:Int) (aW:List UInt8) (ah:D->Option D) (av:Int),D7 l pk i=[zG,P.d (D.agg [Z4 a,Z4 aQ,Z4 p,Z4 q,D.str aW])]/\ZX get c=ZX ah av/\(nu a aQ p q aW/\iU ah)/\(Option.isSome (ah (nA a aQ))=true->ob (cX pk l i hd) (ob (ua pk l i hd) (ob (tZ hd pk l i) (ob (Ar hd pk l i) (ob (cX pk l i hd) (ob (ua pk l i hd) (ob (tZ hd pk l i) (ob (cX pk l i hd) (ob (eA pk l i hd) (ob (ez hd pk l i) (bif nB hd pk l i then ob (Zi n) (ob (cX pk l i hd) (ob (eA pk l i hd) (ob (ez hd pk l i) (bif nB hd pk l i then bif yy n l then zK ae w ah av else Fx pk l i hd ae w ah av s n else Fx pk l i hd ae w ah av s n)))) else ob (cX pk l i hd) (ob (eA pk l i hd) (ob (ez hd pk l i) (bif nB hd pk l i then bif yx n l then zK ae w ah av else Fv pk l i hd ae w ah av s n else Fv pk l i hd ae w ah av s n))))))))))))))/\(BE ah a aQ->q≠(1:Int)->ob (cX pk l i hd) (ob (ua pk l i hd) (ob (tZ hd pk l i) (ob (Ar hd pk l i) (ob (cX pk l i hd) (ob (ua pk l i hd) (ob (tZ hd pk l i) (ob (cX pk l i hd) (ob (eA pk l i hd) (ob (ez hd pk l i) (bif nB hd pk l i then ob (Zi n) (ob (cX pk l i hd) (ob (eA pk l i hd) (ob (ez hd pk l i) (bif nB hd pk l i then bif yy n l then nY ae w a aQ q p aW ah av else ob (cX pk l i hd) (ob (eA pk l i hd) (ob (ez hd pk l i) (bif vS hd pk l i then nY ae w a aQ q p aW ah av else ob (cX pk l i hd) (ob (eA pk l i hd) (ob (ez hd pk l i) (bif rK hd pk l i then nY ae w a aQ q p aW ah av else ob (Zi i) (ae (PX.normal,S.mk 207 (ud s pk l hd n w i) (Zc l::lI::lH a aQ::vQ q::(4,yw q p aW)::tY ah av hd pk l i))))))))) else ob (cX pk l i hd) (ob (eA pk l i hd) (ob (ez hd pk l i) (bif vS hd pk l i then nY ae w a aQ q p aW ah av else ob (cX pk l i hd) (ob (eA pk l i hd) (ob (ez hd pk l i) (bif rK hd pk l i then nY ae w a aQ q p aW ah av else ob (Zi i) (ae (PX.normal,S.mk 207 (ud s pk l hd n w i) (Zc l::lI::lH a aQ::vQ q::(4,yw q p aW)::tY ah av hd pk l i))))))))))))) else ob (cX pk l i hd) (ob (eA pk l i hd) (ob (ez hd pk l i) (bif nB hd pk l i then bif yx n l then nY ae w a aQ q p aW ah av else ob (cX pk l i hd) (ob (eA pk l i hd) (ob (ez hd pk l i) (bif vS hd pk l i then nY ae w a aQ q p aW ah av else ob (cX pk l i hd) (ob (eA pk l i hd) (ob (ez hd pk l i) (bif rK hd pk l i then nY ae w a aQ q p aW ah av else ob (Zi i) (ae (PX.normal,S.mk 207 (ub s pk l hd n w i) (Zc l::lI::lH a aQ::vQ q::(4,yw q p aW)::tY ah av hd pk l i))))))))) else ob (cX pk l i hd) (ob (eA pk l i hd) (ob (ez hd pk l i) (bif vS hd pk l i then nY ae w a aQ q p aW ah av else ob (cX pk l i hd) (ob (eA pk l i hd) (ob (ez hd pk l i) (bif rK hd pk l i then nY ae w a aQ q p aW ah av else ob (Zi i) (ae (PX.normal,S.mk 207 (ub s pk l hd n w i) (Zc l::lI::lH a aQ::vQ q::(4,yw q p aW)::tY ah av hd pk l i)))))))))))))))))))))))/\(BE ah a aQ->q=(1:Int)-> ∀(get':D->Option D),iU get'->Cd get' a aQ ah->ob (cX pk l i hd) (ob (ua pk l i hd) (ob (tZ hd pk l i) (ob (Ar hd pk l i) (ob (cX pk l i hd) (ob (ua pk l i hd) (ob (tZ hd pk l i) (ob (cX pk l i hd) (ob (eA pk l i hd) (ob (ez hd pk l i) (bif nB hd pk l i then ob (Zi n) (ob (cX pk l i hd) (ob (eA pk l i hd) (ob (ez hd pk l i) (bif nB hd pk l i then bif Cc n l then iJ ae w get' av else bif !aW==s then iJ ae w get' av else D6 pk l i hd ae w get' av s n else iJ ae w get' av)))) else ob (cX pk l i hd) (ob (eA pk l i hd) (ob (ez hd pk l i) (bif nB hd pk l i then bif Cb n l then iJ ae w get' av else bif !aW==s then iJ ae w get' av else D4 pk l i hd ae w get' av s n else iJ ae w get' av)))))))))))))))))))) else ae (PX.exit 2,S.mk 207 (Df w) (Fs get c))))=(gm [(13,zF)] [] 6 20 (vA s pk l get c hd n w i)) ae:=by kernel_rfl
theorem bK{p:Prop}{i:Decidable p}{A:Prop}(h1:p)(h2:A):cond (@decide p i) A False:=by rw[zaj h1];exact h2
theorem eY{p:Prop}{i:Decidable p}{A B:Prop}(h1:p->A)(h2: ¬p->B):cond (@decide p i) A B:=by
 by_cases h:p
 ·rw[zaj h];exact h1 h
 rw[zaY h];exact h2 h
theorem ff{p:Prop}{i:Decidable p}{A B:Prop}(h1:p)(h2:A):cond (@decide p i) A B:=by rw[zaj h1];exact h2
theorem vC(x:aY):kV PR 37 (ko x)=true:=by obtain⟨a,b,c,d,e⟩:=x;kernel_rfl
theorem kP{l:List aY}{i:Nat}(h:i<l.length):D.nth (l.map ko) i=ko l[i]:=by unfold D.nth;simp[zah,h]
theorem zO(l:List aY):List.take l.length (l.map ko)=l.map ko:=zaD (by simp)
section
variable{X:XF}
theorem zP:LD X 9 8 (bu (nr 9 8) Bs):=LD.par (H:=[]) (hk:=[]) (by kernel_rfl) (by kernel_rfl) .nil .nil
 (A:=Int×Int×Int×List UInt8) (B:=List UInt8×List (List UInt8)) (λa b=>Ff a.1 a.2.1 b.1 a.2.2.1 (fA a.1 a.2.1 0 b.2))
 (λa b=>(1<=a.2.2.1/\a.2.2.2.length<=1000000/\(chunk a.2.2.1.toNat a.2.2.2).length<=1000)/\b.2++chunk a.2.2.1.toNat b.1=chunk a.2.2.1.toNat a.2.2.2/\b.1.length<=1000000)
 (λ_ b=>b.1.length)
 (λa x=>x=(.exit 1,zC (fA a.1 a.2.1 0 (chunk a.2.2.1.toNat a.2.2.2))))
 (by
  rintro⟨a,n,z,s0⟩ ⟨s,ps⟩ ⟨⟨hz,xG,hc⟩,hp,hs⟩;dsimp only at*
  (rw[<-C1];delta Zc Zd Z2 Zb Za Z4 Z9 Z0 Z8 Z7 Z5 Z6 Z3 Z1)
  refine tS (λh=> ?_) λh=> ?_
  ·have cc:s≠[]:=λe=>by subst e;simp at h
   have hl:0<s.length:=zaW.2 cc;have e1:List.drop (Int.toNat (min z (s.length:Int))) (List.take s.length s)=s.drop z.toNat:=by
    rw[zb5];by_cases wR:z<=s.length
    ·rw[Int.min_eq_left wR]
    rw[Int.min_eq_right (by omega),zaS (by simp),zaS (by omega)]
   have e2:List.drop 0 (List.take (Int.toNat (min z (s.length:Int))) s)=s.take z.toNat:=by
    rw[zcd];by_cases wR:z<=s.length
    ·rw[Int.min_eq_left wR]
    rw[Int.min_eq_right (by omega),zaD (by simp),zaD (by omega)]
   rw[e1,e2];have Gw:(ps++[s.take z.toNat])++chunk z.toNat (s.drop z.toNat)=chunk z.toNat s0:=by rw[<-hp,eX (by omega) cc,zbp,List.singleton_append]
   have AH:ps.length+1<=1000:=by have:=congrArg List.length Gw;simp only[zaG,List.length_singleton] at this;omega
   have j8:List.take (fA a n 0 ps).length ((fA a n 0 ps).map ko)++[D.agg [D.int IntKind.i64 a,D.int IntKind.i64 n,D.int IntKind.i64 ((fA a n 0 ps).length:Int),D.int IntKind.i64 0,D.str (s.take z.toNat)]]=(fA a n 0 (ps++[s.take z.toNat])).map ko:=by rw[zO,xQ,zbw,b8];rfl
   rw[j8];have hlen:(fA a n 0 ps).length+[D.agg [D.int IntKind.i64 a,D.int IntKind.i64 n,D.int IntKind.i64 ((fA a n 0 ps).length:Int),D.int IntKind.i64 0,D.str (s.take z.toNat)]].length=(fA a n 0 (ps++[s.take z.toNat])).length:=by rw[b8,b8,zaG];rfl
   rw[hlen];refine bK ⟨by omega,by omega⟩ (im ?_ (bK ⟨by omega,by omega⟩ ?_))
   ·rw[zat,b8,b8,zaG,List.length_singleton];simp only[eE,zac,zbl];omega
   refine⟨_,?_,(s.drop z.toNat,ps++[s.take z.toNat]),rfl,⟨⟨hz,xG,hc⟩,Gw,?_⟩,rfl⟩
   ·rw[zaF];omega
   dsimp only;rw[zaF];omega
  have cc:s=[]:=by simpa using h
  subst cc;rw[oT,zca] at hp;rw[<-hp];rfl)
 (by rintro st ae ⟨a,n,s,z,rfl,hc,hp⟩;refine⟨(a,n,z,s),(s,[]),rfl,⟨hc,rfl,hc.2.1⟩,?_⟩;rintro x rfl;exact hp _ rfl)
theorem fN(N:Int)(i:Nat)(l:List aY):(gn N i l).length=l.length:=by simp only[gn,zaG,zat,zbh,zaF];omega
theorem xW(N:Int){i:Nat}{l:List aY}(h:i<l.length):(gn N i l)[i]'(by rw[fN];exact h)=l[i]:=by
 have hl:((l.take i).map (λx:aY=>((x.1,x.2.1,x.2.2.1,N,x.2.2.2.2):aY))).length=i:=by rw[zat,zbh];omega
 simp only[gn];rw[List.getElem_append_right (by omega)];have:min i l.length=i:=by omega
 simp[this]
theorem vD(N:Int){i:Nat}{l:List aY}(h:i<l.length):(gn N i l).set i (l[i].1,l[i].2.1,l[i].2.2.1,N,l[i].2.2.2.2)=gn N (i+1) l:=by
 have hl:((l.take i).map (λx:aY=>((x.1,x.2.1,x.2.2.1,N,x.2.2.2.2):aY))).length=i:=by rw[zat,zbh];omega
 simp only[gn];rw[List.set_append_right _ _ (by omega),hl,Nat.sub_self,zbz h,zbT,zbW h,zbw,zbp];rfl
theorem xX(a n:Int)(ps:List (List UInt8)):gn (ps.length:Int) ps.length (fA a n 0 ps)=fA a n ps.length ps:=by unfold gn;rw[zaD (by rw[b8];exact zaf _),zaS (by rw[b8];exact zaf _),zca];simp[fA]
theorem xY:LD X 9 13 (bu (nr 9 13) xR):=LD.par (H:=[]) (hk:=[]) (by kernel_rfl) (by kernel_rfl) .nil .nil
 (A:=List aY) (B:=Int) (λo i=>Bt (gn o.length i.toNat o) o.length i)
 (λo i=>o.length<=1000/\0<=i/\i<=o.length)
 (λo i=>(o.length-i).toNat)
 (λo x=>x=(.exit 3,zC (gn o.length o.length o)))
 (by
  rintro o i ⟨hm,h0,h1⟩
  (rw[<-Bu];delta Zc Zd Ze Zf Zk Zj Z4 Z2 Zb Zh Zg Zi Z3 Z5)
  refine eY (λh=> ?_) λh=> ?_
  ·have hi:i.toNat<o.length:=by omega
   have DN:i.toNat<(gn o.length i.toNat o).length:=by rw[fN];exact hi
   rw[kP DN,xW _ hi];generalize hy:o[i.toNat]=y;have j8:List.set ((gn o.length i.toNat o).map ko) i.toNat (D.bc (D.agg [D.int IntKind.i64 (D.bp (D.iM (ko y) 0)),D.int IntKind.i64 (D.bp (D.iM (ko y) 1)),D.int IntKind.i64 (D.bp (D.iM (ko y) 2)),D.int IntKind.i64 (D.bp (D.iM (ko y) 3)),D.str (D.jR (D.iM (ko y) 4))]) [D.int IntKind.i64 (D.bp (D.iM (ko y) 0)),D.int IntKind.i64 (D.bp (D.iM (ko y) 1)),D.int IntKind.i64 (D.bp (D.iM (ko y) 2)),D.int IntKind.i64 ((gn o.length i.toNat o).length:Int),D.str (D.jR (D.iM (ko y) 4))])=(gn o.length (i+1).toNat o).map ko:=by
    have e:(i+1).toNat=i.toNat+1:=by omega
    rw[e,<-vD _ hi,zb1,hy,fN];rfl
   rw[j8];refine bK ⟨h0,by rw[fN];omega⟩ (bK (by rw[zat];exact DN) (im (vC y) (bK (by omega) ?_)));have hl:(gn o.length i.toNat o).length=(gn o.length (i+1).toNat o).length:=by rw[fN,fN]
   rw[hl];exact⟨_,by omega,i+1,rfl,⟨hm,by omega,by omega⟩,rfl⟩
  have e:i.toNat=o.length:=by omega
  rw[e];rfl)
 (by rintro st ae ⟨o,rfl,hm,hp⟩;refine⟨o,0,rfl,⟨hm,zbS 0,by omega⟩,?_⟩;rintro x rfl;exact hp _ rfl)
theorem jH{a n:Int}{s:List UInt8}{z:Int}(h:iv a n s z=0):(1<=a/\a<=16/\0<=n/\1<=z)/\s≠[]/\(s.length-1)/z.toNat<1000/\(chunk z.toNat s).length=(s.length-1)/z.toNat+1:=by
 unfold iv at h;split at h
 ·cases h
 split at h
 ·cases h
 rename_i h1 h2;split at h
 ·cases h
 exact⟨by omega,h2,by omega,vw (by omega) s h2⟩
theorem xZ{s:List UInt8}{z:Int}(hs:s≠[])(hz:1<=z):Int.tdiv ((s.length:Int)-1) z=((s.length-1)/z.toNat:Nat):=by
 have hl:0<s.length:=zaW.2 hs;have e1:((s.length:Int)-1)=((s.length-1:Nat):Int):=by omega
 have e2:z=(z.toNat:Int):=by omega
 rw[e1]
 conv=>lhs;rw[e2]
 exact(Int.ofNat_tdiv _ _).symm
theorem Dk:FD X 9 Bv:=FD.mk (H:=[]) (hk:=[(8,bu (nr 9 8) Bs),(13,bu (nr 9 13) xR)]) (by kernel_rfl) .nil (.cons zP (.cons xY .nil)) (by
 intro ps R ae hh;obtain⟨a,n,s,z,rfl,rfl,⟨hs,Im⟩,h1,h2⟩:=hh
 (rw[<-C2];delta Zc Zd Zw Z2 Zy Z5 Zb Zx Ze Zo Zm Z4 Z9 Zu Z8 Z7 Zv Zt Z0 Zh Zg Zs Zr Zq Zn Zp Zl)
 have bad: ∀e:Int,iv a n s z=e->e≠0->ae (P.dW [P.sl 0 0 0,iD e],[(0,⟨0,none,kN false []⟩)]):=λe he cc=>h1 e he.symm cc;refine eY (λg=>bad 1 (by unfold iv;rw[zau (.inl g)]) (by decide)) λg1=>eY (λg=>bad 1 (by unfold iv;rw[zau (.inr (.inl (by omega)))]) (by decide)) λg2=>eY (λg=>bad 1 (by unfold iv;rw[zau (.inr (.inr (.inl g)))]) (by decide)) λg3=>eY (λg=>bad 1 (by unfold iv;rw[zau (.inr (.inr (.inr g)))]) (by decide)) λg4=> ?_;have hn: ¬(a<1\/16<a\/n<0\/z<1):=by omega
 refine tS (λg=>bad 10 (by unfold iv;rw[zay hn,zau (by simpa using g)]) (by decide)) λg5=> ?_;have cc:s≠[]:=by simpa using g5
 have hl:0<s.length:=zaW.2 cc;have x0:(s.length-1)/z.toNat<=s.length-1:=Nat.div_le_self _ _;have Io:(0:Int)<=((s.length-1:Nat):Int)/(z.toNat:Int):=Int.ediv_nonneg (Int.natCast_nonneg _) (Int.natCast_nonneg _);rw[xZ cc (by omega)];refine bK (by omega) (im (by simp;omega) (bK (by omega) (eY (λg=>bad 2 (by unfold iv;rw[zay hn,zay cc,zau (by omega)]) (by decide)) λg6=> ?_)));have h0:iv a n s z=0:=by unfold iv;rw[zay hn,zay cc,zay (by omega)]
 obtain⟨_,_,c1,c2⟩:=jH h0;refine⟨a,n,s,z,rfl,⟨by omega,hs,by omega⟩,λo ho=>⟨o,rfl,by rw[ho,b8];omega,λo' pQ=>h2 h0 o' ?_⟩⟩;rw[pQ,ho,b8];exact xX a n _)
end
def aD(hd:List Int):Nat:=hd.countP (λh=>decide (0<h))
def bz(P:List (List UInt8))(hd:List Int):List (List UInt8):=List.zipWith (λp h=>if 0<h then p else []) P hd
theorem l7(hd:List Int):aD hd<=hd.length:=List.countP_le_length
theorem iw{hd:List Int}(h:aD hd=hd.length): ∀x∈hd,0<x:=λx hx=>by have:=List.countP_eq_length.1 h x hx;simpa using this
theorem fO{hd:List Int}(h:aD hd=0): ∀x∈hd,¬0<x:=λx hx=>by have:=List.countP_eq_zero.1 h x hx;simpa using this
theorem rA: ∀(hd:List Int) (k:Nat) (h:k<hd.length),0<=hd[k]->aD (hd.set k (hd[k]+1))=if 0<hd[k] then aD hd else aD hd+1
 | [],k,h,_=>by simp at h
 |x::r,0,_,h0=>by
  have h0:0<=x:=h0;simp only[zbT,List.getElem_cons_zero,aD,List.countP_cons];have h1:(0:Int)<x+1:=by omega
  by_cases hx:0<x<;>simp[hx,h1]
 |x::r,k+1,h,h0=>by
  have ih:=rA r k (by simpa using h) (by simpa using h0);simp only[List.set_cons_succ,List.getElem_cons_succ,aD,List.countP_cons] at ih⊢;rw[ih];by_cases hx:0<r[k]'(by simpa using h)
  ·simp[hx]
  simp[hx];omega
theorem kl{P:List (List UInt8)}{hd:List Int}(h:hd.length=P.length):(bz P hd).length=P.length:=by simp[bz,h]
theorem x9{P:List (List UInt8)}{hd:List Int}(h:hd.length=P.length){k:Nat}(hk:k<P.length):(bz P hd).getD k []=if 0<hd[k]'(by omega) then P[k] else []:=by
 have rE:k<hd.length:=by omega
 simp[bz,zah,za5,hk,rE]
theorem rB{P:List (List UInt8)}{hd:List Int}(h:hd.length=P.length){k:Nat}(hk:k<P.length)(h0:0<=hd[k]'(by omega)):
  bz P (hd.set k (hd[k]'(by omega)+1))=(bz P hd).set k P[k]:=by
 apply zaJ;intro j;have rE:k<hd.length:=by omega
 by_cases hj:j<P.length
 ·have wI:j<hd.length:=by omega
  by_cases e:k=j
  ·subst e;have h1:(0:Int)<hd[k]+1:=by omega
   simp[bz,za5,hj,wI,zbZ,h1];omega
  simp[bz,za5,hj,wI,e]
 rw[zaQ (by simp[bz,h];omega),zaQ (by simp[bz,h];omega)]
theorem vE{P:List (List UInt8)}{hd:List Int}(h:hd.length=P.length){k:Nat}(hk:k<P.length)(h0:0<hd[k]'(by omega)):
  bz P (hd.set k (hd[k]'(by omega)+1))=bz P hd:=by
 rw[rB h hk (by omega)];apply zaJ;intro j;have rE:k<hd.length:=by omega
 by_cases e:k=j
 ·subst e;have h1:(0:Int)<hd[k]:=h0;simp[bz,za5,hk,rE,zbZ,h1];omega
 simp[e]
theorem ya{P:List (List UInt8)}{hd:List Int}(h:hd.length=P.length)(ha: ∀x∈hd,0<x):bz P hd=P:=by
 apply zaJ;intro j;by_cases hj:j<P.length
 ·have wI:j<hd.length:=by omega
  have:=ha hd[j] (zal wI);simp[bz,za5,hj,wI,this]
 rw[zaQ (by simp[bz,h];omega),zaQ (by omega)]
theorem vF{P:List (List UInt8)}{hd:List Int}(h:hd.length=P.length)(ha: ∀x∈hd,¬0<x):bz P hd=List.replicate P.length []:=by
 apply zaJ;intro j;by_cases hj:j<P.length
 ·have wI:j<hd.length:=by omega
  have:=ha hd[j] (zal wI);simp[bz,za5,hj,wI,this]
 rw[zaQ (by simp[bz,h];omega),zaQ (by simp;omega)]
theorem join_nil(l:List (List UInt8)):Lib.join l []=l.flatten:=by
 unfold Lib.join
 induction l with
 |nil=>rfl
 |cons x r ih=>
  cases r with
  |nil=>simp[List.intercalate]
  |cons y r=>simp[List.intercalate] at ih⊢;exact ih
theorem yb(a n q:Int)(ps:List (List UInt8)):(fA a n q ps).flatMap (·.2.2.2.2)=ps.flatten:=by rw[List.flatMap_def];congr 1;apply zaJ;intro i;rw[zao,tW];cases ps[i]?<;>rfl
theorem BG(ae:P×List (Nat×En)->Prop):(ae (P.ref 0 0 0,[(0,En.mk 0 none (Obj.box 53 [P.mp 1 0,P.mp 2 0])),(1,En.mk 0 none (Obj.a7 58 [])),(2,En.mk 0 none (Obj.map 58 (λ(_:D)=>none) (0:Int) false))]))=(kj [] [] 12 [] []) ae:=by kernel_rfl
theorem lJ: ∀l:List (List UInt8),iq (l.map D.str)=some l
 | []=>rfl
 |x::l=>by simp[iq,lJ l]
section
variable{X:XF}
theorem uh:FD X 17 kO:=FD.EZ Try.func17 (by kernel_rfl) (by kernel_rfl) (by intro ps R ae hh;obtain⟨l,c,rfl,rfl,hc,hp⟩:=hh;refine⟨_,?_,hp⟩;show rv [.d (.sl 1 (l.map D.str)),.d (.str c)] []=_;unfold rv;simp only[lJ];exact zau ⟨by omega,by omega⟩)
theorem vG:FD X 8 sZ:=FD.mk (H:=[(17,kO)]) (hk:=[]) (by kernel_rfl) (.cons uh .nil) .nil (by
 intro ps R ae hh;obtain⟨rfl,rfl,hp⟩:=hh
 (rw[<-Bw];delta ZC ZE ZG ZO ZI ZP)
 exact⟨[[97,98],[99,100],[101]],[],rfl,rfl,⟨by decide,by decide⟩,rm (by decide) hp⟩)
theorem yc{a n:Int}{s:List UInt8}{z:Int}(h:iv a n s z=0):(xS a n s z).length<=1000:=by obtain⟨_,_,h1,h2⟩:=jH h;unfold xS;rw[b8];omega
end
theorem isUnit:kV PR 62 (.agg [])=true:=by kernel_rfl
theorem s5(s:List UInt8):kV PR 9 (.str s)=true:=by kernel_rfl
theorem zQ(l:List (List UInt8)){i:Nat}(h:i<l.length):D.nth (l.map D.str) i=D.str (l.getD i []):=by unfold D.nth;simp[zah,h]
theorem zR{n i:Nat}(h:i<n):D.nth (List.replicate n (D.str [])) i=D.str []:=by unfold D.nth;simp[zah,h]
theorem nv(x:D):D.fy x x=true:=(D.b7 x x).2 rfl
theorem rC{get:D->Option D}(h:iU get)(k:D):iU (λk'=>bif D.fy k k' then some (.agg []) else get k')/\ ∀x,((λk'=>bif D.fy k k' then some (.agg []) else get k') x).isSome=(D.fy k x || (get x).isSome):=by
 refine⟨λx=> ?_,λx=> ?_⟩
 ·have:=h x;cases hb:D.fy k x with
  |true=>simp only[hb,zaM];rfl
  |false=>simp only[hb,zaL];exact this
 cases hb:D.fy k x<;>simp[hb]
section
variable{X:XF}
theorem Dl:FD X 13 zF:=FD.mk (H:=[(17,kO)]) (hk:=[]) (by kernel_rfl) (.cons uh .nil) .nil (by
 intro ps R ae hh;unfold zF at hh;split at hh
 ·obtain⟨a,n,p,q,s,get,c,ep,er,⟨⟨⟨a1,a2,n0⟩,⟨q1,q2,p0,p1⟩,hs,qF⟩,hU⟩,h1,h2,h3⟩:=hh
  (rw[ep,er,<-C9];delta Z4 ZZ Am ZV Zw yu ZO ZI ZP Ze An Bx Ao zE Zn vQ ZW B4 ZT ZU ZC B5 C5 C6 C7 Zh DW ZX C8 ZS ZY ZR ZQ)
  have hN:p.toNat<q.toNat:=by omega
  have hk:=hU (nA a n);rw[zR hN,hk];have j8:List.set (List.replicate q.toNat (D.str [])) p.toNat (D.bc (D.str (D.jR (D.str []))) [D.str s])=((List.replicate q.toNat ([]:List UInt8)).set p.toNat s).map D.str:=by rw[zb1,List.map_replicate];rfl
  rw[j8];refine ff a1 (ff a2 (ff n0 (ff q1 (ff q2 (ff p0 (ff p1 (oR (by simpa using hs) (im isUnit (tS (λg=>h1 g) λg=> ?_)))))))));refine bK (by omega) (bK (by omega) (bK (by rw[zaC];exact hN) (im (s5 []) (eY (λg1=>h2 g (by omega)) λg1=>rm (nv _) ?_))));have e1:q=1:=by omega
  have e2:p=0:=by omega
  subst e1;subst e2;refine⟨[s],[],rfl,rfl,⟨by simp,by simp[Lib.join,List.intercalate];omega⟩,?_⟩;have ej:Lib.join [s] []=s:=by simp[Lib.join,List.intercalate]
  rw[ej,g];have:=rC hU (nA a n);exact h3 g rfl _ this.1 this.2
 ·obtain⟨a,n,p,q,s,l,m,get,c,ep,er,⟨⟨⟨⟨a1,a2,n0⟩,⟨q1,q2,p0,p1⟩,hs,qF⟩,hU,hg⟩,hl,Ip,tH,hj⟩,h1,h2,h3⟩:=hh
  (rw[ep,er,<-De];delta Ze An Bx Zn Fg Z4 ZZ Am By DX Bz Fh Fi Fj Da vR Zw yu ZO ZI ZP Ao Fk Db Fl C5 C6 C7 Zh DW Dc Zj Fm Fo ZV Dd B6 ZC B5 Zg Zi zE C8 ry ZS ZR ZQ)
  have hN:p.toNat<l.length:=by omega
  have hk:=hU (nA a n);rw[zQ l hN,hk];have j8:List.set (l.map D.str) p.toNat (D.bc (D.str (D.jR (D.str (l.getD p.toNat [])))) [D.str s])=(l.set p.toNat s).map D.str:=by rw[zb1];rfl
  rw[j8,hg];have cc:((l.length:Int) !=q)=false:=by rw[hl];simp
  have h0:((l.length:Int)=q):=hl;refine ff a1 (ff a2 (ff n0 (ff q1 (ff q2 (ff p0 (ff p1 (oR (by simpa using hs) (im isUnit (oR rfl (rm (nv _) (oR cc ?_)))))))))));refine bK (by omega) (bK (by rw[zat];exact hN) (im (s5 _) (tS (λg=>h1 (by simpa [D.jR] using g)) λg=> ?_)));have g0:l.getD p.toNat []=[]:=by simpa [D.jR] using g
  refine bK (by omega) (bK (by rw[zat];exact hN) (im (s5 _) (bK (by omega) (eY (λg1=> ?_) λg1=>rm (nv _) ?_))))
  ·have:=h2 g0 g1;simp only[C4,zaA] at this;exact this
  refine⟨l.set p.toNat s,[],?_,rfl,⟨by rw[zaA];omega,hj⟩,?_⟩
  ·rw[zaD (by simp)]
  have:=rC hU (nA a n);exact h3 g0 g1 _ this.1 this.2
 exact hh.elim)
end
section
variable{X:XF}
theorem BH:FD X 12 xT:=FD.mk (H:=[]) (hk:=[]) (by kernel_rfl) .nil .nil (by intro ps R ae hh;obtain⟨rfl,rfl,hp⟩:=hh;rw[<-BG];exact hp)
theorem yd:LD X 6 11 (bu (nr 6 11) xU):=LD.par (H:=[]) (hk:=[]) (by kernel_rfl) (by kernel_rfl) .nil .nil
 (A:=List UInt8×List D×List aY) (B:=List UInt8×Int) (λa b=>BA a.1 a.2.1 a.2.2 b.1 b.2)
 (λa b=>(a.2.2.length<=1000/\(a.2.2.flatMap (·.2.2.2.2)).length<=1000000)/\(0<=b.2/\b.2<=a.2.2.length)/\b.1=(a.2.2.take b.2.toNat).flatMap (·.2.2.2.2))
 (λa b=>(a.2.2.length-b.2).toNat)
 (λa x=>x=(.exit 0,⟨207,[(0,sD a.1),(2,.d (.sl 1 a.2.1)),(7,.d (.bool true)),(8,.sl 0 0 a.2.2.length),(10,sD (a.2.2.flatMap (·.2.2.2.2)))],[(0,⟨0,none,kN false a.2.2⟩)]⟩))
 (by
  rintro⟨s,pk,l⟩ ⟨t,i⟩ ⟨⟨hl,hb⟩,⟨h0,h1⟩,ht⟩;dsimp only at*
  (rw[<-BB];delta Zc Zd Zj Z2 rz oU B8 p7 Zh Zg Zi Ze Zf Zk Z3 Z5)
  refine eY (λh=> ?_) λh=> ?_
  ·have hi:i.toNat<l.length:=by omega
   rw[kP hi];have Gx:(l.take (i+1).toNat).flatMap (·.2.2.2.2)=t++l[i.toNat].2.2.2.2:=by rw[show(i+1).toNat=i.toNat+1 by omega,zbW hi,List.flatMap_append,ht];simp
   have hle:(t++l[i.toNat].2.2.2.2).length<=1000000:=by
    rw[<-Gx];refine zaB ?_ hb;have:l.flatMap (·.2.2.2.2)=(l.take (i+1).toNat).flatMap (·.2.2.2.2)++(l.drop (i+1).toNat).flatMap (·.2.2.2.2):=by rw[<-List.flatMap_append,zbJ]
    rw[this,zaG];omega
   rw[zaG] at hle;have v4:D.jR (D.iM (ko l[i.toNat]) 4)=l[i.toNat].2.2.2.2:=rfl;rw[v4];refine bK ⟨h0,h⟩ (bK (by rw[zat];exact hi) (im (vC _) (bK (by omega) (bK (by omega) ⟨_,?_,(t++l[i.toNat].2.2.2.2,i+1),rfl,⟨⟨hl,hb⟩,⟨by dsimp only;omega,by dsimp only;omega⟩,Gx.symm⟩,rfl⟩))));dsimp only;omega
  rw[zaD (by omega)] at ht;rw[ht];rfl)
 (by rintro st ae ⟨s,pk,l,rfl,hc,hp⟩;refine⟨(s,pk,l),([],0),rfl,⟨hc,⟨zbS 0,by dsimp only;omega⟩,rfl⟩,?_⟩;rintro x rfl;exact hp _ rfl)
end
structure rM(s:List UInt8)(pk:List Int)(P:List (List UInt8))(hd:List Int)(get:D->Option D)(i:Int):Prop where
 hN:1<=P.length/\P.length<=1000
 hP: ∀p∈P,p≠[]/\p.length<=2000
 hs:P.flatten=s
 qF:s.length<=2000
 oo:pk.length<=100/\ ∀v∈pk,0<=v/\v<=255
 kQ:hd.length=P.length
 hh: ∀x∈hd,0<=x/\x<=i
 hi:0<=i/\i<=(pk.length+P.length:Nat)
 hU:iU get
 hg:(get (nA 3 5)).isSome=decide (aD hd=P.length)
 hc: ∀k (h:k<hd.length),(pk.length+P.length:Nat)-1-(k:Int)<i->0<hd[k]
theorem rM.step{s:List UInt8}{pk:List Int}{P:List (List UInt8)}{hd:List Int}{get:D->Option D}{i:Int}(I:rM s pk P hd get i)(h1:i<(pk.length+P.length:Nat)){k:Nat}(hk:k<hd.length)(lr:(pk.length:Int)<=i->(k:Int)=(pk.length+P.length:Nat)-1-i)
  {get':D->Option D} (hU:iU get') (hg:(get' (nA 3 5)).isSome=decide (aD (hd.set k (hd[k]+1))=P.length)):rM s pk P (hd.set k (hd[k]+1)) get' (i+1):=by
 have hi:=I.hi;have kQ:=I.kQ;refine⟨I.hN,I.hP,I.hs,I.qF,I.oo,by rw[zaA];exact I.kQ,λx hx=> ?_,⟨by omega,by omega⟩,hU,hg,λj hj h2=> ?_⟩
 ·rcases List.mem_or_eq_of_mem_set hx with h |h
  ·have:=I.hh x h;omega
  have:=I.hh hd[k] (zal hk);omega
 rw[zaA] at hj;rw[List.getElem_set];have h0:=(I.hh hd[k] (zal hk)).1;split
 ·omega
 rename_i cc;refine I.hc j hj ?_;rcases Int.lt_or_le ((pk.length+P.length:Nat)-1-(j:Int)) i with h3 |h3
 ·exact h3
 exfalso;have:=lr (by omega);omega
theorem rM.done{s:List UInt8}{pk:List Int}{P:List (List UInt8)}{hd:List Int}{get:D->Option D}{i:Int}(I:rM s pk P hd get i)(h1: ¬i<(pk.length+P.length:Nat)):aD hd=P.length:=by rw[<-I.kQ];refine List.countP_eq_length.2 λx hx=> ?_;obtain⟨k,hk,rfl⟩:=List.mem_iff_getElem.1 hx;have:=I.hc k hk (by have:=I.kQ;omega);simpa using this
theorem rM.HW{s:List UInt8}{pk:List Int}{P:List (List UInt8)}{hd:List Int}{get:D->Option D}{i:Int}(I:rM s pk P hd get i){k:Nat}(hk:k<hd.length)(lK:k<P.length):
  aD (hd.set k (hd[k]+1))=(if 0<hd[k] then aD hd else aD hd+1)/\(0<hd[k]->bz P (hd.set k (hd[k]+1))=bz P hd)/\bz P (hd.set k (hd[k]+1))=(bz P hd).set k P[k]/\
  ((bz P hd).getD k []=if 0<hd[k] then P[k] else [])/\(aD (hd.set k (hd[k]+1))=P.length->((bz P hd).set k P[k]).flatten=s)/\(aD hd=0->bz P hd=List.replicate P.length []):=by
 have h0:=(I.hh hd[k] (zal hk)).1;have e:=rB I.kQ lK h0;refine⟨rA hd k hk h0,λh=>vE I.kQ lK h,e,x9 I.kQ lK,λh=> ?_,λh=>vF I.kQ (fO h)⟩;rw[<-e,ya (by rw[zaA];exact I.kQ) (iw (by rw[h,zaA,I.kQ])),I.hs]
noncomputable def p8(a:List UInt8×List Int×List (List UInt8))(b:List Int×(D->Option D)×Int×Int):S:=
 if 0<aD b.1/\aD b.1<a.2.2.length then xV a.1 a.2.1 (fA 3 5 a.2.2.length a.2.2) 3 5 (bz a.2.2 b.1) (aD b.1) b.2.1 b.2.2.1 b.1 (aD b.1) (if aD b.1=a.2.2.length then 1 else 0) b.2.2.2
 else vA a.1 a.2.1 (fA 3 5 a.2.2.length a.2.2) b.2.1 b.2.2.1 b.1 (aD b.1) (if aD b.1=a.2.2.length then 1 else 0) b.2.2.2
abbrev Ee(s:List UInt8)(pk:List Int)(l:Nat)(h:Nat)(hl:Nat)(n w i:Int):List (Nat×P):=[(0,sD s),(2,DY pk),(7,.d (.bool true)),(8,.sl 0 0 l),(12,.ref 1 0 0),(13,.sl h 0 hl),(14,iD n),(15,iD w),(16,iD i)]
structure FF(s:List UInt8)(pk:List Int)(P:List (List UInt8))(x0:Nat)(i:Int)(ae:PX×S->Prop):Prop where
 p0: ∀cJ get' c' n' w',rM s pk P cJ get' (i+1)-> ¬(0<aD cJ/\aD cJ<P.length)->n'=(aD cJ:Int)->w'=(if aD cJ=P.length then 1 else 0)->
  ae (.normal,⟨207,Ee s pk P.length 4 x0 n' w' (i+1),[(0,⟨0,none,kN false (fA 3 5 P.length P)⟩),(1,⟨0,none,vz 2 3⟩),(2,⟨0,none,.a7 58 []⟩),(3,⟨0,none,.map 58 get' c' false⟩),(4,⟨0,none,DZ cJ⟩)]⟩)
 p1: ∀cJ ps m fl get' c' n' w',rM s pk P cJ get' (i+1)->(0<aD cJ/\aD cJ<P.length)->ps=bz P cJ->m=(aD cJ:Int)->fl=P.length->n'=(aD cJ:Int)->w'=0->
  ae (.normal,⟨207,Ee s pk P.length 6 x0 n' w' (i+1),[(0,⟨0,none,kN false (fA 3 5 P.length P)⟩),(1,⟨0,none,vz 2 5⟩),(2,⟨0,none,.a7 58 [(nA 3 5,.ref 3 0 0)]⟩),(3,⟨0,none,C3 4 fl m⟩),(4,⟨0,none,DT ps⟩),(5,⟨0,none,.map 58 get' c' false⟩),(6,⟨0,none,DZ cJ⟩)]⟩)
 px: ∀get c,ae (.exit 2,⟨207,[(7,.d (.bool true)),(12,.ref 0 0 0),(15,iD 1)],[(0,⟨0,none,vz 1 2⟩),(1,⟨0,none,.a7 58 []⟩),(2,⟨0,none,.map 58 get c false⟩)]⟩)
theorem kR(l:List Int){i:Nat}(h:i<l.length):D.nth (l.map iV) i=iV l[i]:=by unfold D.nth;simp[zah,h]
theorem ye(l:List Int){i:Nat}(h:i<l.length):D.nth (l.map rJ) i=rJ l[i]:=by unfold D.nth;simp[zah,h]
theorem lL(n:Int):kV PR 3 (iV n)=true:=by kernel_rfl
theorem At(n:Int):kV PR 5 (rJ n)=true:=by kernel_rfl
theorem p9(hd:List Int){k:Nat}(h:k<hd.length):List.set (hd.map iV) k (D.bc (D.int IntKind.i64 (D.bp (D.nth (hd.map iV) k))) [D.int IntKind.i64 (D.bp (D.nth (hd.map iV) k)+1)])=(hd.set k (hd[k]+1)).map iV:=by rw[kR hd h,zb1];rfl
theorem gp(hd:List Int){k:Nat}(h:k<hd.length):D.nth ((hd.set k (hd[k]+1)).map iV) k=iV (hd[k]+1):=by rw[kR _ (by rw[zaA];exact h)];simp
theorem qa(a n:Int)(P:List (List UInt8)){k:Nat}(h:k<P.length)(hk:k<(fA a n P.length P).length):(fA a n P.length P)[k]=(a,n,(k:Int),(P.length:Int),P[k]):=by have:=tW a n P.length P k;rw[zad hk,zad h] at this;exact zbb this
theorem k0:((0:Int)==0)=true:=rfl
theorem k1:((210:Int)==0)=false:=rfl
structure HX(s:List UInt8)(pk:List Int)(P:List (List UInt8))(hd cJ:List Int)(i k h:Int)(pc:List UInt8):Prop where
 st: ∀get':D->Option D,iU get'->(get' (nA 3 5)).isSome=decide (aD cJ=P.length)->rM s pk P cJ get' (i+1)
 x1:aD cJ=(if 0<h then aD hd else aD hd+1)
 x2:0<h->bz P cJ=bz P hd
 x3:bz P cJ=(bz P hd).set k.toNat pc
 x4:(bz P hd).getD k.toNat []=if 0<h then pc else []
 x5:aD cJ=P.length->((bz P hd).set k.toNat pc).flatten=s
 x6:aD hd=0->bz P hd=List.replicate P.length []
 x7:(bz P hd).length=P.length
 x8:P.length=1->pc=s
theorem rM.fact{s:List UInt8}{pk:List Int}{P:List (List UInt8)}{hd:List Int}{get:D->Option D}{i k:Int}(I:rM s pk P hd get i)(h1:i<(pk.length+P.length:Nat))(lK:k.toNat<P.length)(gB:k.toNat<hd.length)(lr:(pk.length:Int)<=i->(k.toNat:Int)=(pk.length+P.length:Nat)-1-i):
  HX s pk P hd (hd.set k.toNat (hd[k.toNat]+1)) i k hd[k.toNat] P[k.toNat]:=by
 obtain⟨x1,x2,x3,x4,x5,x6⟩:=I.HW gB lK;refine⟨λget' HY sc=>I.step h1 gB lr HY sc,x1,x2,x3,x4,x5,x6,kl I.kQ,λe=> ?_⟩;rw[<-I.hs]
 match P,e with
 | [p],_=>
  have:k.toNat=0:=by simp at lK;omega
  simp[this]
theorem zS(s:List UInt8)(pk:List Int)(P:List (List UInt8))(get:D->Option D)(c:Int)(hd:List Int)(n w i:Int)(ae:PX×S->Prop)
  (I:rM s pk P hd get i) (hc: ¬(0<aD hd/\aD hd<P.length)) (hn:n=aD hd) (hw:w=if aD hd=P.length then 1 else 0) (hp:FF s pk P hd.length i ae):
  gm [(13,zF)] [] 6 20 (vA s pk (fA 3 5 P.length P) get c hd n w i) ae:=by
 (rw[<-BF];delta yv B9 ZT Fs Z4 zG oU Df Z2 Z5 s4 l6 Dg zH D1 zI zJ Zc D2 Zj Ap vB rz tX p7 D3 Zh Zg Zi rK ZC BD iJ nB vS ez eA cX D4 D5 D6 tY Ft Aq Fu zK Ca Fv Fw Fx Ar tZ ua zL D7 Ze oV Dh zM D8 rL nC vT eB eC cY D9 Cb Ea Cc Cd ub uc yw Zn vQ ZZ B4 lH lI ud Dd Di Da Dj nY BE Fy Fz Ce FA yx FB FE yy As uf ug ZW ZV ZU ZX zN Eb Z3 Ec Ed Cf)
 have hl:(fA 3 5 P.length P).length=P.length:=b8 _ _ _ _;have hN:=I.hN;have oo:=I.oo;have hi:=I.hi;have kQ:=I.kQ;have hU:=I.hU;have hg:=I.hg;simp only[zat];refine bK (by omega) (eY (λg=> ?_) λg=> ?_)
 ·refine bK (by omega) (bK (by omega) (bK (by omega) (eY (λg1=> ?_) λg1=> ?_)))
  ·skip
   have u2:i.toNat<pk.length:=by omega
   rw[ye pk u2];have hv:=oo.2 pk[i.toNat] (zal u2);have v0:D.bp (rJ pk[i.toNat])=pk[i.toNat]:=rfl;rw[v0,hl];generalize pk[i.toNat]=v at hv;have fR:0<=v.tmod (P.length:Int):=Int.tmod_nonneg _ hv.1;have qq:v.tmod (P.length:Int)<P.length:=Int.tmod_lt_of_pos _ (by omega);refine bK ⟨hi.1,g1⟩ (im (At v) (bK (by omega) (im (by simp only[zaV,zbE];omega) ?_)));generalize v.tmod (P.length:Int)=k at fR qq;have lr:(pk.length:Int)<=i->(k.toNat:Int)=(pk.length+P.length:Nat)-1-i:=λh=>absurd g1 (by omega);have nz:k.toNat<(fA 3 5 P.length P).length:=by rw[hl];omega
   rw[kP nz];have lK:k.toNat<P.length:=by omega
   have gB:k.toNat<hd.length:=by omega
   rw[qa 3 5 P lK nz];rw[p9 hd gB,gp hd gB,kR hd gB];have BI:=I.hh hd[k.toNat] (zal gB);have jI:=I.hP P[k.toNat] (zal lK);have F:=I.fact (by omega) lK gB lr;clear lr;have x0:(hd.set k.toNat (hd[k.toNat]+1)).length=P.length:=by rw[zaA,kQ]
   generalize hd.set k.toNat (hd[k.toNat]+1)=cJ at F x0;have f1:aD hd=P.length->0<hd[k.toNat]:=λe=>iw (by omega) _ (zal gB);have f2:aD hd=0-> ¬0<hd[k.toNat]:=λe=>fO e _ (zal gB);have f3:=l7 hd;generalize hd[k.toNat]=h at F BI f1 f2;generalize P[k.toNat]=pc at F jI;have v1:D.bp (iV h)=h:=rfl;have v2:D.bp (iV (h+1))=h+1:=rfl;rw[v1,v2];have c1:decide (0<=k/\k<(hd.length:Int))=true:=zaj ⟨fR,by omega⟩;have c2:decide (k.toNat<hd.length)=true:=zaj gB;have c4:decide (-9223372036854775808<=h+1/\h+1<=9223372036854775807)=true:=zaj (by omega);have c5:decide (k.toNat<(List.map iV cJ).length)=true:=zaj (by rw[zat];omega);have c7:decide (-9223372036854775808<=n+1/\n+1<=9223372036854775807)=true:=zaj (by omega);have c8:decide (-9223372036854775808<=i+1/\i+1<=9223372036854775807)=true:=zaj (by omega);refine bK ⟨fR,by omega⟩ (bK lK (im (vC _) ⟨3,5,k.toNat,P.length,pc,get,c,rfl,rfl,⟨⟨by decide,by omega,jI.1,by omega⟩,hU⟩,λe1=> ?_,λe1 e2=> ?_,λe1 e2 get' e3 e4=> ?_⟩))
   all_goals (
    rw[c1,c2,lL h,lL (h+1),c4,c5];simp only[zaM])
   ·have qb:aD hd=P.length:=of_decide_eq_true (hg.symm.trans e1);have h0:=f1 qb;have b1:(h+1==1)=false:=by rw[zaP];omega
    have cg:decide (h+1>1)=true:=zaj (by omega);rw[b1,c8,cg];simp only[k1,zaM,zaL,zaE,zaN];obtain⟨st,x1,x2,x3,x4,x5,x6,x7,x8⟩:=F;have fx:aD cJ=aD hd:=by rw[x1,zau h0]
    refine hp.p0 cJ _ _ _ _ (st _ hU ?_) ?_ ?_ ?_
    ·rw[hg,fx]
    ·rw[fx];exact hc
    ·rw[fx];exact hn
    rw[fx];exact hw
   ·rw[hg] at e1;have qb:aD hd=0:=by have:=zby e1;omega
    have h0:=f2 qb;have b1:(h+1==1)=true:=by rw[zba];omega
    have bn:(n+1==(P.length:Int))=false:=by rw[zaP];omega
    have cg:decide (h+1>1)=false:=zaY (by omega);rw[b1,bn,c7,c8,cg];simp only[zaM,zaL,zaE,zaN];obtain⟨st,x1,x2,x3,x4,x5,x6,x7,x8⟩:=F;have fx:aD cJ=1:=by rw[x1,zay h0,qb]
    refine hp.p1 cJ _ _ _ _ _ _ _ (st _ hU ?_) ?_ ?_ ?_ ?_ ?_ ?_
    ·rw[hg,fx,qb];exact zbG.2 (by omega)
    ·omega
    ·rw[x3,x6 qb];rfl
    ·rw[fx];rfl
    ·rfl
    ·omega
    rw[hw,zay (by omega)]
   rw[hg] at e1;have qb:aD hd=0:=by have:=zby e1;omega
   have h0:=f2 qb;have b1:(h+1==1)=true:=by rw[zba];omega
   have bn:(n+1==(P.length:Int))=true:=by rw[zba];omega
   have cg:decide (h+1>1)=false:=zaY (by omega);have c9:decide (-9223372036854775808<=w+1/\w+1<=9223372036854775807)=true:=zaj (by rw[hw,zay (by omega)];omega);rw[b1,bn,c7,c8,c9,cg];obtain⟨st,x1,x2,x3,x4,x5,x6,x7,x8⟩:=F;have fx:aD cJ=1:=by rw[x1,zay h0,qb]
   rw[x8 (by omega)];simp only[zaM,zaL,zaE,zaN];refine hp.p0 cJ _ _ _ _ (st _ e3 ?_) ?_ ?_ ?_
   ·rw[e4,(D.b7 _ _).2 rfl,zb2,fx];exact(zaj (by omega)).symm
   ·omega
   ·omega
   rw[hw,zay (by omega),zau (by omega)];rfl
  skip
  rw[hl];have fR:0<=(pk.length:Int)+(P.length:Int)-1-i:=by omega
  have qq:(pk.length:Int)+(P.length:Int)-1-i<P.length:=by omega
  have lr:(pk.length:Int)<=i->(((pk.length:Int)+(P.length:Int)-1-i).toNat:Int)=(pk.length+P.length:Nat)-1-i:=λh=>by omega
  generalize (pk.length:Int)+(P.length:Int)-1-i=k at fR qq lr;have nz:k.toNat<(fA 3 5 P.length P).length:=by rw[hl];omega
  rw[kP nz];have lK:k.toNat<P.length:=by omega
  have gB:k.toNat<hd.length:=by omega
  rw[qa 3 5 P lK nz];rw[p9 hd gB,gp hd gB,kR hd gB];have BI:=I.hh hd[k.toNat] (zal gB);have jI:=I.hP P[k.toNat] (zal lK);have F:=I.fact (by omega) lK gB lr;clear lr;have x0:(hd.set k.toNat (hd[k.toNat]+1)).length=P.length:=by rw[zaA,kQ]
  generalize hd.set k.toNat (hd[k.toNat]+1)=cJ at F x0;have f1:aD hd=P.length->0<hd[k.toNat]:=λe=>iw (by omega) _ (zal gB);have f2:aD hd=0-> ¬0<hd[k.toNat]:=λe=>fO e _ (zal gB);have f3:=l7 hd;generalize hd[k.toNat]=h at F BI f1 f2;generalize P[k.toNat]=pc at F jI;have v1:D.bp (iV h)=h:=rfl;have v2:D.bp (iV (h+1))=h+1:=rfl;rw[v1,v2];have c1:decide (0<=k/\k<(hd.length:Int))=true:=zaj ⟨fR,by omega⟩;have c2:decide (k.toNat<hd.length)=true:=zaj gB;have c4:decide (-9223372036854775808<=h+1/\h+1<=9223372036854775807)=true:=zaj (by omega);have c5:decide (k.toNat<(List.map iV cJ).length)=true:=zaj (by rw[zat];omega);have c7:decide (-9223372036854775808<=n+1/\n+1<=9223372036854775807)=true:=zaj (by omega);have c8:decide (-9223372036854775808<=i+1/\i+1<=9223372036854775807)=true:=zaj (by omega);refine bK ⟨fR,by omega⟩ (bK lK (im (vC _) ⟨3,5,k.toNat,P.length,pc,get,c,rfl,rfl,⟨⟨by decide,by omega,jI.1,by omega⟩,hU⟩,λe1=> ?_,λe1 e2=> ?_,λe1 e2 get' e3 e4=> ?_⟩))
  all_goals (
   rw[c1,c2,lL h,lL (h+1),c4,c5];simp only[zaM])
  ·have qb:aD hd=P.length:=of_decide_eq_true (hg.symm.trans e1);have h0:=f1 qb;have b1:(h+1==1)=false:=by rw[zaP];omega
   have cg:decide (h+1>1)=true:=zaj (by omega);rw[b1,c8,cg];simp only[k1,zaM,zaL,zaE,zaN];obtain⟨st,x1,x2,x3,x4,x5,x6,x7,x8⟩:=F;have fx:aD cJ=aD hd:=by rw[x1,zau h0]
   refine hp.p0 cJ _ _ _ _ (st _ hU ?_) ?_ ?_ ?_
   ·rw[hg,fx]
   ·rw[fx];exact hc
   ·rw[fx];exact hn
   rw[fx];exact hw
  ·rw[hg] at e1;have qb:aD hd=0:=by have:=zby e1;omega
   have h0:=f2 qb;have b1:(h+1==1)=true:=by rw[zba];omega
   have bn:(n+1==(P.length:Int))=false:=by rw[zaP];omega
   have cg:decide (h+1>1)=false:=zaY (by omega);rw[b1,bn,c7,c8,cg];simp only[zaM,zaL,zaE,zaN];obtain⟨st,x1,x2,x3,x4,x5,x6,x7,x8⟩:=F;have fx:aD cJ=1:=by rw[x1,zay h0,qb]
   refine hp.p1 cJ _ _ _ _ _ _ _ (st _ hU ?_) ?_ ?_ ?_ ?_ ?_ ?_
   ·rw[hg,fx,qb];exact zbG.2 (by omega)
   ·omega
   ·rw[x3,x6 qb];rfl
   ·rw[fx];rfl
   ·rfl
   ·omega
   rw[hw,zay (by omega)]
  rw[hg] at e1;have qb:aD hd=0:=by have:=zby e1;omega
  have h0:=f2 qb;have b1:(h+1==1)=true:=by rw[zba];omega
  have bn:(n+1==(P.length:Int))=true:=by rw[zba];omega
  have cg:decide (h+1>1)=false:=zaY (by omega);have c9:decide (-9223372036854775808<=w+1/\w+1<=9223372036854775807)=true:=zaj (by rw[hw,zay (by omega)];omega);rw[b1,bn,c7,c8,c9,cg];obtain⟨st,x1,x2,x3,x4,x5,x6,x7,x8⟩:=F;have fx:aD cJ=1:=by rw[x1,zay h0,qb]
  rw[x8 (by omega)];simp only[zaM,zaL,zaE,zaN];refine hp.p0 cJ _ _ _ _ (st _ e3 ?_) ?_ ?_ ?_
  ·rw[e4,(D.b7 _ _).2 rfl,zb2,fx];exact(zaj (by omega)).symm
  ·omega
  ·omega
  rw[hw,zay (by omega),zau (by omega)];rfl
 rw[hw,zau (I.done (by omega))];exact hp.px _ _
def yz(aZ:List (List UInt8)):En:=En.mk 0 none (Obj.arr (9:TypeId) false (List.map D.str aZ))
def FG(bU:Int)(aQ:Int)(aZ:List (List UInt8))(b9:Int)(ah:D->Option D)(av:Int):List (Nat×En):=[Dj,Di bU aQ,(2,En.mk 0 none (DX aZ b9)),(3,yz aZ),(4,yv ah av)]
def zT(aZ:List (List UInt8))(b9:Int):Nat×En:=(3,En.mk 0 none (Obj.box (61:TypeId) [P.sl 4 0 (List.length aZ),P.d (Z4 b9)]))
def zU(ae:PX×S->Prop)(w:Int)(bU:Int)(aQ:Int)(aZ:List (List UInt8))(b9:Int)(ah:D->Option D)(av:Int):Prop:=ae (PX.ret,S.mk 207 (BD w) (FG bU aQ aZ b9 ah av))
noncomputable def FH(pk:List Int)(l:List aY)(i:Int)(hd:List Int)(ae:PX×S->Prop)(w:Int)(bU:Int)(aQ:Int)(aZ:List (List UInt8))(b9:Int)(ah:D->Option D)(av:Int)(s:List UInt8)(n:Int):Prop:=ob (cX pk l i hd) (ob (eA pk l i hd) (ob (ez hd pk l i) (bif Ca hd pk l i then zU ae w bU aQ aZ b9 ah av else ob (cX pk l i hd) (ob (eA pk l i hd) (ob (ez hd pk l i) (bif rK hd pk l i then ob (Zi i) (ae (PX.normal,S.mk 207 (ub s pk l hd n w i) (Zc l::lI::lH bU aQ::zT aZ b9::(4,yz aZ)::tY ah av hd pk l i))) else ob (Zi i) (ae (PX.normal,S.mk 207 (ub s pk l hd n w i) (Zc l::lI::lH bU aQ::zT aZ b9::(4,yz aZ)::tY ah av hd pk l i)))))))))
noncomputable def FI(pk:List Int)(l:List aY)(i:Int)(hd:List Int)(ae:PX×S->Prop)(w:Int)(bU:Int)(aQ:Int)(aZ:List (List UInt8))(b9:Int)(ah:D->Option D)(av:Int)(s:List UInt8)(n:Int):Prop:=ob (cX pk l i hd) (ob (eA pk l i hd) (ob (ez hd pk l i) (bif Ca hd pk l i then zU ae w bU aQ aZ b9 ah av else ob (cX pk l i hd) (ob (eA pk l i hd) (ob (ez hd pk l i) (bif rK hd pk l i then ob (Zi i) (ae (PX.normal,S.mk 207 (ud s pk l hd n w i) (Zc l::lI::lH bU aQ::zT aZ b9::(4,yz aZ)::tY ah av hd pk l i))) else ob (Zi i) (ae (PX.normal,S.mk 207 (ud s pk l hd n w i) (Zc l::lI::lH bU aQ::zT aZ b9::(4,yz aZ)::tY ah av hd pk l i)))))))))
def Dm(aZ:List (List UInt8))(p:Int)(aW:List UInt8)(s:List UInt8):Bool:= !Lib.join (List.set aZ (Ze p) aW) []==s
def yA(aZ:List (List UInt8))(p:Int)(aW:List UInt8):En:=En.mk 0 none (Obj.arr (9:TypeId) false (List.map D.str (List.set aZ (Ze p) aW)))
def zV(aZ:List (List UInt8))(p:Int)(aW:List UInt8)(b9:Int):Nat×En:=(3,En.mk 0 none (Obj.box (61:TypeId) [P.sl 4 0 (List.length (List.set aZ (Ze p) aW)),Zj b9]))
def nZ(ae:PX×S->Prop)(w:Int)(bU:Int)(aQ:Int)(aZ:List (List UInt8))(p:Int)(aW:List UInt8)(b9:Int)(ah:D->Option D)(av:Int):Prop:=ae (PX.ret,S.mk 207 (BD w) [Dj,Di bU aQ,(2,En.mk 0 none (Obj.box (61:TypeId) [P.sl 3 0 (List.length (List.set aZ (Ze p) aW)),Zj b9])),(3,yA aZ p aW),(4,yv ah av)])
def Dn(aZ:List (List UInt8))(p:Int):Prop:=List.getD aZ (Ze p) []=[]
noncomputable def FJ(pk:List Int)(i:Int)(l:List aY)(hd:List Int)(ae:PX×S->Prop)(w:Int)(bU:Int)(aQ:Int)(aZ:List (List UInt8))(b9:Int)(ah:D->Option D)(av:Int)(s:List UInt8)(n:Int):Prop:=ob (cY pk i l hd) (ob (eC pk i l hd) (ob (eB hd pk i l) (bif Ce hd pk i l then zU ae w bU aQ aZ b9 ah av else ob (cY pk i l hd) (ob (eC pk i l hd) (ob (eB hd pk i l) (bif rL hd pk i l then ob (Zi i) (ae (PX.normal,S.mk 207 (ub s pk l hd n w i) (Zc l::lI::lH bU aQ::zT aZ b9::(4,yz aZ)::uc ah av hd pk i l))) else ob (Zi i) (ae (PX.normal,S.mk 207 (ub s pk l hd n w i) (Zc l::lI::lH bU aQ::zT aZ b9::(4,yz aZ)::uc ah av hd pk i l)))))))))
noncomputable def FK(pk:List Int)(i:Int)(l:List aY)(hd:List Int)(ae:PX×S->Prop)(w:Int)(bU:Int)(aQ:Int)(aZ:List (List UInt8))(b9:Int)(ah:D->Option D)(av:Int)(s:List UInt8)(n:Int):Prop:=ob (cY pk i l hd) (ob (eC pk i l hd) (ob (eB hd pk i l) (bif Ce hd pk i l then zU ae w bU aQ aZ b9 ah av else ob (cY pk i l hd) (ob (eC pk i l hd) (ob (eB hd pk i l) (bif rL hd pk i l then ob (Zi i) (ae (PX.normal,S.mk 207 (ud s pk l hd n w i) (Zc l::lI::lH bU aQ::zT aZ b9::(4,yz aZ)::uc ah av hd pk i l))) else ob (Zi i) (ae (PX.normal,S.mk 207 (ud s pk l hd n w i) (Zc l::lI::lH bU aQ::zT aZ b9::(4,yz aZ)::uc ah av hd pk i l)))))))))
def FL(bU:Int)(aQ:Int)(p:Int)(q:Int)(aW:List UInt8)(ah:D->Option D)(aZ:List (List UInt8))(b9:Int):Prop:=(nu bU aQ p q aW/\iU ah/\BE ah bU aQ)/\(↑(List.length aZ):Int)=q/\(0:Int)<=b9/\b9<q/\List.length (Lib.join (List.set aZ (Ze p) aW) [])<=1000000
theorem BJ(s:List UInt8)(pk:List Int)(l:List aY)(a b:Int)(ps:List (List UInt8))(m:Int)(get:D->Option D)(c:Int)(hd:List Int)(n w i:Int)(ae:PX×S->Prop):(ob (Cf pk l) (bif decide (i<s4 pk+Z5 l) then ob (Cf pk l) (ob (Ed pk l) (ob (decide (Zg<=l6 pk l i/\l6 pk l i<=Zh)) (bif decide (i<s4 pk) then ob (decide ((0:Int)<=i/\i<s4 pk)) (ob (kV PR (5:TypeId) (D.nth (List.map rJ pk) (Ze i))) (ob (Ec pk i) (ob (!decide (Z5 l=(0:Int))) (ob (decide ((0:Int)<=oV pk i l/\oV pk i l<Z5 l)) (ob (decide (Int.toNat (oV pk i l)<Z3 l)) (ob (kV PR (37:TypeId) (zN l pk i)) (∃(bU:Int) (aQ:Int) (p:Int) (q:Int) (aW:List UInt8) (aZ:List (List UInt8)) (b9:Int) (ah:D->Option D) (av:Int),Eb l pk i=[zG,P.d (D.agg [Z4 bU,Z4 aQ,Z4 p,Z4 q,D.str aW])]/\ry a b ps m get c=ry bU aQ aZ b9 ah av/\FL bU aQ p q aW ah aZ b9/\(List.getD aZ (Ze p) []≠[]->ob (cY pk i l hd) (ob (ug pk i l hd) (ob (uf hd pk i l) (ob (As hd pk i l) (ob (cY pk i l hd) (ob (ug pk i l hd) (ob (uf hd pk i l) (ob (cY pk i l hd) (ob (eC pk i l hd) (ob (eB hd pk i l) (bif nC hd pk i l then ob (Zi n) (ob (cY pk i l hd) (ob (eC pk i l hd) (ob (eB hd pk i l) (bif nC hd pk i l then bif yy n l then zU ae w bU aQ aZ b9 ah av else FK pk i l hd ae w bU aQ aZ b9 ah av s n else FK pk i l hd ae w bU aQ aZ b9 ah av s n)))) else ob (cY pk i l hd) (ob (eC pk i l hd) (ob (eB hd pk i l) (bif nC hd pk i l then bif yx n l then zU ae w bU aQ aZ b9 ah av else FJ pk i l hd ae w bU aQ aZ b9 ah av s n else FJ pk i l hd ae w bU aQ aZ b9 ah av s n))))))))))))))/\(Dn aZ p->b9+(1:Int)<q->ob (cY pk i l hd) (ob (ug pk i l hd) (ob (uf hd pk i l) (ob (As hd pk i l) (ob (cY pk i l hd) (ob (ug pk i l hd) (ob (uf hd pk i l) (ob (cY pk i l hd) (ob (eC pk i l hd) (ob (eB hd pk i l) (bif nC hd pk i l then ob (Zi n) (ob (cY pk i l hd) (ob (eC pk i l hd) (ob (eB hd pk i l) (bif nC hd pk i l then bif yy n l then nZ ae w bU aQ aZ p aW b9 ah av else ob (cY pk i l hd) (ob (eC pk i l hd) (ob (eB hd pk i l) (bif vT hd pk i l then nZ ae w bU aQ aZ p aW b9 ah av else ob (cY pk i l hd) (ob (eC pk i l hd) (ob (eB hd pk i l) (bif rL hd pk i l then nZ ae w bU aQ aZ p aW b9 ah av else ob (Zi i) (ae (PX.normal,S.mk 207 (ud s pk l hd n w i) (Zc l::lI::lH bU aQ::zV aZ p aW b9::(4,yA aZ p aW)::uc ah av hd pk i l))))))))) else ob (cY pk i l hd) (ob (eC pk i l hd) (ob (eB hd pk i l) (bif vT hd pk i l then nZ ae w bU aQ aZ p aW b9 ah av else ob (cY pk i l hd) (ob (eC pk i l hd) (ob (eB hd pk i l) (bif rL hd pk i l then nZ ae w bU aQ aZ p aW b9 ah av else ob (Zi i) (ae (PX.normal,S.mk 207 (ud s pk l hd n w i) (Zc l::lI::lH bU aQ::zV aZ p aW b9::(4,yA aZ p aW)::uc ah av hd pk i l))))))))))))) else ob (cY pk i l hd) (ob (eC pk i l hd) (ob (eB hd pk i l) (bif nC hd pk i l then bif yx n l then nZ ae w bU aQ aZ p aW b9 ah av else ob (cY pk i l hd) (ob (eC pk i l hd) (ob (eB hd pk i l) (bif vT hd pk i l then nZ ae w bU aQ aZ p aW b9 ah av else ob (cY pk i l hd) (ob (eC pk i l hd) (ob (eB hd pk i l) (bif rL hd pk i l then nZ ae w bU aQ aZ p aW b9 ah av else ob (Zi i) (ae (PX.normal,S.mk 207 (ub s pk l hd n w i) (Zc l::lI::lH bU aQ::zV aZ p aW b9::(4,yA aZ p aW)::uc ah av hd pk i l))))))))) else ob (cY pk i l hd) (ob (eC pk i l hd) (ob (eB hd pk i l) (bif vT hd pk i l then nZ ae w bU aQ aZ p aW b9 ah av else ob (cY pk i l hd) (ob (eC pk i l hd) (ob (eB hd pk i l) (bif rL hd pk i l then nZ ae w bU aQ aZ p aW b9 ah av else ob (Zi i) (ae (PX.normal,S.mk 207 (ub s pk l hd n w i) (Zc l::lI::lH bU aQ::zV aZ p aW b9::(4,yA aZ p aW)::uc ah av hd pk i l)))))))))))))))))))))))/\(Dn aZ p-> ¬b9+(1:Int)<q-> ∀(get':D->Option D),iU get'->Cd get' bU aQ ah->ob (cY pk i l hd) (ob (ug pk i l hd) (ob (uf hd pk i l) (ob (As hd pk i l) (ob (cY pk i l hd) (ob (ug pk i l hd) (ob (uf hd pk i l) (ob (cY pk i l hd) (ob (eC pk i l hd) (ob (eB hd pk i l) (bif nC hd pk i l then ob (Zi n) (ob (cY pk i l hd) (ob (eC pk i l hd) (ob (eB hd pk i l) (bif nC hd pk i l then bif Cc n l then iJ ae w get' av else bif Dm aZ p aW s then iJ ae w get' av else Ea pk i l hd ae w get' av s n else iJ ae w get' av)))) else ob (cY pk i l hd) (ob (eC pk i l hd) (ob (eB hd pk i l) (bif nC hd pk i l then bif Cb n l then iJ ae w get' av else bif Dm aZ p aW s then iJ ae w get' av else D9 pk i l hd ae w get' av s n else iJ ae w get' av))))))))))))))))))))) else ob (decide ((0:Int)<=l6 pk l i/\l6 pk l i<Z5 l)) (ob (decide (Int.toNat (l6 pk l i)<Z3 l)) (ob (kV PR (37:TypeId) (zL l pk i)) (∃(bU:Int) (aQ:Int) (p:Int) (q:Int) (aW:List UInt8) (aZ:List (List UInt8)) (b9:Int) (ah:D->Option D) (av:Int),D7 l pk i=[zG,P.d (D.agg [Z4 bU,Z4 aQ,Z4 p,Z4 q,D.str aW])]/\ry a b ps m get c=ry bU aQ aZ b9 ah av/\FL bU aQ p q aW ah aZ b9/\(List.getD aZ (Ze p) []≠[]->ob (cX pk l i hd) (ob (ua pk l i hd) (ob (tZ hd pk l i) (ob (Ar hd pk l i) (ob (cX pk l i hd) (ob (ua pk l i hd) (ob (tZ hd pk l i) (ob (cX pk l i hd) (ob (eA pk l i hd) (ob (ez hd pk l i) (bif nB hd pk l i then ob (Zi n) (ob (cX pk l i hd) (ob (eA pk l i hd) (ob (ez hd pk l i) (bif nB hd pk l i then bif yy n l then zU ae w bU aQ aZ b9 ah av else FI pk l i hd ae w bU aQ aZ b9 ah av s n else FI pk l i hd ae w bU aQ aZ b9 ah av s n)))) else ob (cX pk l i hd) (ob (eA pk l i hd) (ob (ez hd pk l i) (bif nB hd pk l i then bif yx n l then zU ae w bU aQ aZ b9 ah av else FH pk l i hd ae w bU aQ aZ b9 ah av s n else FH pk l i hd ae w bU aQ aZ b9 ah av s n))))))))))))))/\(Dn aZ p->b9+(1:Int)<q->ob (cX pk l i hd) (ob (ua pk l i hd) (ob (tZ hd pk l i) (ob (Ar hd pk l i) (ob (cX pk l i hd) (ob (ua pk l i hd) (ob (tZ hd pk l i) (ob (cX pk l i hd) (ob (eA pk l i hd) (ob (ez hd pk l i) (bif nB hd pk l i then ob (Zi n) (ob (cX pk l i hd) (ob (eA pk l i hd) (ob (ez hd pk l i) (bif nB hd pk l i then bif yy n l then nZ ae w bU aQ aZ p aW b9 ah av else ob (cX pk l i hd) (ob (eA pk l i hd) (ob (ez hd pk l i) (bif vS hd pk l i then nZ ae w bU aQ aZ p aW b9 ah av else ob (cX pk l i hd) (ob (eA pk l i hd) (ob (ez hd pk l i) (bif rK hd pk l i then nZ ae w bU aQ aZ p aW b9 ah av else ob (Zi i) (ae (PX.normal,S.mk 207 (ud s pk l hd n w i) (Zc l::lI::lH bU aQ::zV aZ p aW b9::(4,yA aZ p aW)::tY ah av hd pk l i))))))))) else ob (cX pk l i hd) (ob (eA pk l i hd) (ob (ez hd pk l i) (bif vS hd pk l i then nZ ae w bU aQ aZ p aW b9 ah av else ob (cX pk l i hd) (ob (eA pk l i hd) (ob (ez hd pk l i) (bif rK hd pk l i then nZ ae w bU aQ aZ p aW b9 ah av else ob (Zi i) (ae (PX.normal,S.mk 207 (ud s pk l hd n w i) (Zc l::lI::lH bU aQ::zV aZ p aW b9::(4,yA aZ p aW)::tY ah av hd pk l i))))))))))))) else ob (cX pk l i hd) (ob (eA pk l i hd) (ob (ez hd pk l i) (bif nB hd pk l i then bif yx n l then nZ ae w bU aQ aZ p aW b9 ah av else ob (cX pk l i hd) (ob (eA pk l i hd) (ob (ez hd pk l i) (bif vS hd pk l i then nZ ae w bU aQ aZ p aW b9 ah av else ob (cX pk l i hd) (ob (eA pk l i hd) (ob (ez hd pk l i) (bif rK hd pk l i then nZ ae w bU aQ aZ p aW b9 ah av else ob (Zi i) (ae (PX.normal,S.mk 207 (ub s pk l hd n w i) (Zc l::lI::lH bU aQ::zV aZ p aW b9::(4,yA aZ p aW)::tY ah av hd pk l i))))))))) else ob (cX pk l i hd) (ob (eA pk l i hd) (ob (ez hd pk l i) (bif vS hd pk l i then nZ ae w bU aQ aZ p aW b9 ah av else ob (cX pk l i hd) (ob (eA pk l i hd) (ob (ez hd pk l i) (bif rK hd pk l i then nZ ae w bU aQ aZ p aW b9 ah av else ob (Zi i) (ae (PX.normal,S.mk 207 (ub s pk l hd n w i) (Zc l::lI::lH bU aQ::zV aZ p aW b9::(4,yA aZ p aW)::tY ah av hd pk l i)))))))))))))))))))))))/\(Dn aZ p-> ¬b9+(1:Int)<q-> ∀(get':D->Option D),iU get'->Cd get' bU aQ ah->ob (cX pk l i hd) (ob (ua pk l i hd) (ob (tZ hd pk l i) (ob (Ar hd pk l i) (ob (cX pk l i hd) (ob (ua pk l i hd) (ob (tZ hd pk l i) (ob (cX pk l i hd) (ob (eA pk l i hd) (ob (ez hd pk l i) (bif nB hd pk l i then ob (Zi n) (ob (cX pk l i hd) (ob (eA pk l i hd) (ob (ez hd pk l i) (bif nB hd pk l i then bif Cc n l then iJ ae w get' av else bif Dm aZ p aW s then iJ ae w get' av else D6 pk l i hd ae w get' av s n else iJ ae w get' av)))) else ob (cX pk l i hd) (ob (eA pk l i hd) (ob (ez hd pk l i) (bif nB hd pk l i then bif Cb n l then iJ ae w get' av else bif Dm aZ p aW s then iJ ae w get' av else D4 pk l i hd ae w get' av s n else iJ ae w get' av)))))))))))))))))))) else ae (PX.exit 2,S.mk 207 (Df w) (FG a b ps m get c))))=(gm [(13,zF)] [] 6 20 (xV s pk l a b ps m get c hd n w i)) ae:=by kernel_rfl
theorem kS: ∀(P:List (List UInt8)) (hd:List Int),(bz P hd).flatten.length<=P.flatten.length
 | [],hd=>by simp[bz]
 |p::P,[]=>by simp[bz]
 |p::P,h::hd=>by
  have ih:=kS P hd;simp only[bz,List.zipWith_cons_cons,List.flatten_cons,zaG] at ih⊢;split
  ·omega
  rw[zbv];omega
theorem zW(s:List UInt8)(pk:List Int)(P:List (List UInt8))(get:D->Option D)(c:Int)(hd:List Int)(n w i:Int)(ae:PX×S->Prop)
  (I:rM s pk P hd get i) (hc:0<aD hd/\aD hd<P.length) (hn:n=aD hd) (hw:w=0) (hp:FF s pk P hd.length i ae):
  gm [(13,zF)] [] 6 20 (xV s pk (fA 3 5 P.length P) 3 5 (bz P hd) n get c hd n w i) ae:=by
 (rw[<-BJ];delta yv yz Z4 DX ZZ Dd Di Da Dj FG zG oU Df Z2 Z5 s4 l6 Dg zH D1 B9 zI zJ Zc D2 Zj Ap vB rz tX p7 D3 Zh Zg Zi rK ZT ZC BD iJ nB vS ez eA cX D4 D5 D6 tY zT B4 lH lI Aq ub zU Ca FH ud FI Ar tZ ua zL D7 Ze oV Dh zM D8 rL nC vT eB eC cY D9 Cb Ea Dm Cc Cd uc yA zV nZ Dn Ce FJ yx FK yy As uf ug BE FL Db By Bz B6 vR ry zN Eb Z3 Ec Ed Cf)
 have hl:(fA 3 5 P.length P).length=P.length:=b8 _ _ _ _;have hN:=I.hN;have oo:=I.oo;have hi:=I.hi;have kQ:=I.kQ;have hU:=I.hU;have hg:=I.hg;have Gy:(get (nA 3 5)).isSome=false:=by rw[hg];exact zaY (by omega)
 simp only[zat];refine bK (by omega) (eY (λg=> ?_) λg=> ?_)
 ·refine bK (by omega) (bK (by omega) (bK (by omega) (eY (λg1=> ?_) λg1=> ?_)))
  ·skip
   have u2:i.toNat<pk.length:=by omega
   rw[ye pk u2];have hv:=oo.2 pk[i.toNat] (zal u2);have v0:D.bp (rJ pk[i.toNat])=pk[i.toNat]:=rfl;rw[v0,hl];generalize pk[i.toNat]=v at hv;have fR:0<=v.tmod (P.length:Int):=Int.tmod_nonneg _ hv.1;have qq:v.tmod (P.length:Int)<P.length:=Int.tmod_lt_of_pos _ (by omega);refine bK ⟨hi.1,g1⟩ (im (At v) (bK (by omega) (im (by simp only[zaV,zbE];omega) ?_)));generalize v.tmod (P.length:Int)=k at fR qq;have lr:(pk.length:Int)<=i->(k.toNat:Int)=(pk.length+P.length:Nat)-1-i:=λh=>absurd g1 (by omega);have nz:k.toNat<(fA 3 5 P.length P).length:=by rw[hl];omega
   rw[kP nz];have lK:k.toNat<P.length:=by omega
   have gB:k.toNat<hd.length:=by omega
   rw[qa 3 5 P lK nz];rw[p9 hd gB,gp hd gB,kR hd gB];have BI:=I.hh hd[k.toNat] (zal gB);have jI:=I.hP P[k.toNat] (zal lK);have F:=I.fact (by omega) lK gB lr;clear lr;have x0:(hd.set k.toNat (hd[k.toNat]+1)).length=P.length:=by rw[zaA,kQ]
   generalize hd.set k.toNat (hd[k.toNat]+1)=cJ at F x0;have f1:aD hd=P.length->0<hd[k.toNat]:=λe=>iw (by omega) _ (zal gB);have f2:aD hd=0-> ¬0<hd[k.toNat]:=λe=>fO e _ (zal gB);have f3:=l7 hd;generalize hd[k.toNat]=h at F BI f1 f2;generalize P[k.toNat]=pc at F jI;have v1:D.bp (iV h)=h:=rfl;have v2:D.bp (iV (h+1))=h+1:=rfl;rw[v1,v2];have c1:decide (0<=k/\k<(hd.length:Int))=true:=zaj ⟨fR,by omega⟩;have c2:decide (k.toNat<hd.length)=true:=zaj gB;have c4:decide (-9223372036854775808<=h+1/\h+1<=9223372036854775807)=true:=zaj (by omega);have c5:decide (k.toNat<(List.map iV cJ).length)=true:=zaj (by rw[zat];omega);have c7:decide (-9223372036854775808<=n+1/\n+1<=9223372036854775807)=true:=zaj (by omega);have c8:decide (-9223372036854775808<=i+1/\i+1<=9223372036854775807)=true:=zaj (by omega);refine bK ⟨fR,by omega⟩ (bK lK (im (vC _) ⟨3,5,k.toNat,P.length,pc,bz P hd,n,get,c,rfl,rfl,⟨⟨⟨by decide,by omega,jI.1,by omega⟩,hU,Gy⟩,by rw[kl kQ],by omega,by omega,?_⟩,λe1=> ?_,λe1 e2=> ?_,λe1 e2 get' e3 e4=> ?_⟩))
   ·rw[join_nil];refine zaB (zbI (congrArg (λl=>(List.flatten l).length) F.x3.symm)) ?_;refine zaB (kS P cJ) ?_;rw[I.hs];have:=I.qF;omega
   all_goals (
    rw[c1,c2,lL h,lL (h+1),c4,c5];simp only[zaM])
   ·have h0:0<h:=by
     rcases Int.lt_or_le 0 h with h0 |h0
     ·exact h0
     exact absurd (F.x4.trans (zay (by omega))) e1
    have b1:(h+1==1)=false:=by rw[zaP];omega
    have cg:decide (h+1>1)=true:=zaj (by omega);rw[b1,c8,cg];simp only[k1,zaM,zaL,zaN,zaE];obtain⟨st,x1,x2,x3,x4,x5,x6,x7,x8⟩:=F;have fx:aD cJ=aD hd:=by rw[x1,zau h0]
    refine hp.p1 cJ _ _ _ _ _ _ _ (st _ hU ?_) ?_ ?_ ?_ ?_ ?_ ?_
    ·rw[hg,fx]
    ·rw[fx];exact hc
    ·exact(x2 h0).symm
    ·rw[fx];exact hn
    ·exact x7
    ·rw[fx];exact hn
    exact hw
   ·have h0: ¬0<h:=λh0=>jI.1 ((F.x4.trans (zau h0)).symm.trans e1);have b1:(h+1==1)=true:=by rw[zba];omega
    have bn:(n+1==(P.length:Int))=false:=by rw[zaP];omega
    have cg:decide (h+1>1)=false:=zaY (by omega);rw[b1,bn,c7,c8,cg];simp only[zaM,zaL,zaN,zaE];obtain⟨st,x1,x2,x3,x4,x5,x6,x7,x8⟩:=F;have fx:aD cJ=aD hd+1:=by rw[x1,zay h0]
    refine hp.p1 cJ _ _ _ _ _ _ _ (st _ hU ?_) ?_ ?_ ?_ ?_ ?_ ?_
    ·rw[hg,fx];exact zbG.2 (by omega)
    ·omega
    ·exact x3.symm
    ·rw[fx];omega
    ·rw[zaA];exact x7
    ·omega
    exact hw
   have h0: ¬0<h:=λh0=>jI.1 ((F.x4.trans (zau h0)).symm.trans e1);have b1:(h+1==1)=true:=by rw[zba];omega
   have bn:(n+1==(P.length:Int))=true:=by rw[zba];omega
   have cg:decide (h+1>1)=false:=zaY (by omega);have c9:decide (-9223372036854775808<=w+1/\w+1<=9223372036854775807)=true:=zaj (by omega);rw[b1,bn,c7,c8,c9,cg];obtain⟨st,x1,x2,x3,x4,x5,x6,x7,x8⟩:=F;have fx:aD cJ=P.length:=by rw[x1,zay h0];omega
   have ej:Lib.join ((bz P hd).set (k.toNat:Int).toNat pc) []=s:=(join_nil _).trans (x5 fx);rw[ej];simp only[zaM,zaL,zaE,zaN];refine hp.p0 cJ _ _ _ _ (st _ e3 ?_) ?_ ?_ ?_
   ·rw[e4,(D.b7 _ _).2 rfl,zb2,fx];exact(zaj rfl).symm
   ·omega
   ·omega
   rw[hw,zau fx];rfl
  skip
  rw[hl];have fR:0<=(pk.length:Int)+(P.length:Int)-1-i:=by omega
  have qq:(pk.length:Int)+(P.length:Int)-1-i<P.length:=by omega
  have lr:(pk.length:Int)<=i->(((pk.length:Int)+(P.length:Int)-1-i).toNat:Int)=(pk.length+P.length:Nat)-1-i:=λh=>by omega
  generalize (pk.length:Int)+(P.length:Int)-1-i=k at fR qq lr;have nz:k.toNat<(fA 3 5 P.length P).length:=by rw[hl];omega
  rw[kP nz];have lK:k.toNat<P.length:=by omega
  have gB:k.toNat<hd.length:=by omega
  rw[qa 3 5 P lK nz];rw[p9 hd gB,gp hd gB,kR hd gB];have BI:=I.hh hd[k.toNat] (zal gB);have jI:=I.hP P[k.toNat] (zal lK);have F:=I.fact (by omega) lK gB lr;clear lr;have x0:(hd.set k.toNat (hd[k.toNat]+1)).length=P.length:=by rw[zaA,kQ]
  generalize hd.set k.toNat (hd[k.toNat]+1)=cJ at F x0;have f1:aD hd=P.length->0<hd[k.toNat]:=λe=>iw (by omega) _ (zal gB);have f2:aD hd=0-> ¬0<hd[k.toNat]:=λe=>fO e _ (zal gB);have f3:=l7 hd;generalize hd[k.toNat]=h at F BI f1 f2;generalize P[k.toNat]=pc at F jI;have v1:D.bp (iV h)=h:=rfl;have v2:D.bp (iV (h+1))=h+1:=rfl;rw[v1,v2];have c1:decide (0<=k/\k<(hd.length:Int))=true:=zaj ⟨fR,by omega⟩;have c2:decide (k.toNat<hd.length)=true:=zaj gB;have c4:decide (-9223372036854775808<=h+1/\h+1<=9223372036854775807)=true:=zaj (by omega);have c5:decide (k.toNat<(List.map iV cJ).length)=true:=zaj (by rw[zat];omega);have c7:decide (-9223372036854775808<=n+1/\n+1<=9223372036854775807)=true:=zaj (by omega);have c8:decide (-9223372036854775808<=i+1/\i+1<=9223372036854775807)=true:=zaj (by omega);refine bK ⟨fR,by omega⟩ (bK lK (im (vC _) ⟨3,5,k.toNat,P.length,pc,bz P hd,n,get,c,rfl,rfl,⟨⟨⟨by decide,by omega,jI.1,by omega⟩,hU,Gy⟩,by rw[kl kQ],by omega,by omega,?_⟩,λe1=> ?_,λe1 e2=> ?_,λe1 e2 get' e3 e4=> ?_⟩))
  ·rw[join_nil];refine zaB (zbI (congrArg (λl=>(List.flatten l).length) F.x3.symm)) ?_;refine zaB (kS P cJ) ?_;rw[I.hs];have:=I.qF;omega
  all_goals (
   rw[c1,c2,lL h,lL (h+1),c4,c5];simp only[zaM])
  ·have h0:0<h:=by
    rcases Int.lt_or_le 0 h with h0 |h0
    ·exact h0
    exact absurd (F.x4.trans (zay (by omega))) e1
   have b1:(h+1==1)=false:=by rw[zaP];omega
   have cg:decide (h+1>1)=true:=zaj (by omega);rw[b1,c8,cg];simp only[k1,zaM,zaL,zaN,zaE];obtain⟨st,x1,x2,x3,x4,x5,x6,x7,x8⟩:=F;have fx:aD cJ=aD hd:=by rw[x1,zau h0]
   refine hp.p1 cJ _ _ _ _ _ _ _ (st _ hU ?_) ?_ ?_ ?_ ?_ ?_ ?_
   ·rw[hg,fx]
   ·rw[fx];exact hc
   ·exact(x2 h0).symm
   ·rw[fx];exact hn
   ·exact x7
   ·rw[fx];exact hn
   exact hw
  ·have h0: ¬0<h:=λh0=>jI.1 ((F.x4.trans (zau h0)).symm.trans e1);have b1:(h+1==1)=true:=by rw[zba];omega
   have bn:(n+1==(P.length:Int))=false:=by rw[zaP];omega
   have cg:decide (h+1>1)=false:=zaY (by omega);rw[b1,bn,c7,c8,cg];simp only[zaM,zaL,zaN,zaE];obtain⟨st,x1,x2,x3,x4,x5,x6,x7,x8⟩:=F;have fx:aD cJ=aD hd+1:=by rw[x1,zay h0]
   refine hp.p1 cJ _ _ _ _ _ _ _ (st _ hU ?_) ?_ ?_ ?_ ?_ ?_ ?_
   ·rw[hg,fx];exact zbG.2 (by omega)
   ·omega
   ·exact x3.symm
   ·rw[fx];omega
   ·rw[zaA];exact x7
   ·omega
   exact hw
  have h0: ¬0<h:=λh0=>jI.1 ((F.x4.trans (zau h0)).symm.trans e1);have b1:(h+1==1)=true:=by rw[zba];omega
  have bn:(n+1==(P.length:Int))=true:=by rw[zba];omega
  have cg:decide (h+1>1)=false:=zaY (by omega);have c9:decide (-9223372036854775808<=w+1/\w+1<=9223372036854775807)=true:=zaj (by omega);rw[b1,bn,c7,c8,c9,cg];obtain⟨st,x1,x2,x3,x4,x5,x6,x7,x8⟩:=F;have fx:aD cJ=P.length:=by rw[x1,zay h0];omega
  have ej:Lib.join ((bz P hd).set (k.toNat:Int).toNat pc) []=s:=(join_nil _).trans (x5 fx);rw[ej];simp only[zaM,zaL,zaE,zaN];refine hp.p0 cJ _ _ _ _ (st _ e3 ?_) ?_ ?_ ?_
  ·rw[e4,(D.b7 _ _).2 rfl,zb2,fx];exact(zaj rfl).symm
  ·omega
  ·omega
  rw[hw,zau fx];rfl
 have:=I.done (by omega);omega
theorem BK{s:List UInt8}{pk:List Int}{P:List (List UInt8)}{hd:List Int}{get:D->Option D}{c i:Int}(h: ¬(0<aD hd/\aD hd<P.length)):
 p8 (s,pk,P) (hd,get,c,i)=vA s pk (fA 3 5 P.length P) get c hd (aD hd) (if aD hd=P.length then 1 else 0) i:=zay h
theorem Dp{s:List UInt8}{pk:List Int}{P:List (List UInt8)}{hd:List Int}{get:D->Option D}{c i:Int}(h:0<aD hd/\aD hd<P.length):
 p8 (s,pk,P) (hd,get,c,i)=xV s pk (fA 3 5 P.length P) 3 5 (bz P hd) (aD hd) get c hd (aD hd) (if aD hd=P.length then 1 else 0) i:=zau h
def yf:S->K (PX×S):=λst ae=> ∃s pk P,st=vA s pk (fA 3 5 P.length P) (λ_=>none) 0 (List.replicate P.length 0) 0 0 0/\
 ((1<=P.length/\P.length<=1000)/\(∀p∈P,p≠[]/\p.length<=2000)/\P.flatten=s/\s.length<=2000/\pk.length<=100/\ ∀v∈pk,0<=v/\v<=255)/\
 ∀get c,ae (.exit 2,⟨207,[(7,.d (.bool true)),(12,.ref 0 0 0),(15,iD 1)],[(0,⟨0,none,vz 1 2⟩),(1,⟨0,none,.a7 58 []⟩),(2,⟨0,none,.map 58 get c false⟩)]⟩)
section
variable{X:XF}
theorem zX(n:Nat):aD (List.replicate n 0)=0:=by
 unfold aD;rw[List.countP_eq_zero];intro x hx;rw[(List.mem_replicate.1 hx).2]
 decide
theorem yg:LD X 6 20 (bu (nr 6 20) yf):=LD.par (H:=[(13,zF)]) (hk:=[]) (by kernel_rfl) (by kernel_rfl) (.cons Dl .nil) .nil
 (A:=List UInt8×List Int×List (List UInt8)) (B:=List Int×(D->Option D)×Int×Int) p8
 (λa b=>rM a.1 a.2.1 a.2.2 b.1 b.2.1 b.2.2.2) (λa b=>(((a.2.1.length+a.2.2.length:Nat):Int)-b.2.2.2).toNat)
 (λ_ x=> ∃get c,x=(.exit 2,⟨207,[(7,.d (.bool true)),(12,.ref 0 0 0),(15,iD 1)],[(0,⟨0,none,vz 1 2⟩),(1,⟨0,none,.a7 58 []⟩),(2,⟨0,none,.map 58 get c false⟩)]⟩))
 (by
  rintro⟨s,pk,P⟩ ⟨hd,get,c,i⟩ I;dsimp only at I⊢;have hN:FF s pk P hd.length i (roundPost (((pk.length+P.length:Nat):Int)-i).toNat (λm st=> ∃b',st=p8 (s,pk,P) b'/\rM s pk P b'.1 b'.2.1 b'.2.2.2/\m=(((pk.length+P.length:Nat):Int)-b'.2.2.2).toNat)
    (λx=> ∃get c,x=(.exit 2,⟨207,[(7,.d (.bool true)),(12,.ref 0 0 0),(15,iD 1)],[(0,⟨0,none,vz 1 2⟩),(1,⟨0,none,.a7 58 []⟩),(2,⟨0,none,.map 58 get c false⟩)]⟩))):=by
   refine⟨λcJ get' c' n' w' I' hc hn hw=> ?_,λcJ ps m fl get' c' n' w' I' hc oe hm z6 hn hw=> ?_,λget c=>⟨get,c,rfl⟩⟩
   ·refine⟨_,?_,(cJ,get',c',i+1),?_,I',rfl⟩
    ·have:=I'.hi;have:=I.hi;dsimp only;omega
    rw[BK hc,hn,hw,show hd.length=cJ.length by rw[I.kQ,I'.kQ]];simp only[vA,D0,Ee,b8]
   refine⟨_,?_,(cJ,get',c',i+1),?_,I',rfl⟩
   ·have:=I'.hi;have:=I.hi;dsimp only;omega
   rw[Dp hc,oe,hm,hn,hw,z6,show hd.length=cJ.length by rw[I.kQ,I'.kQ],zay (by omega)];simp only[xV,D0,Ee,b8,kl I'.kQ]
  by_cases hc:0<aD hd/\aD hd<P.length
  ·rw[Dp hc];exact zW s pk P get c hd _ _ i _ I hc rfl (zay (by omega)) hN
  rw[BK hc];exact zS s pk P get c hd _ _ i _ I hc rfl rfl hN)
 (by
  rintro st ae ⟨s,pk,P,rfl,⟨h1,h2,h3,h4,h5,h6⟩,hp⟩;have hc:=zX P.length;refine⟨(s,pk,P),(List.replicate P.length 0,λ_=>none,0,0),?_,⟨h1,h2,h3,h4,⟨h5,h6⟩,zaC,λx hx=> ?_,⟨zbS _,by dsimp only;omega⟩,λk=>rfl,?_,λk hk h=> ?_⟩,?_⟩
  ·rw[BK (by rw[hc];omega),hc,zay (by omega)];rfl
  ·rw[(List.mem_replicate.1 hx).2];exact⟨zbS _,zbS _⟩
  ·dsimp only;rw[hc];simp only[Option.isSome_none]
   symm
   simp only[zbE];omega
  ·dsimp only at hk h;rw[zaC] at hk;exfalso;omega
  rintro x ⟨get,c,rfl⟩;exact hp get c)
end
def Ef:List (Nat×P):=[(10,ZP),(11,Zw)]
def FM:Nat×En:=(3,En.mk 0 none (Obj.map 58 (λ(_:D)=>none) (0:Int) false))
def FN:List (Nat×P):=[(14,Zw),(15,Zw),(16,Zw)]
def FO(l:List aY):List UInt8:=List.flatMap (λ(x:aY)=>Prod.snd (Prod.snd (Prod.snd (Prod.snd x)))) l
def FP(ae:P×List (Nat×En)->Prop):S->Prop:=λ(s0:S)=> ∃(FQ:List UInt8) (Dq:List D) (l:List aY),s0=S.mk 207 (p7 FQ::B8 Dq::oU::rz l::Ef) (Zd l)/\(Z2 l<=1000/\List.length (FO l)<=1000000)/\ ∀(t:List UInt8),t=FO l->ZH/\ZI/\bif !t==FQ then ZE ae else bif Z5 l==(0:Int) then ZE ae else ob (decide ((0:Int)<=Z5 l/\Z5 l<=Z5 l/\Z5 l<=Zh/\(8:Int)*Z5 l<=(281474976710656:Int))) (∃(s:List UInt8) (pk:List Int) (P:List (List UInt8)),S.mk 207 (p7 FQ::B8 Dq::oU::rz l::vB::(13,Pi.P.sl 4 0 (Z2 l))::FN) [Zc l,zJ,zI,FM,(4,En.mk 0 none (Obj.arr (3:TypeId) false (List.replicate (Z2 l) (D.int .i64 (0:Int)))))]=S.mk 207 (p7 s::tX pk::oU::(8,Pi.P.sl 0 0 (List.length (fA (3:Int) (5:Int) (↑(List.length P):Int) P)))::vB::(13,Pi.P.sl 4 0 (List.length (List.replicate (List.length P) (0:Int))))::FN) [(0,En.mk 0 none (Obj.arr (37:TypeId) false (List.map ko (fA (3:Int) (5:Int) (↑(List.length P):Int) P)))),zJ,zI,FM,(4,En.mk 0 none (Obj.arr (3:TypeId) false (List.map iV (List.replicate (List.length P) (0:Int)))))]/\((1<=List.length P/\List.length P<=1000)/\(∀(p:List UInt8),p∈P->p≠[]/\List.length p<=2000)/\List.flatten P=s/\List.length s<=2000/\List.length pk<=100/\ ∀(v:Int),v∈pk->(0:Int)<=v/\v<=(255:Int))/\ ∀(_:D->Option D) (_:Int),ZG ae)
theorem BL(s:List UInt8)(z:Int)(pk:List Int)(ae:P×List (Nat×En)->Prop):(ZH/\ZI/\bif decide (Z0 s>(2000:Int)) then ZG ae else bif decide (s4 pk>(100:Int)) then ZG ae else ob (decide (Zg<=z/\z<=Zh)) (ob (decide (Zg<=(1:Int)+z/\(1:Int)+z<=Zh)) (∃(a:Int) (n:Int) (aW:List UInt8) (rI:Int),[P.d (D.int .i64 (3:Int)),P.d (D.int .i64 (5:Int)),P.d (D.str s),P.d (D.int .i64 ((1:Int)+z))]=ZJ a n aW rI/\ZI/\ZK aW rI/\(∀(e:Int),e=iv a n aW rI->e≠(0:Int)->bif e !=(0:Int) then bif e==(10:Int) then bif s==[] then ZG ae else ae (P.d (D.bool (e==(2:Int))),[]) else ae (P.d (D.bool (e==(2:Int))),[]) else FP ae (S.mk 207 (p7 s::tX pk::oU::(8,Zm)::Ef) Zo))/\(iv a n aW rI=(0:Int)-> ∀(l:List aY),l=xS a n aW rI->FP ae (S.mk 207 (p7 s::tX pk::oU::rz l::Ef) (Zd l))))))=(kj [(8,sZ),(9,Bv),(12,xT),(13,zF)] [(11,bu (nr 6 11) xU),(20,bu (nr 6 20) yf)] 6 [sD s,.d (.int .u8 z),DY pk] []) ae:=by kernel_rfl
theorem yh{n:Int}(hw:(Lit.int .u8 n).wf=true):0<=n/\n<=255:=by
 have h1:IntKind.min .u8=0:=by decide
 have h2:IntKind.max .u8=255:=by decide
 replace hw:(decide (IntKind.min .u8<=n)&&decide (n<=IntKind.max .u8))=true:=hw
 rw[h1,h2,zac,zaI,zaI] at hw;exact hw
def Dr:gF:=λps R ae=> ∃s z pk,ps=[sD s,.d (.int .u8 z),DY pk]/\R=[]/\(0<=z/\z<=255/\ ∀v∈pk,0<=v/\v<=255)/\ae (.d (.bool true),[])
section
variable{X:XF}
theorem BM:FD X 6 Dr:=FD.mk (H:=[(8,sZ),(9,Bv),(12,xT),(13,zF)]) (hk:=[(11,bu (nr 6 11) xU),(20,bu (nr 6 20) yf)]) (by kernel_rfl) (.cons vG (.cons Dk (.cons BH (.cons Dl .nil)))) (.cons yd (.cons yg .nil)) (by
 intro ps R ae hh;obtain⟨s,z,pk,ep,er,⟨z0,z1,oo⟩,hp⟩:=hh
 (rw[ep,er,<-BL];delta Zc Zd Z2 rz Zo Zw ZP Ef Zm oU tX p7 ZG FM B9 zI zJ FN vB Zh Z5 ZC ZE ZI ZH FO B8 FP ZK Z4 ZJ Zg s4 Z0)
 simp only[zat];have FR:iv 3 5 s (1+z)=if s=[] then 10 else if 1000<=(s.length-1)/(1+z).toNat then 2 else 0:=zay (by omega)
 refine⟨rfl,rfl,eY (λ_=>hp) λh1=>eY (λ_=>hp) λh2=>bK (by omega) (bK (by omega) ⟨3,5,s,1+z,rfl,rfl,⟨by omega,by omega⟩,λe he cc=> ?_,λh0 l hl=> ?_⟩)⟩
 ·refine rm (by simpa using cc) ?_;rw[FR] at he;by_cases hs:s=[]
  ·rw[zau hs] at he;rw[he,hs];exact hp
  rw[zay hs] at he;split at he
  ·rw[he];exact hp
  exact absurd he cc
 obtain⟨_,hs,hk,hlen⟩:=jH h0;have wV:=yc h0;rw[<-hl] at wV;have hz:0<(1+z).toNat:=by omega
 have z6:=sY hz s;have cc:=xO hz s;have hle:=xP hz s;unfold xS at hl;generalize chunk (1+z).toNat s=P at*
 have e2:l.flatMap (·.2.2.2.2)=s:=by rw[hl,yb,z6]
 have e3:l.length=P.length:=by rw[hl,b8]
 have Iq:1<=P.length:=by rw[hlen];exact Nat.le_add_left _ _
 clear hlen hk h0;refine⟨s,pk.map rJ,l,rfl,⟨wV,by rw[e2];omega⟩,λt ht=>⟨rfl,rfl,?_⟩⟩;rw[ht,e2];refine oR (by simp) (oR (by rw[zaP];omega) (bK (by omega) ⟨s,pk,P,?_,⟨⟨by omega,by omega⟩,λp hp=>⟨cc p hp,by have:=hle p hp;omega⟩,z6,by omega,by omega,oo⟩,λ_ _=>hp⟩));rw[List.map_replicate,zaC,<-hl,e3];rfl)
end
theorem Ds{m:Nat}{x:D}(h:ri PR (m+2) 46 x): ∃l:List Int,x= .sl 1 (l.map rJ)/\ ∀v∈l,0<=v/\v<=255:=by
 obtain⟨es,rfl,hl,hy⟩:=sV (k:=1) Try.underlying46 (by kernel_rfl) h;clear hl h
 suffices h: ∃l:List Int,es=l.map rJ/\ ∀v∈l,0<=v/\v<=255 by obtain⟨l,rfl,h⟩:=h;exact⟨l,rfl,h⟩
 induction es with
 |nil=>exact⟨[],rfl,λv hv=>by cases hv⟩
 |cons y es ih=>
  obtain⟨l,rfl,h2⟩:=ih λy HZ=>hy y (zbN _ HZ);obtain⟨n,rfl,hw⟩:=rj Try.underlying5 (hy y (List.mem_cons_self ..));have hn:=yh hw;refine⟨n::l,rfl,λv hv=> ?_⟩;rcases zav.1 hv with rfl |hv
  ·exact hn
  exact h2 v hv
theorem km(xs:List D)(h:jG PR 8 [9,5,46] xs): ∃lf k R,dN PR (B3 xN) lf k 6 (xs.map P.d) []=some (.d (.bool true),R):=by obtain⟨x,r,rfl,hx,h⟩:=fitAll_cons h;obtain⟨y,r,rfl,hy,h⟩:=fitAll_cons h;obtain⟨u,r,rfl,hu,h⟩:=fitAll_cons h;have e:=fitAll_nil h;subst e;obtain⟨s,rfl,_⟩:=xJ Try.underlying9 hx;obtain⟨z,rfl,hz⟩:=rj Try.underlying5 hy;obtain⟨l,rfl,hl⟩:=Ds hu;have hz:=yh hz;obtain⟨lf,k,hr⟩:=(BM (X:=xN)).run (y:=(.d (.bool true),[])) ⟨s,z,l,rfl,rfl,⟨hz.1,hz.2,hl⟩,rfl⟩;exact⟨lf,k,[],hr⟩
end Pi
