/- The texts X3Shelf XBld K3 X3 S3 FrP Fr1 Fr2 Fr3 Fr4 Fr9 QP Fr1H Fr2H Fr4H Fr9H Fr8 Fr8H LoH Fa1 Fa20 FrQ FaP Fa20H Fa21 Fa21H Fa22 Fa22H Fa30H Fa31 Fa31H. -/
import Derived.Test.YtfelfooeclnbiaaEbo
import Derived.Shelf.LaysM
import Derived.Shelf.LaysC
import Derived.Shelf.Strings.OnBuilder
import Derived.Test.YtfelfooeclnbiaaProg
import Derived.KernelRfl
namespace Go.Proofs
open Go.Shelf
def Try.aB:Go.Shelf.Ren:=⟨λ|169=>25 |n=>n,λ|70=>70 |9=>9 |0=>0 |72=>72 |37=>46 |127=>79 |3=>3 |5=>5 |n=>n,λ|n=>n⟩
theorem Try.qb:Go.Proofs.Lays.n169 Try.prog Try.aB:={
 mixed:=by kernel_rfl
 f169:=Try.func25.trans (congrArg some (by kernel_rfl))
 t0:=Try.underlying0
 a0:=Try.isAgg0
 z0:=Try.sizeOf0
 v0:=Try.zeroValue0
 t3:=Try.underlying3
 a3:=Try.isAgg3
 z3:=Try.sizeOf3
 v3:=Try.zeroValue3
 t9:=Try.underlying9
 a9:=Try.isAgg9
 z9:=Try.sizeOf9
 v9:=Try.zeroValue9
 t37:=Try.underlying46
 a37:=Try.isAgg46
 z37:=Try.sizeOf46
 v37:=Try.zeroValue46
 t70:=Try.underlying70
 a70:=Try.isAgg70
 z70:=Try.sizeOf70
 v70:=Try.zeroValue70
 t72:=Try.underlying72
 a72:=Try.isAgg72
 z72:=Try.sizeOf72
 v72:=Try.zeroValue72
 t127:=Try.underlying79
 a127:=Try.isAgg79
 z127:=Try.sizeOf79
 v127:=Try.zeroValue79}
theorem Try.db:Builder.Extra Try.prog Try.aB:={
 sizeBuilder:=by kernel_rfl
 liesBuilder:=by kernel_rfl
 t5:=Try.underlying5
 a5:=Try.isAgg5
 z5:=Try.sizeOf5
 v5:=Try.zeroValue5
 infoByte:=by kernel_rfl
 cellsByte:=by kernel_rfl
 sizeByte:=by kernel_rfl
 neB5:=by decide}
open Go.RowKit in
theorem Try.Builder_String(B b:Nat)(l:List UInt8)(w:World)(h:Lib.IsBuilder 72 5 B b (Lib.byteCells l) w)(h0:l≠[]):
 Calls Try.prog 25 #[.pointer (some ⟨b,0,none⟩)] w λe w'=>e= .returned (.string ⟨l.toArray⟩)/\Below B w w':=Any.Builder_String Try.qb Try.db B b l w h h0
def Try.lN:Go.Shelf.Ren:=⟨λ|156=>17 |165=>23 |166=>24 |169=>25 |240=>26 |241=>27 |276=>28 |277=>29 |n=>n,λ|31=>59 |9=>9 |3=>3 |4=>4 |0=>0 |20=>20 |72=>72 |76=>76 |70=>70 |37=>46 |75=>75 |127=>79 |164=>80 |5=>5 |80=>78 |n=>n,λ|n=>n⟩
theorem Try.uc:Go.Proofs.Lays.n156 Try.prog Try.lN:={
 mixed:=by kernel_rfl
 f156:=Try.func17.trans (congrArg some (by kernel_rfl))
 f165:=Try.func23.trans (congrArg some (by kernel_rfl))
 f166:=Try.func24.trans (congrArg some (by kernel_rfl))
 f169:=Try.func25.trans (congrArg some (by kernel_rfl))
 f240:=Try.func26.trans (congrArg some (by kernel_rfl))
 f241:=Try.func27.trans (congrArg some (by kernel_rfl))
 f276:=Try.func28.trans (congrArg some (by kernel_rfl))
 f277:=Try.func29.trans (congrArg some (by kernel_rfl))
 t0:=Try.underlying0
 a0:=Try.isAgg0
 z0:=Try.sizeOf0
 v0:=Try.zeroValue0
 t3:=Try.underlying3
 a3:=Try.isAgg3
 z3:=Try.sizeOf3
 v3:=Try.zeroValue3
 t4:=Try.underlying4
 a4:=Try.isAgg4
 z4:=Try.sizeOf4
 v4:=Try.zeroValue4
 t9:=Try.underlying9
 a9:=Try.isAgg9
 z9:=Try.sizeOf9
 v9:=Try.zeroValue9
 t20:=Try.underlying20
 a20:=Try.isAgg20
 z20:=Try.sizeOf20
 v20:=Try.zeroValue20
 t31:=Try.underlying59
 a31:=Try.isAgg59
 z31:=Try.sizeOf59
 v31:=Try.zeroValue59
 t37:=Try.underlying46
 a37:=Try.isAgg46
 z37:=Try.sizeOf46
 v37:=Try.zeroValue46
 t70:=Try.underlying70
 a70:=Try.isAgg70
 z70:=Try.sizeOf70
 v70:=Try.zeroValue70
 t72:=Try.underlying72
 a72:=Try.isAgg72
 z72:=Try.sizeOf72
 v72:=Try.zeroValue72
 t75:=Try.underlying75
 a75:=Try.isAgg75
 z75:=Try.sizeOf75
 v75:=Try.zeroValue75
 t76:=Try.underlying76
 a76:=Try.isAgg76
 z76:=Try.sizeOf76
 v76:=Try.zeroValue76
 t127:=Try.underlying79
 a127:=Try.isAgg79
 z127:=Try.sizeOf79
 v127:=Try.zeroValue79
 t164:=Try.underlying80
 a164:=Try.isAgg80
 z164:=Try.sizeOf80
 v164:=Try.zeroValue80}
theorem Try.fh:Builder.Extra Try.prog Try.lN:={
 sizeBuilder:=by kernel_rfl
 liesBuilder:=by kernel_rfl
 t5:=Try.underlying5
 a5:=Try.isAgg5
 z5:=Try.sizeOf5
 v5:=Try.zeroValue5
 infoByte:=by kernel_rfl
 cellsByte:=by kernel_rfl
 sizeByte:=by kernel_rfl
 neB5:=by decide}
open Go.RowKit in
theorem Try.strings_Join_none(a:Option Addr)(c:Nat)(sep:ByteArray)(w:World):
 Calls Try.prog 17 #[.slice a 0 c,.string sep] w λe w'=>e= .returned (.string ⟨#[]⟩)/\w'=w:=Any.strings_Join_none Try.uc Try.fh a c sep w
open Go.RowKit in
theorem Try.strings_Join(bk o c:Nat)(xs:List ByteArray)(sep:ByteArray)(w:World)(BD: ∀(j:Nat) x,xs[j]?=some x->w.cell? ⟨bk,o+j,none⟩=some (.string x))(y8:bk<w.heap.size)(hN:xs.length<=140737488355328)(j9:xs.length<=c)(hlen:(Lib.join (xs.map (·.data.toList)) sep.data.toList).length<=140737488355328):
 Calls Try.prog 17 #[.slice (some ⟨bk,o,none⟩) xs.length c,.string sep] w λe w'=>e= .returned (.string ⟨(Lib.join (xs.map (·.data.toList)) sep.data.toList).toArray⟩)/\Below w.heap.size w w':=Any.strings_Join Try.uc Try.fh bk o c xs sep w BD y8 hN j9 hlen
end Go.Proofs
namespace Pi
open Go Go.Proofs Go.RowKit Go.Shelf
def Dq:List D->Option (List UInt8)
 | []=>some []
 | .int .u8 n::r=>if 0<=n/\n<256 then(match Dq r with |some l=>some (UInt8.ofNat n.toNat::l)|none=>none) else none
 |_=>none
theorem rH: ∀(es:List D) (l:List UInt8),Dq es=some l->es=l.map λb=>D.int .u8 (b.toNat:Int)
 | [],l,h=>by simp[Dq] at h;subst h;rfl
 |x::r,l,h=>by
  unfold Dq at h;split at h
  next heq=>cases heq
  next n r' heq=>
   simp only[List.cons.injEq] at heq;obtain⟨rfl,rfl⟩:=heq;split at h
   ·rename_i hn;split at h
    next l' hl=>simp at h;subst h;rw[rH r l' hl];simp only[zaY,List.cons.injEq,and_true];congr 1;simp only[UInt8.toNat_ofNat'];omega
    cases h
   cases h
  cases h
def tc:TF
 | [.ref 0 v 0],R=>match lk R 0 with
  |some e=>if Nat.beq e.aw v then(match e.obj with
   | .box 72 [.d .gE,x]=>some (.dX [],ins 0 ⟨e.aw,e.tag,.box 72 [.ref 0 v 0,x]⟩ R)
   | .box 72 [.ref 0 v' 0,_]=>if Nat.beq v' v then some (.dX [],R) else none
   |_=>none) else none
  |none=>none
 |_,_=>none
def BE:TF
 | [.ref 0 v 0],R=>match lk R 0 with
  |some e=>if Nat.beq e.aw v then(match e.obj with
   | .box 72 [_,.d .dm]=>some (.d (.str []),R)
   | .box 72 [_,.sl m vm len]=>(match lk R m with
    |some em=>if Nat.beq em.aw vm then(match em.obj with
     | .arr 5 false es=>(match Dq (es.take len) with
      |some l=>if Nat.beq l.length len&&Nat.blt 0 len then some (.d (.str l),ins m ⟨em.aw,em.tag,.gone⟩ R) else none
      |none=>none)
     |_=>none) else none
    |none=>none)
   |_=>none) else none
  |none=>none
 |_,_=>none
section
variable{w0:World}
theorem ud{F:Nat->Prop}{w:World}{G:Nat->Value}{R:List (Nat×En)}:ak F w G R (.tuple #[]) (.dX []):= .dX [] [] rfl (λi v c hv=>by simp at hv)
theorem qc{w:World}{b:Nat}{cs:Array Value}{T:TypeId}{fr:Nat×Nat}(h:w.heap[b]?=some (.cells cs T fr))(i:Nat)(v:Value):(w.setCell ⟨b,i,none⟩ v).heap[b]?=some (.cells (cs.setIfInBounds i v) T fr):=by simp[World.setCell,zbh,h]
theorem jt{w:World}{b c i:Nat}(h:c≠b)(v:Value):(w.setCell ⟨b,i,none⟩ v).heap[c]?=w.heap[c]?:=by simp[World.setCell,zbh,zaS h]
set_option maxHeartbeats 1000000 in
set_option maxRecDepth 100000 in
theorem BF(b:Nat)(w:World)(h0:w.cell? ⟨b,0,none⟩=some (.pointer (some ⟨b,0,none⟩))):
  Calls Try.prog 26 #[.pointer (some ⟨b,0,none⟩)] w λe w'=>e= .returned (.tuple #[])/\w'=w:=by
 obtain⟨j,hj,_⟩:=zaj.1 (show(Try.prog.info? 72).map (·.size)=some 2 by kernel_rfl);have a72:=Try.isAgg72;have z72:=Try.sizeOf72;have v72:=Try.zeroValue72;have FP:=run_underlying Try.underlying72;have a70:=Try.isAgg70;have z70:=Try.sizeOf70;have v70:=Try.zeroValue70;have FQ:=run_underlying Try.underlying70;have a4:=Try.isAgg4;have z4:=Try.sizeOf4;have v4:=Try.zeroValue4;have u4:=run_underlying Try.underlying4;have FR:=run_underlying Try.underlying80;have mixed:Try.prog.follows .mixedOrders=true:=by kernel_rfl
 go_enter Try.func26,Try.ntmps26
 go_wp2
 rw[Lib.run_neq_ptr_same w _ Try.underlying70 hj]
 go_wp2
 go_end0
 exact⟨rfl,rfl⟩
set_option maxHeartbeats 1000000 in
set_option maxRecDepth 100000 in
theorem zF(b:Nat)(w:World)(h0:w.cell? ⟨b,0,none⟩=some (.pointer none))(tG:w.shape? b=some (72,2))(vJ:w.frozen? ⟨b,0,none⟩=false):
  Calls Try.prog 26 #[.pointer (some ⟨b,0,none⟩)] w λe w'=>e= .returned (.tuple #[])/\w'=w.setCell ⟨b,0,none⟩ (.pointer (some ⟨b,0,none⟩)):=by
 obtain⟨j,hj,Ir⟩:=zaj.1 (show(Try.prog.info? 72).map (·.size)=some 2 by kernel_rfl);have Is:liesAt Try.prog Try.prog.depth 72 (2/Try.prog.cellsOf 72) 0 72 1=true:=by kernel_rfl
 have a72:=Try.isAgg72;have z72:=Try.sizeOf72;have v72:=Try.zeroValue72;have FP:=run_underlying Try.underlying72;have a70:=Try.isAgg70;have z70:=Try.sizeOf70;have v70:=Try.zeroValue70;have FQ:=run_underlying Try.underlying70;have a4:=Try.isAgg4;have z4:=Try.sizeOf4;have v4:=Try.zeroValue4;have u4:=run_underlying Try.underlying4;have FR:=run_underlying Try.underlying80;have mixed:Try.prog.follows .mixedOrders=true:=by kernel_rfl
 go_enter Try.func26,Try.ntmps26
 go_wp2
 rw[Lib.run_to_unsafe w ⟨b,0,none⟩ Try.underlying70 Try.underlying80 hj (by rw[Ir];decide) tG (Nat.zero_lt_succ 1)];simp only[Result.andThen];rw[Oper.upon_value]
 go_wp2
 rw[run_callFunc_extern Try.func28 (by kernel_rfl) (by kernel_rfl) (by kernel_rfl) (e:=Extern.AbiNoEscape.same) (by kernel_rfl)];rw[Lib.run_noEscape];simp only[Result.andThen];rw[Oper.upon_value]
 go_wp2
 rw[Lib.run_from_unsafe w ⟨b,0,none⟩ Try.underlying80 Try.underlying70 hj tG Is];simp only[Result.andThen];rw[Oper.upon_value]
 go_wp2
 go_end0
 exact⟨rfl,rfl⟩
theorem vv:Ex Try.prog w0 26 tc:=by
 intro h0 ps R p R1 h F G w vs hH hl hv;unfold tc at h;split at h
 next v=>
  match vs,hl,hv with
  | [u],_,hv=>
   have hp:=hv 0 u _ rfl rfl;split at h
   ·rename_i e he;split at h
    ·rename_i ij;have ij:=zab ij;have hO:=hH.rg 0 e he;cases hp with
     |ref _ _ _ _ hr h1=>
      split at h
      ·rename_i x aO;rw[aO] at hO;obtain⟨b,hG,rfl⟩:=hr.at he ij (by rw[aO];rfl);obtain⟨b',cs,fa,hh,bK,cS,qk⟩:=hO;rw[hG] at fa;simp at fa;subst fa;simp only[zae,zaV] at h;obtain⟨rfl,rfl⟩:=h;have c0:cs[0]?=some (.pointer none):=by
        have xH:0<cs.size:=by rw[bK];simp
        have:=qk 0 _ rfl;rw[nA xH];generalize cs.getD 0 undef=c at this;cases this with
        |d hd=>exact congrArg some (hd.cm rfl)
       have qQ:b<w.heap.size:=(zal.1 hh).1;have mR:=zF b w (by rw[fA hh];exact c0) (by simp[World.shape?,hh,bK]) (by simp[World.frozen?,hh]);refine .inl ⟨enters Try.func26 (by kernel_rfl) (by kernel_rfl) _ w,mR.mono λe' w' ⟨a7,At⟩=>⟨_,a7,F,G,?_⟩⟩;subst At;have c6:gA G R 0 ⟨e.aw,e.tag,.box 72 [.ref 0 v 0,x]⟩ (G 0):=λe1 nT=>by rw[he] at nT;cases nT;exact .inr ⟨rfl,λ_=>⟨by rw[aO];rfl,rfl⟩⟩
       have kP:=cw c6;rw[aM] at kP;have y5: ¬F b:=hH.iY 0 e b he (by rw[aO];simp[aG,hG,ar]);have hF: ∀c,F c->(w.setCell ⟨b,0,none⟩ (.pointer (some ⟨b,0,none⟩))).heap[c]?=w.heap[c]?:=λc hc=>jt (λe=>y5 (by rw[<-e];exact hc)) _;obtain⟨d1,d2⟩:=aq.gR hH (e1:=⟨e.aw,e.tag,.box 72 [.ref 0 v 0,x]⟩) (g1:=G 0) (w':=w.setCell ⟨b,0,none⟩ (.pointer (some ⟨b,0,none⟩))) c6
        (λc hc eb=>jt (λe'=>eb ⟨e,he,by rw[e',aO];simp[aG,hG,ar]⟩) _) (by simp[World.setCell]) rfl rfl rfl
        (λc hc=> .inr ⟨e,he,by rw[aO];exact hc⟩)
        (by
         rw[aM];refine⟨b,_,hG,qc hh 0 _,by simpa using bK,?_,?_⟩
         ·intro c hc;obtain⟨i,hi⟩:=List.mem_iff_getElem?.1 hc;rw[za4,Array.getElem?_setIfInBounds] at hi;split at hi
          ·simp at hi;obtain⟨_,rfl⟩:=hi;rfl
          exact cS c (List.mem_iff_getElem?.2 ⟨i,by rw[za4];exact hi⟩)
         intro i p hp
         match i with
         |0=>
          simp at hp;subst hp;have e0:(cs.setIfInBounds 0 (.pointer (some ⟨b,0,none⟩))).getD 0 undef= .pointer (some ⟨b,0,none⟩):=by
           have xH:0<cs.size:=by rw[bK];simp
           simp[zak,xH]
          rw[e0];exact .ref 0 v 0 _ ⟨_,aJ _ _ _,by rw[ij];exact zaf _,λ_ _=>⟨b,hG,rfl⟩⟩ rfl
         |1=>
          simp at hp;subst hp;have e1:(cs.setIfInBounds 0 (.pointer (some ⟨b,0,none⟩))).getD 1 undef=cs.getD 1 undef:=by simp[zak]
          rw[e1];exact(qk 1 x rfl).mono (λ_ h=>h) hF kP
         |i+2=>simp at hp)
        (λi hi hl=>hH.tag 0 e i he hi (by rw[aO];rfl))
       rw[aM] at d1 d2;exact⟨d1,ud,d2⟩
      ·rename_i v' x aO;split at h
       ·rename_i tD;have tD:=zab tD;subst tD;rw[aO] at hO;obtain⟨b,hG,rfl⟩:=hr.at he ij (by rw[aO];rfl);obtain⟨b',cs,fa,hh,bK,cS,qk⟩:=hO;rw[hG] at fa;simp at fa;subst fa;simp only[zae,zaV] at h;obtain⟨rfl,rfl⟩:=h;have c0:cs[0]?=some (.pointer (some ⟨b,0,none⟩)):=by
         have xH:0<cs.size:=by rw[bK];simp
         have:=qk 0 _ rfl;rw[nA xH];generalize cs.getD 0 undef=c at this;cases this with
         |ref _ _ _ _ Iu _=>obtain⟨b2,C4,rfl⟩:=Iu.at he ij (by rw[aO];rfl);rw[hG] at C4;simp at C4;subst C4;rfl
        have mR:=BF b w (by rw[fA hh];exact c0);refine .inl ⟨enters Try.func26 (by kernel_rfl) (by kernel_rfl) _ w,mR.mono λe' w' ⟨a7,At⟩=>⟨_,a7,F,G,?_⟩⟩;subst At;exact⟨hH,ud,Ext.refl _ _ _⟩
       cases h
      cases h
    cases h
   cases h
 cases h
theorem rI{w:World}{g c n:Nat}(h:c≠g):(w.freeze ⟨g,0,none⟩ n).heap[c]?=w.heap[c]?:=by
 unfold World.freeze;split
 ·rfl
 simp[zbh,zaS h]
theorem rJ{w:World}{g n:Nat}:(w.freeze ⟨g,0,none⟩ n).heap.size=w.heap.size:=by
 unfold World.freeze;split
 ·rfl
 simp
set_option maxHeartbeats 2000000 in
set_option maxRecDepth 100000 in
theorem zG(b g cap len:Nat)(p:Value)(cur:Array Value)(l:List UInt8)(w:World)(y8:w.heap[b]?=some (.cells #[p,.slice (some ⟨g,0,none⟩) len cap] 72 (0,0)))(hg:w.heap[g]?=some (.cells cur 5 (0,0)))
  (h0:l≠[]) (hlen:l.length=len) (j9:len<=cap) (nI:cap<=maxLen) (hcs:cap<=cur.size) (hb: ∀(j:Nat) (x:UInt8),l[j]?=some x->cur[j]?=some (Value.int IntKind.u8 (x.toNat:Int))):
  Calls Try.prog 25 #[.pointer (some ⟨b,0,none⟩)] w λe w'=>e= .returned (.string ⟨l.toArray⟩)/\w'=w.drew.freeze ⟨g,0,none⟩ l.length:=by
 subst hlen;have L:=Try.qb;have X:=Try.db;have yi:l.length≠0:=by simpa using h0
 have c1:w.drew.cell? ⟨b,1,none⟩=some (.slice (some ⟨g,0,none⟩) l.length cap):=by have:w.drew.heap[b]?=some (.cells #[p,.slice (some ⟨g,0,none⟩) l.length cap] 72 (0,0)):=y8;rw[Lib.cell_of_heap this];rfl
 have Iv:(Builtin.unsafeSliceData_ #[(Try.aB.t 37)] (Try.aB.t 127) #[.slice (some ⟨g,0,none⟩) l.length cap]).run Try.prog w.drew= .ok (.pointer (some ⟨g,0,none⟩)) w.drew:=
  Lib.run_unsafeSliceData_row _ _ _ _ _ _ (by omega)
 have Iw:(Builtin.unsafeString_ #[(Try.aB.t 127),(Try.aB.t 3)] (Try.aB.t 9) #[.pointer (some ⟨g,0,none⟩),.int .i64 l.length]).run Try.prog w.drew= .ok (.string ⟨l.toArray⟩) (w.drew.freeze ⟨g,0,none⟩ l.length):=by refine Lib.run_unsafeString_row w.drew (Try.aB.t 127) (Try.aB.t 3) (Try.aB.t 9) (Try.aB.t 5) L.t127 X.cellsByte g cur.size (by have uy:w.drew.heap[g]?=some (.cells cur (Try.aB.t 5) (0,0)):=hg;simp[World.shape?,uy]) l h0 (by omega) (by unfold maxLen at nI;omega) ?_;intro j x hx;have uy:w.drew.heap[g]?=some (.cells cur 5 (0,0)):=hg;rw[show(⟨g,0,none⟩:Addr).add j=⟨g,j,none⟩ by cases j<;>simp[Addr.add],fA uy];exact hb j x hx
 have mixed:=L.mixed;have t72:=L.t72;have a72:=L.a72;have z72:=L.z72;have v72:=L.v72;have FP:=run_underlying L.t72;have t70:=L.t70;have a70:=L.a70;have z70:=L.z70;have v70:=L.v70;have FQ:=run_underlying L.t70;have t37:=L.t37;have a37:=L.a37;have z37:=L.z37;have v37:=L.v37;have Ix:=run_underlying L.t37;have t127:=L.t127;have a127:=L.a127;have z127:=L.z127;have v127:=L.v127;have FT:=run_underlying L.t127;have t3:=L.t3;have a3:=L.a3;have z3:=L.z3;have v3:=L.v3;have u3:=run_underlying L.t3;have t9:=L.t9;have a9:=L.a9;have z9:=L.z9;have v9:=L.v9;have u9:=run_underlying L.t9;have t5:=X.t5;have a5:=X.a5;have z5:=X.z5;have v5:=X.v5;have u5:=run_underlying X.t5
 go_enter L.f169,Body.n169_ntmps Try.aB
 go_wp2
 go_region_o
 all_goals (go_wp2;go_ret;exact⟨rfl,rfl⟩)
set_option maxHeartbeats 2000000 in
set_option maxRecDepth 100000 in
theorem zH(b:Nat)(p:Value)(w:World)(y8:w.heap[b]?=some (.cells #[p,.slice none 0 0] 72 (0,0))):
  Calls Try.prog 25 #[.pointer (some ⟨b,0,none⟩)] w λe w'=>e= .returned (.string ⟨#[]⟩)/\w'=w.drew:=by
 have L:=Try.qb;have X:=Try.db;have Iw:=λW q=>Lib.run_unsafeString_none (P:=Try.prog) W (Try.aB.t 127) (Try.aB.t 3) (Try.aB.t 9) q;have c1:w.drew.cell? ⟨b,1,none⟩=some (.slice none 0 0):=by have:w.drew.heap[b]?=some (.cells #[p,.slice none 0 0] 72 (0,0)):=y8;rw[Lib.cell_of_heap this];rfl
 have Iv:(Builtin.unsafeSliceData_ #[(Try.aB.t 37)] (Try.aB.t 127) #[.slice none 0 0]).run Try.prog w.drew= .ok (.pointer none) w.drew:=rfl;have mixed:=L.mixed;have t72:=L.t72;have a72:=L.a72;have z72:=L.z72;have v72:=L.v72;have FP:=run_underlying L.t72;have t70:=L.t70;have a70:=L.a70;have z70:=L.z70;have v70:=L.v70;have FQ:=run_underlying L.t70;have t37:=L.t37;have a37:=L.a37;have z37:=L.z37;have v37:=L.v37;have Ix:=run_underlying L.t37;have t127:=L.t127;have a127:=L.a127;have z127:=L.z127;have v127:=L.v127;have FT:=run_underlying L.t127;have t3:=L.t3;have a3:=L.a3;have z3:=L.z3;have v3:=L.v3;have u3:=run_underlying L.t3;have t9:=L.t9;have a9:=L.a9;have z9:=L.z9;have v9:=L.v9;have u9:=run_underlying L.t9;have t5:=X.t5;have a5:=X.a5;have z5:=X.z5;have v5:=X.v5;have u5:=run_underlying X.t5
 go_enter L.f169,Body.n169_ntmps Try.aB
 go_wp2
 go_region_o
 all_goals (go_wp2;go_ret;exact⟨rfl,rfl⟩)
theorem dK.drew{T:Tg}{F:Nat->Prop}{G:Nat->Value}{w:World}{R:List (Nat×En)}(h:dK Try.prog T F G w R):dK Try.prog T F G w.drew R:=by have hn:Names G G R R:=Names.refl G R;exact⟨h.si,h.size,λt p hp=>by simp[lk] at hp,λn e he=>(h.rg n e he).mono (λ_ h=>h) (λ_ _=>rfl) hn rfl (λ_ _=>rfl),h.own,h.iY,h.gQ,h.tag,h.z,Nat.le_succ_of_le h.dr,h.sz⟩
theorem oY{cs:Array Value}(h:cs.size=2):cs= #[cs.getD 0 undef,cs.getD 1 undef]:=by
 apply Array.ext
 ·simp[h]
 intro i h1 h2;have:i=0\/i=1:=by simp at h2;omega
 rcases this with rfl |rfl<;>simp[Array.getD,h]
theorem zI:Ex Try.prog w0 25 BE:=by
 intro h0 ps R p R1 h F G w vs hH hl hv;unfold BE at h;split at h
 next v=>
  match vs,hl,hv with
  | [u],_,hv=>
   have hp:=hv 0 u _ rfl rfl;split at h
   ·rename_i e he;split at h
    ·rename_i ij;have ij:=zab ij;have hO:=hH.rg 0 e he;cases hp with
     |ref _ _ _ _ hr h1=>
      have G7:=enters Try.func25 (by kernel_rfl) (by kernel_rfl);split at h
      ·rename_i x aO;rw[aO] at hO;obtain⟨b,hG,rfl⟩:=hr.at he ij (by rw[aO];rfl);obtain⟨b',cs,fa,hh,bK,cS,qk⟩:=hO;rw[hG] at fa;simp at fa;subst fa;simp only[zae,zaV] at h;obtain⟨rfl,rfl⟩:=h;have e1:cs.getD 1 undef= .slice none 0 0:=by
        have:=qk 1 _ rfl;generalize cs.getD 1 undef=c at this;cases this with
        |d hd=>exact hd.cm rfl
       have h2:=oY (by simpa using bK);rw[e1] at h2;rw[h2] at hh;refine .inl ⟨G7 _ w,(zH b _ w hh).mono λe' w' ⟨a7,At⟩=>⟨_,a7,F,G,?_,.d (.str []),?_⟩⟩
       ·subst At;exact hH.drew
       subst At;exact⟨λ_ h=>h,λ_ h=> .inl h,λ_ h=> .inl h,λ_ _ _=>rfl,zaf _,rfl,rfl,rfl⟩
      ·rename_i x m vm len aO;rw[aO] at hO;obtain⟨b,hG,rfl⟩:=hr.at he ij (by rw[aO];rfl);obtain⟨b',cs,fa,hh,bK,cS,qk⟩:=hO;rw[hG] at fa;simp at fa;subst fa;split at h
       ·rename_i em Cq;split at h
        ·rename_i FU;have FU:=zab FU;split at h
         ·rename_i es FV;split at h
          ·rename_i l Iy;split at h
           ·rename_i cc;simp only[zac,Nat.blt_eq] at cc;have Aj:=zab cc.1;simp only[zae,zaV] at h;obtain⟨rfl,rfl⟩:=h;have Dj:=qk 1 _ rfl;have G8:=hH.rg m em Cq;rw[FV] at G8;have h2:=oY (by simpa using bK);generalize cs.getD 1 undef=c1 at Dj h2;cases Dj with
            |sl _ _ _ _ _ Iz=>
             obtain⟨a,N,cap,G9,rfl,I6⟩:=Iz.at Cq FU (by rw[FV];rfl);have vM:=rH _ _ Iy;have wE:len<=es.length:=by have:=congrArg List.length vM;simp at this;omega
             rcases G8 with⟨_,rfl⟩| ⟨g,dR,cur,k,BG,hg,hk,l3,hle,nI,hcs,_,hE⟩
             ·simp at wE;omega
             rw[G9] at BG;simp only[Value.slice.injEq] at BG;obtain⟨rfl,rfl,rfl⟩:=BG;have yQ:k=1:=by
              have:sz Try.prog 5=some 1:=by kernel_rfl
              rw[this] at hk;exact(za2 hk).symm
             subst yQ;rw[h2] at hh;have bY:l≠[]:=λe0=>by subst e0;simp at Aj;omega
             have aQ: ∀(j:Nat) (x:UInt8),l[j]?=some x->cur[j]?=some (.int .u8 x.toNat):=λj x hx=>by
              have hj:j<l.length:=(zaa.1 hx).1;have Fl:es[j]?=some (.int .u8 x.toNat):=by
               have:(es.take len)[j]?=some (D.int .u8 (x.toNat:Int)):=by rw[vM,zao,hx];rfl
               rw[zaQ] at this;split at this
               ·exact this
               cases this
              obtain⟨q1,q2,q3⟩:=hE j _ Fl;have:=q3 0 _ rfl;rw[nA (by omega)];simp only[zbY,zbb] at this;rw[this.cm rfl]
             refine .inl ⟨G7 _ w,(zG b g cap len _ cur l w hh hg bY Aj (by omega) nI (by omega) aQ).mono λe' w' ⟨a7,At⟩=>⟨_,a7,F,G,?_⟩⟩;subst At;have c6:gA G R m ⟨em.aw,em.tag,.gone⟩ (G m):=λe1 nT=>by rw[Cq] at nT;cases nT;exact .inr ⟨rfl,λBf=>by cases Bf⟩
             obtain⟨d1,d2⟩:=aq.gR hH (e1:=⟨em.aw,em.tag,.gone⟩) (g1:=G m) (w':=w.drew.freeze ⟨g,0,none⟩ l.length) (hdr:=by unfold World.freeze;split<;>exact zbH _) c6
              (λc hc eb=>rI (λe'=>eb ⟨em,Cq,by rw[e',FV];simp[aG,G9,ar]⟩)) (by rw[rJ];exact zaf _) (by unfold World.freeze;split<;>rfl) (by unfold World.freeze;split<;>rfl) (by unfold World.freeze;split<;>rfl)
              (λc hc=>by simp[aG] at hc) trivial (λi _ Bf=>by cases Bf)
             rw[aM] at d1 d2;exact⟨d1,.d (.str l),d2⟩
           cases h
          cases h
         cases h
        cases h
       cases h
      cases h
    cases h
   cases h
 cases h
end
end Pi
namespace Pi
open Go Go.Proofs
set_option maxRecDepth 100000
set_option maxHeartbeats 0
def Dr:List (Nat×List (Nat×List Nat×List Nat)):=[(4,[(8,[0,3,4,5,6],[2,3])]),
 (5,[(8,[0,1,5,6,7,8],[4,5])]),
 (6,[(11,[0,2,7,8,10,11],[0,2,7,8,10]),(20,[0,2,7,8,12,13,14,15,16],[6,7,12,15])]),
 (7,[(13,[0,1,7,8,10,12,13,14,15],[0,1,6,7,13,14])]),
 (9,[(8,[0,1,2,3,10],[10]),(13,[10,60,61],[10])]),
 (10,[(10,[0,1,2,3,10,11,12],[11])]),
 (11,[(4,[0,1,5],[4])]),
 (14,[(10,[0,3,7,8],[0,3,4,5,6,7]),(21,[0,3,7,9,10],[0,3,7,9]),(29,[0,3,7,9,11,12],[0,3,7,11])]),
 (17,[(12,[0,1,5,39,40,41],[0,1,5]),(22,[1,8,63,64,65],[8])]),
 (19,[(2,[0,3,5],[0,4])]),
 (20,[(2,[0,3,5],[0,4])])]
def BH:List (Nat×List (Nat×Nat)):=[(4,[(14,1)]),
 (5,[(14,1),(17,1)]),
 (14,[(16,1),(23,1),(33,1)]),
 (16,[(4,1)]),
 (23,[(3,1)]),
 (25,[(1,1)]),
 (27,[(0,1)])]
def FW:List Nat:=[17,26,25]
def Cr:List Nat:=FW++[]
def FX:List Nat:=[]
def me(f id:Nat):Option (List Nat×List Nat):=if Nat.beq id 999999 then(if dQ f FX then some ([],[]) else none) else match lk Dr f with |some l=>lk l id |none=>none
abbrev Ds:rS:=⟨me,Cr,λ_ _ _=>none⟩
end Pi
namespace Pi
open Go Go.Proofs Go.RowKit
def iC:List D->Option (List (List UInt8))
 | []=>some []
 | .str s::r=>match iC r with |some l=>some (s::l)|none=>none
 |_=>none
def rK:TF
 | [.d (.sl 1 es),.d (.str c)],[]=>match iC es with
  |some l=>if l.length<=140737488355328/\(Lib.join l c).length<=140737488355328 then some (.d (.str (Lib.join l c)),[]) else none
  |none=>none
 |_,_=>none
noncomputable def xL:List (Nat×TF):=[(17,rK),(26,tc),(25,BE)]
noncomputable def xB:CF:=Ew xL
structure Ey(w0:World):Prop where
 t:True
theorem Ey.zero{w0:World}(h:Ey w0):Ey {w0 with drawn:=0} where
 t:=trivial
section
variable{w0:World}
theorem BI{F:Nat->Prop}{w:World}{G:Nat->Value}{R:List (Nat×En)}{v:Value}{s:List UInt8}(h:ak F w G R v (.d (.str s))):v= .string ⟨⟨s⟩⟩:=ak.aW (p:= .d (.str s)) h rfl
theorem lO: ∀(es:List D) (l:List (List UInt8)),iC es=some l->es=l.map D.str
 | [],l,h=>by simp[iC] at h;subst h;rfl
 |x::es,l,h=>by
  cases x<;>try (simp[iC] at h;done)
  rename_i s;simp only[iC] at h;split at h
  next l' hl=>simp at h;subst h;rw[lO es l' hl];rfl
  cases h
theorem xO:Ex Try.prog w0 17 rK:=by
 intro h0 ps R p R1 h F G w vs hH hl hv;unfold rK at h;split at h
 next es c=>
  split at h
  next l vM=>
   have vM:=lO es l vM;subst vM;split at h
   ·rename_i hc;simp only[zae,zaV] at h;obtain⟨rfl,rfl⟩:=h
    match vs,hl,hv with
    | [v,u],_,hv=>
     have h1:=hv 0 v _ rfl rfl;have e2:u= .string ⟨⟨c⟩⟩:=BI (hv 1 u _ rfl rfl);subst e2;refine vr h0 hH (enters Try.func17 (by kernel_rfl) (by kernel_rfl) _ w) ?_;cases h1 with
     |d h1=>
      generalize vM:l.map D.str=es at h1;cases h1 with
      |uu a k cap=>
       have:l=[]:=by simpa using vM
       subst this;exact(Try.strings_Join_none a cap ⟨⟨c⟩⟩ w).mono λe w' ⟨he,hb⟩=>⟨_,he,hb▸Below.refl _ _,λF G=> .d (.str _)⟩
      |vG b off k cap es f j9 hb hk aQ hw hr=>
       subst vM;have hj:=Try.strings_Join b off cap (l.map λx=>⟨⟨x⟩⟩) ⟨⟨c⟩⟩ w (λj x hx=>by
        rw[zao] at hx;cases hi:l[j]? with
        |none=>rw[hi] at hx;cases hx
        |some s=>rw[hi] at hx;cases hx;have Ah:j<l.length:=(zaa.1 hi).1;rw[hw j (by simpa using Ah)];have:=hr j 0 (.str s) (.str s) (by rw[zao,hi];rfl) rfl;simp only[zbY,zbb] at this;rw[this.cm rfl]) (hH.gQ b hb) (by simpa using hc.1) (by simpa using j9) (by simpa [zbt] using hc.2)
       simp only[zar] at hj⊢;have e:(List.map (λx=>x.data.toList) (List.map (λx=>(⟨⟨x⟩⟩:ByteArray)) l))=l:=by simp[zbt]
       rw[e] at hj;exact hj.mono λe w' ⟨he,hb⟩=>⟨_,he,hb,λF G=> .d (.str _)⟩
   cases h
  cases h
 cases h
theorem Dt{w1:World}(IA:Ey w1):jc Try.prog {w1 with drawn:=0} xB:=by have hw:=IA.zero;exact vu.ok rfl (.cons xO (.cons vv (.cons zI .nil)))
end
end Pi
namespace Pi
open Go Go.Proofs
set_option maxRecDepth 100000
set_option maxHeartbeats 0
structure XF where
 cf:CF
 eq: ∀f,dQ f FW=true-> ∀ps R,cf f ps R=xB f ps R
abbrev Ct(X:XF):rS:=⟨me,Cr,X.cf⟩
def yv(f id:Nat):Nat:=match lk BH f with |some l=>(lk l id).getD 2 |none=>2
theorem zJ:hY yv 0 Try.prog.funcs.toList=true:=by kernel_rfl
noncomputable abbrev PR:=Try.prog
noncomputable def dx(H:List (FuncId×eY))(hk:List (Nat×(S->K (PX×S))))(f id:Nat)(s:S):K (PX×S):=
 mq (ca PR (runK PR Ds yv H 60 60) (me f) hk (yv f) 60 (da PR f id)) (me f id) s
noncomputable def gD(H:List (FuncId×eY))(hk:List (Nat×(S->K (PX×S))))(f:Nat)(ps:List P)(R:List (Nat×En)):K (P×List (Nat×En)):=
 fE PR (runK PR Ds yv H 60 60) Ds hk yv 60 f ps R
def FD(X:XF)(f:Nat)(h:eY):Prop:=yu PR (Ct X) f h
def HD(X:XF)(H:List (FuncId×eY)):Prop:=s6 PR (Ct X) H
def LD(X:XF)(f id:Nat)(g:S->K (PX×S)):Prop:= ∀s,KW (g s) (λx=>Ev λa b=>dk (aP PR (cW PR (Ct X) a b) (me f) a (da PR f id)) (me f id) a s=some x)
theorem HD.nil{X:XF}:HD X []:=s6.nil
theorem HD.cons{X:XF}{f:Nat}{h:eY}{H:List (FuncId×eY)}(hf:FD X f h)(hH:HD X H):HD X ((f,h)::H):=s6.cons hf hH
inductive Au(X:XF)(f:Nat):List (Nat×(S->K (PX×S)))->Prop
 |nil:Au X f []
 |cons {id:Nat} {g:S->K (PX×S)} {r:List (Nat×(S->K (PX×S)))} (h:LD X f id g) (hr:Au X f r):Au X f ((id,g)::r)
theorem Au.get{X:XF}{f:Nat}{hk:List (Nat×(S->K (PX×S)))}(h:Au X f hk): ∀id g,lk hk id=some g->LD X f id g:=by
 induction h with
 |nil=>exact ub
 |cons h hr ih=>exact zD h ih
theorem FD.mk{X:XF}{H:List (FuncId×eY)}{hk:List (Nat×(S->K (PX×S)))}{f:Nat}{h:eY}(hu:uniq PR f=true)(hH:HD X H)(hl:Au X f hk)(hb: ∀ps R ae,h ps R ae->gD H hk f ps R ae):FD X f h:=
 yu.mk zJ hH hu hl.get (λps R ae hp=>by have:=hb ps R ae hp;unfold gD at this;rw[qa PR me Cr _ X.cf yv H 60 60] at this;exact this)
theorem LD.par{X:XF}{H:List (FuncId×eY)}{hk:List (Nat×(S->K (PX×S)))}{f id:Nat}{g:S->K (PX×S)}(hu:uniq PR f=true)(hc:dY (yv f) (da PR f id)=true)(hH:HD X H)(hl:Au X f hk)
  {A B:Type} (hd:A->B->S) (Inv:A->B->Prop) (mu:A->B->Nat) (Out:A->PX×S->Prop)
  (hr: ∀a b,Inv a b->dx H hk f id (hd a b) (roundPost (mu a b) (λm s=> ∃b',s=hd a b'/\Inv a b'/\m=mu a b') (Out a)))
  (hg: ∀s ae,g s ae-> ∃a b,s=hd a b/\Inv a b/\ ∀x,Out a x->ae x):LD X f id (bQ (me f id) g):=by
 refine lM λs0 ae hp=> ?_;obtain⟨a,b,rfl,h1,h2⟩:=hg s0 ae hp;obtain⟨x,g1,g2⟩:=zu (keep:=me f id) (kp1:=me f) (O:=Out a) zJ hH hc (λd hd h hh=>by have:=hl.get _ _ hh;unfold LD at this;rwa [oT hu hd] at this) (I:=λm s=> ∃b',s=hd a b'/\Inv a b'/\m=mu a b') (λn s hs=>by obtain⟨b',rfl,h3,rfl⟩:=hs;have:=hr a b' h3;unfold dx at this;rw[qa PR me Cr _ X.cf yv H 60 60] at this;exact this) (mu a b) (hd a b) ⟨b,rfl,h1,rfl⟩;exact⟨x,g2,h2 x g1⟩
theorem FD.FI{X:XF}{f:Nat}{fn:Func}{h:eY}(jD:PR.funcs[f]?=some fn)(hx:dQ f Cr=true)(IB:dQ f FW=true)(hb: ∀ps R ae,h ps R ae-> ∃x,xB f ps R=some x/\ae x):FD X f h:=
 yu.FI jD hx λps R ae hp=>by obtain⟨x,h1,h2⟩:=hb ps R ae hp;exact⟨x,by rw[<-h1];exact X.eq f IB ps R,h2⟩
theorem FD.run{X:XF}{f:Nat}{h:eY}(hf:FD X f h){ps:List P}{R:List (Nat×En)}{y:P×List (Nat×En)}(hp:h ps R (λx=>x=y)): ∃lf k,cW PR (Ct X) lf k f ps R=some y:=by obtain⟨x,h1,h2⟩:=hf ps R _ hp;subst h2;exact h1.some
def FC(f:Nat)(h:eY):Prop:=yu PR Ds f h
def HC(H:List (FuncId×eY)):Prop:=s6 PR Ds H
theorem HC.nil:HC []:=s6.nil
theorem HC.cons{f:Nat}{h:eY}{H:List (FuncId×eY)}(hf:FC f h)(hH:HC H):HC ((f,h)::H):=s6.cons hf hH
theorem FC.mk{H:List (FuncId×eY)}{f:Nat}{h:eY}(hu:uniq PR f=true)(hH:HC H)(hb: ∀ps R ae,h ps R ae->gD H [] f ps R ae):FC f h:=
 yu.mk zJ hH hu ub hb
noncomputable def xP:XF:=⟨xB,λ_ _ _ _=>rfl⟩
def nB(z:Nat):Nat->List UInt8->List (List UInt8)
 |0,_=>[]
 |f+1,s=>if s=[] then [] else s.take z::nB z f (s.drop z)
def chunk(z:Nat)(s:List UInt8):List (List UInt8):=nB z s.length s
theorem iE{z:Nat}(hz:0<z): ∀(n m:Nat) (s:List UInt8),s.length<=n->s.length<=m->nB z n s=nB z m s
 |0,0,_,_,_=>rfl
 |0,m+1,s,h,_=>by have:s=[]:=zap (by omega);subst this;rfl
 |n+1,0,s,_,h=>by have:s=[]:=zap (by omega);subst this;rfl
 |n+1,m+1,s,h1,h2=>by
  unfold nB;split
  ·rfl
  rename_i bY;have hl:0<s.length:=zaJ.2 bY;rw[iE hz n m _ (by rw[zaC];omega) (by rw[zaC];omega)]
theorem oZ(z:Nat):chunk z []=[]:=rfl
theorem eW{z:Nat}(hz:0<z){s:List UInt8}(h:s≠[]):chunk z s=s.take z::chunk z (s.drop z):=by have hl:0<s.length:=zaJ.2 h;unfold chunk;rw[iE hz s.length ((s.length-1)+1) s (zaf _) (by omega)];show(if s=[] then [] else _)=_;rw[zav h,iE hz (s.length-1) (s.drop z).length _ (by rw[zaC];omega) (zaf _)]
theorem fO{z:Nat}(hz:0<z){P:List UInt8->Prop}(h0:P [])(h1: ∀s,s≠[]->P (s.drop z)->P s): ∀(n:Nat) (s:List UInt8),s.length<=n->P s
 |0,s,h=>by have:s=[]:=zap (by omega);subst this;exact h0
 |n+1,s,h=>by
  by_cases hs:s=[]
  ·subst hs;exact h0
  have hl:0<s.length:=zaJ.2 hs;exact h1 s hs (fO hz h0 h1 n _ (by rw[zaC];omega))
theorem nC{z:Nat}(hz:0<z)(s:List UInt8):(chunk z s).flatten=s:=
 fO hz (P:=λs=>(chunk z s).flatten=s) rfl (λs hs ih=>by rw[eW hz hs,List.flatten_cons,ih,zbz]) _ s (zaf _)
theorem rL{z:Nat}(hz:0<z)(s:List UInt8): ∀p∈chunk z s,p≠[]:=
 fO hz (P:=λs=> ∀p∈chunk z s,p≠[]) (λp hp=>by cases hp) (λs hs ih p hp=>by
  rw[eW hz hs] at hp;rcases zaw.1 hp with rfl |hp
  ·intro e;have:=congrArg List.length e;have hl:0<s.length:=zaJ.2 hs;rw[za1,zbB] at this;omega
  exact ih p hp) _ s (zaf _)
theorem rM{z:Nat}(hz:0<z)(s:List UInt8): ∀p∈chunk z s,p.length<=s.length:=
 fO hz (P:=λs=> ∀p∈chunk z s,p.length<=s.length) (λp hp=>by cases hp) (λs hs ih p hp=>by
  rw[eW hz hs] at hp;rcases zaw.1 hp with rfl |hp
  ·rw[za1];exact Nat.min_le_right _ _
  have:=ih p hp;rw[zaC] at this;omega) _ s (zaf _)
theorem kV{z:Nat}(hz:0<z)(s:List UInt8)(h:s≠[]):(chunk z s).length=(s.length-1)/z+1:=by
 refine fO hz (P:=λs=>s≠[]->(chunk z s).length=(s.length-1)/z+1) (λh=>absurd rfl h) (λs hs ih _=> ?_) _ s (zaf _) h;have hl:0<s.length:=zaJ.2 hs;rw[eW hz hs,zbx];by_cases hd:s.drop z=[]
 ·have:s.length<=z:=by have:=congrArg List.length hd;rw[zaC,zbB] at this;omega
  rw[hd,oZ,zbB,Nat.div_eq_of_lt (by omega)]
 have h1:z<s.length:=by refine Nat.lt_of_not_le λhle=>hd (zaM hle)
 rw[ih hd,zaC,show s.length-1=(s.length-z-1)+z by omega,Nat.add_div_right _ hz]
abbrev bx:=Int×Int×Int×Int×List UInt8
def cT(a n q:Int)(ps:List (List UInt8)):List bx:=ps.zipIdx.map λp=>(a,n,(p.2:Int),q,p.1)
theorem aZ(a n q:Int)(ps:List (List UInt8)):(cT a n q ps).length=ps.length:=by simp[cT]
theorem xQ(a n q:Int)(ps:List (List UInt8))(p:List UInt8):cT a n q (ps++[p])=cT a n q ps++[(a,n,(ps.length:Int),q,p)]:=by simp[cT,List.zipIdx_append]
theorem zK(a n q:Int)(ps:List (List UInt8))(i:Nat):(cT a n q ps)[i]?=(ps[i]?).map λp=>(a,n,(i:Int),q,p):=by simp only[cT,zao,List.getElem?_zipIdx,Option.map_map,zbc];rfl
abbrev iD(n:Int):P:= .d (.int .i64 n)
abbrev sD(s:List UInt8):P:= .d (.str s)
def kW(x:bx):D:= .agg [.int .i64 x.1,.int .i64 x.2.1,.int .i64 x.2.2.1,.int .i64 x.2.2.2.1,.str x.2.2.2.2]
abbrev jf(z:Bool)(l:List bx):Obj:= .arr 37 z (l.map kW)
abbrev FY(a n:Int)(s:List UInt8)(z:Int)(o:List bx):S:=⟨72,[(0,iD a),(1,iD n),(2,sD s),(3,iD z),(10,.sl 0 0 o.length)],[(0,⟨0,none,jf false o⟩)]⟩
abbrev zL(o:List bx):S:=⟨72,[(10,.sl 0 0 o.length)],[(0,⟨0,none,jf false o⟩)]⟩
def BJ:S->K (PX×S):=λst ae=> ∃a n s z,st=FY a n s z []/\(1<=z/\s.length<=1000000/\(chunk z.toNat s).length<=1000)/\ ∀o,o=cT a n 0 (chunk z.toNat s)->ae (.exit 1,zL o)
def Zb(o:List bx):En:=En.mk 0 none (Obj.arr (37:TypeId) false (List.map kW o))
def Zc(o:List bx):Nat×En:=(0,Zb o)
def Zd(o:List bx):List (Nat×En):=[Zc o]
def Z2(o:List bx):Nat:=List.length o
def Za(o:List bx):Nat×P:=(10,P.sl 0 0 (Z2 o))
def Z9(o:List bx):List D:=List.take (Z2 o) (List.map kW o)
def Z3(a:Int):D:=D.int .i64 a
def Z8(z:Int):Nat×P:=(3,P.d (Z3 z))
def Z0(s:List UInt8):Int:=(↑(List.length s):Int)
def Z7(n:Int):Nat×P:=(1,P.d (Z3 n))
def Z6(a:Int):Nat×P:=(0,P.d (Z3 a))
def Z4(o:List bx):D:=D.int .i64 (↑(Z2 o):Int)
def Z5(a:Int)(n:Int)(o:List bx)(z:Int)(s:List UInt8):List D:=[D.agg [Z3 a,Z3 n,Z4 o,D.int .i64 (0:Int),D.str (List.drop 0 (List.take (Int.toNat (min z (Z0 s))) s))]]
def Z1(z:Int)(s:List UInt8):Bool:=decide ((0:Int)<=min z (Z0 s)/\min z (Z0 s)<=Z0 s)
theorem Du(a n:Int)(s:List UInt8)(z:Int)(o:List bx)(ae:PX×S->Prop):(bif !s==[] then ob (Z1 z s) (ob (Nat.ble (Z2 o) (List.length (List.map kW o))&&eD (Z2 o+List.length (Z5 a n o z s)) 48) (ob (Z1 z s) (ae (PX.normal,S.mk 72 [Z6 a,Z7 n,(2,P.d (D.str (List.drop (Int.toNat (min z (Z0 s))) (List.take (List.length s) s)))),Z8 z,(10,P.sl 0 0 (Z2 o+List.length (Z5 a n o z s)))] [(0,En.mk 0 none (Obj.arr (37:TypeId) false (Z9 o++Z5 a n o z s)))])))) else ae (PX.exit 1,S.mk 72 [Za o] (Zd o)))=(dx [] [] 9 8 (FY a n s z o)) ae:=by kernel_rfl
abbrev BK(o:List bx)(m i:Int):S:=⟨72,[(10,.sl 0 0 o.length),(60,iD m),(61,iD i)],[(0,⟨0,none,jf false o⟩)]⟩
def Zg(i:Int):Nat:=Int.toNat i
def Zi(o:List bx)(i:Int):D:=D.nth (List.map kW o) (Zg i)
def Zo(o:List bx)(i:Int):List UInt8:=D.j7 (D.nG (Zi o i) 4)
def Zp(o:List bx)(i:Int):D:=D.agg [D.int .i64 (D.hT (D.nG (Zi o i) 0)),D.int .i64 (D.hT (D.nG (Zi o i) 1)),D.int .i64 (D.hT (D.nG (Zi o i) 2)),D.int .i64 (D.hT (D.nG (Zi o i) 3)),D.str (Zo o i)]
def Zn(i:Int):P:=P.d (D.int .i64 (i+(1:Int)))
def Zl:Int:=(9223372036854775807:Int)
def Zk:Int:=(-9223372036854775808:Int)
def Zm(i:Int):Bool:=decide (Zk<=i+(1:Int)/\i+(1:Int)<=Zl)
noncomputable def Zj(o:List bx)(i:Int):Bool:=ur PR (37:TypeId) (Zi o i)
def Zh(i:Int)(o:List bx):Bool:=decide (Zg i<List.length (List.map kW o))
def Zf(i:Int)(o:List bx):Bool:=decide ((0:Int)<=i/\i<(↑(Z2 o):Int))
def Ze(i:Int)(m:Int):Bool:=decide (i<m)
theorem BL(o:List bx)(m i:Int)(ae:PX×S->Prop):(bif Ze i m then ob (Zf i o) (ob (Zh i o) (ob (Zj o i) (ob (Zm i) (ae (PX.normal,S.mk 72 [Za o,(60,P.d (Z3 m)),(61,Zn i)] [(0,En.mk 0 none (Obj.arr (37:TypeId) false (List.set (List.map kW o) (Zg i) (D.a8 (Zp o i) [D.int .i64 (D.hT (D.nG (Zi o i) 0)),D.int .i64 (D.hT (D.nG (Zi o i) 1)),D.int .i64 (D.hT (D.nG (Zi o i) 2)),Z4 o,D.str (Zo o i)]))))]))))) else ae (PX.exit 3,S.mk 72 [Za o] (Zd o)))=(dx [] [] 9 13 (BK o m i)) ae:=by kernel_rfl
def gq(N:Int)(i:Nat)(l:List bx):List bx:=(l.take i).map (λx=>(x.1,x.2.1,x.2.2.1,N,x.2.2.2.2))++l.drop i
def xR:S->K (PX×S):=λst ae=> ∃o,st=BK o o.length 0/\o.length<=1000/\ ∀o',o'=gq o.length o.length o->ae (.exit 3,zL o')
def fb(a n:Int)(s:List UInt8)(z:Int):Int:=if a<1\/16<a\/n<0\/z<1 then 1 else if s=[] then 10 else if 1000<=(s.length-1)/z.toNat then 2 else 0
def tf(a n:Int)(s:List UInt8)(z:Int):List bx:=cT a n (chunk z.toNat s).length (chunk z.toNat s)
def BM:eY:=λps R ae=> ∃a n s z,ps=[iD a,iD n,sD s,iD z]/\R=[]/\(s.length<=1000000/\z<=9223372036854775807)/\(∀e,e=fb a n s z->e≠0->ae (.dX [.sl 0 0 0,iD e],[(0,⟨0,none,jf false []⟩)]))/\(fb a n s z=0-> ∀l,l=tf a n s z->ae (.dX [.sl 0 0 l.length,iD 0],[(0,⟨0,none,jf false l⟩)]))
def ZD:P:=P.d (D.int .i64 (0:Int))
def ZF(ae:P×List (Nat×En)->Prop)(o':List bx):Prop:=ae (P.dX [P.sl 0 0 (Z2 o'),ZD],Zd o')
def ZE(zM:List bx):S:=S.mk 72 [Za zM,(60,P.d (Z4 zM)),(61,ZD)] (Zd zM)
def Zu:En:=En.mk 0 none (Obj.arr (37:TypeId) false [])
def Zv:List (Nat×En):=[(0,Zu)]
def Zr:P:=P.sl 0 0 0
def ZB(aX:List UInt8):Nat×P:=(2,P.d (D.str aX))
def ZC(fB:Int)(Cu:Int)(aX:List UInt8)(qn:Int):S:=S.mk 72 [Z6 fB,Z7 Cu,ZB aX,Z8 qn,(10,Zr)] Zv
def ZA(ae:P×List (Nat×En)->Prop):Prop:=ae (P.dX [Zr,P.d (D.int .i64 (2:Int))],Zv)
def Zz(s:List UInt8)(z:Int):Bool:=decide (Zk<=Int.tdiv (Z0 s-(1:Int)) z/\Int.tdiv (Z0 s-(1:Int)) z<=Zl)
def Zy(s:List UInt8):Bool:=decide (Zk<=Z0 s-(1:Int)/\Z0 s-(1:Int)<=Zl)
def Zx(ae:P×List (Nat×En)->Prop):Prop:=ae (P.dX [Zr,P.d (D.int .i64 (10:Int))],Zv)
def Zs:D:=D.int .i64 (1:Int)
def Zt:List P:=[P.d Zs]
def Zw(ae:P×List (Nat×En)->Prop):Prop:=ae (P.dX (Zr::Zt),Zv)
def Zq(a:Int):Bool:=decide (a<(1:Int))
theorem Dv(a n:Int)(s:List UInt8)(z:Int)(ae:P×List (Nat×En)->Prop):(bif Zq a then Zw ae else bif decide (a>(16:Int)) then Zw ae else bif decide (n<(0:Int)) then Zw ae else bif Zq z then Zw ae else bif s==[] then Zx ae else ob (Zy s) (ob (!decide (z=(0:Int))) (ob (Zz s z) (bif decide (Int.tdiv (Z0 s-(1:Int)) z>=(1000:Int)) then ZA ae else∃(fB:Int) (Cu:Int) (aX:List UInt8) (qn:Int),ZC a n s z=ZC fB Cu aX qn/\((1:Int)<=qn/\List.length aX<=1000000/\List.length (chunk (Zg qn) aX)<=1000)/\ ∀(o:List bx),o=cT fB Cu (0:Int) (chunk (Zg qn) aX)-> ∃(zM:List bx),ZE o=ZE zM/\Z2 zM<=1000/\ ∀(o':List bx),o'=gq (↑(Z2 zM):Int) (Z2 zM) zM->ZF ae o'))))=(gD [] [(8,bQ (me 9 8) BJ),(13,bQ (me 9 13) xR)] 9 [iD a,iD n,sD s,iD z] []) ae:=by kernel_rfl
def ZK:P:=P.d (D.bool false)
def ZO(ae:P×List (Nat×En)->Prop):Prop:=ae (P.d (D.bool true),[])
def ZM(ae:P×List (Nat×En)->Prop):Prop:=ae (ZK,[])
def tg:eY:=λps R ae=>ps=[]/\R=[]/\ae (.d (.bool true),[])
def ZT(aX:List UInt8)(qn:Int):Prop:=List.length aX<=1000000/\qn<=Zl
def ZR(qn:Int):List P:=[P.d (Z3 qn)]
def ZS(fB:Int)(Cu:Int)(aX:List UInt8)(qn:Int):List P:=P.d (Z3 fB)::P.d (Z3 Cu)::P.d (D.str aX)::ZR qn
def ZQ:Prop:=Iq [] []
def ZP:Prop:=Ip [] []
def dV:eY:=λps R ae=> ∃l c,ps=[.d (.sl 1 (l.map D.str)),sD c]/\R=[]/\(l.length<=1000000/\(Lib.join l c).length<=1000000)/\ae (sD (Lib.join l c),[])
def ZX(l:List (List UInt8))(c:List UInt8):Prop:=List.length l<=1000000/\List.length (Lib.join l c)<=1000000
def ZY:P:=P.d (D.str [])
theorem BN(ae:P×List (Nat×En)->Prop):(∃(l:List (List UInt8)) (c:List UInt8),[P.d (D.sl 1 [D.str [(97:UInt8),(98:UInt8)],D.str [(99:UInt8),(100:UInt8)],D.str [(101:UInt8)]]),ZY]=[P.d (D.sl 1 (List.map D.str l)),P.d (D.str c)]/\ZQ/\ZX l c/\bif Lib.join l c==[(97:UInt8),(98:UInt8),(99:UInt8),(100:UInt8),(101:UInt8)] then ZO ae else ZM ae)=(gD [(17,dV)] [] 8 [] []) ae:=by kernel_rfl
abbrev de(a n:Int):D:= .agg [.int .i64 a,.int .i64 n]
abbrev qo(o d:Nat):Obj:= .box 53 [.mp o 0,.mp d 0]
abbrev o0(r k:Nat)(c:Int):Obj:= .box 61 [.sl r 0 k,iD c]
abbrev rX(l:List (List UInt8)):Obj:= .arr 9 false (l.map D.str)
abbrev Cv(get:D->Option D)(c:Int):List (Nat×En):=[(0,⟨0,some 0,qo 1 2⟩),(1,⟨0,some 1,.aN 58 []⟩),(2,⟨0,some 2,.map 58 get c false⟩)]
abbrev yw(a n:Int)(ps:List (List UInt8))(m:Int)(get:D->Option D)(c:Int):List (Nat×En):=[(0,⟨0,some 0,qo 1 4⟩),(1,⟨0,some 1,.aN 58 [(de a n,.ref 2 0 0)]⟩),(2,⟨0,some 2,o0 3 ps.length m⟩),(3,⟨0,some 3,rX ps⟩),(4,⟨0,some 4,.map 58 get c false⟩)]
abbrev vO(a n p q:Int)(s:List UInt8):P:= .d (.agg [.int .i64 a,.int .i64 n,.int .i64 p,.int .i64 q,.str s])
def ti(a:Int)(n:Int):D:=D.agg [Z3 a,Z3 n]
def Av(a:Int)(n:Int)(get:D->Option D)(c:Int):Obj:=Obj.map 58 (λ(k':D)=>bif D.dh (ti a n) k' then some (D.agg []) else get k') (bif Option.isSome (get (ti a n)) then c else c+(1:Int)) false
def Aw:Nat×En:=(1,En.mk 0 (some 1) (Obj.aN 58 []))
def rY(l:List (List UInt8))(bz:List UInt8):P:=P.dX [P.d (D.str (Lib.join l bz)),P.d (D.bool true),ZD]
def BO(q:Int):List D:=List.replicate (Zg q) (D.str [])
def Ax(q:Int)(p:Int)(s:List UInt8):List D:=List.set (BO q) (Zg p) (D.a8 (D.str (D.j7 (D.nth (BO q) (Zg p)))) [D.str s])
def yx(q:Int)(p:Int)(s:List UInt8):List P:=[P.d (D.sl 1 (List.take (Zg q) (Ax q p s))),ZY]
def zN(a:Int)(n:Int):Bool:=D.dh (ti a n) (ti a n)
def FZ(q:Int):Nat×En:=(3,En.mk 0 none (Obj.box (61:TypeId) (P.sl 4 0 (Zg q)::Zt)))
def Ez(get:D->Option D)(c:Int):Nat×En:=(2,En.mk 0 (some 2) (Obj.map 58 get c false))
def F4(a:Int)(n:Int):Nat×En:=(1,En.mk 0 (some 1) (Obj.aN 58 [(ti a n,P.ref 3 0 0)]))
def BP:Nat×En:=(0,En.mk 0 (some 0) (Obj.box (53:TypeId) [P.mp 1 0,P.mp 2 0]))
def vP:P:=P.dX [ZY,ZK,ZD]
def BQ(q:Int):Bool:=decide ((0:Int)+(1:Int)<q)
noncomputable def BR(q:Int)(p:Int):Bool:=ur PR (9:TypeId) (D.nth (BO q) (Zg p))
def BS(p:Int)(q:Int):Bool:=decide (Zg p<List.length (BO q))
def BT(p:Int)(q:Int):Bool:=decide ((0:Int)<=p/\p<(↑(Zg q):Int))
def Cw(q:Int):Bool:=decide ((0:Int)<=q/\q<=q/\q<=Zl/\(16:Int)*q<=(281474976710656:Int))
def zO(get:D->Option D)(c:Int):List (Nat×En):=[BP,Aw,Ez get c]
def vw:P:=P.dX [ZY,ZK,P.d (D.int .i64 (210:Int))]
def zR:P:=P.dX [ZY,ZK,P.d (D.int .i64 (11:Int))]
def zS(ae:P×List (Nat×En)->Prop)(get:D->Option D)(c:Int):Prop:=ae (zR,zO get c)
def yy(s:List UInt8):Bool:= !!s==[]
def yz(q:Int):Bool:=decide (q<=(1000:Int))
def vQ(n:Int):Bool:=decide (n>=(0:Int))
def ZZ(a:Int):Bool:=decide (a>=(1:Int))
theorem Dw(a n p q:Int)(s:List UInt8)(get:D->Option D)(c:Int)(ae:P×List (Nat×En)->Prop):(bif ZZ a then bif decide (a<=(16:Int)) then bif vQ n then bif ZZ q then bif yz q then bif vQ p then bif Ze p q then bif yy s then zS ae get c else ob (ur PR (62:TypeId) (fk (get (ti a n)) (D.agg []))) (bif Option.isSome (get (ti a n)) then ae (vw,zO get c) else ob (Cw q) (ob (BT p q) (ob (BS p q) (ob (BR q p) (bif BQ q then ae (vP,[BP,F4 a n,Ez get c,FZ q,(4,En.mk 0 none (Obj.arr (9:TypeId) false (Ax q p s)))]) else bif zN a n then∃(l:List (List UInt8)) (bz:List UInt8),yx q p s=[P.d (D.sl 1 (List.map D.str l)),P.d (D.str bz)]/\ZQ/\ZX l bz/\ae (rY l bz,[BP,Aw,(2,En.mk 0 (some 2) (Av a n get c))]) else∃(l:List (List UInt8)) (bz:List UInt8),yx q p s=[P.d (D.sl 1 (List.map D.str l)),P.d (D.str bz)]/\ZQ/\ZX l bz/\ae (rY l bz,[BP,F4 a n,(2,En.mk 0 (some 2) (Av a n get c)),FZ q,(4,En.mk 0 none (Obj.arr (9:TypeId) true (Ax q p s)))])))))) else zS ae get c else zS ae get c else zS ae get c else zS ae get c else zS ae get c else zS ae get c else zS ae get c)=(gD [(17,dV)] [] 13 [.ref 0 0 0,vO a n p q s] (Cv get c)) ae:=by kernel_rfl
def EA(q:Int):Nat×En:=(5,En.mk 0 none (Obj.box (61:TypeId) (P.sl 6 0 (Zg q)::Zt)))
def vz(ps:List (List UInt8)):Obj:=Obj.arr (9:TypeId) false (List.map D.str ps)
def qd(ps:List (List UInt8)):Nat×En:=(3,En.mk 0 (some 3) (vz ps))
def qe(ps:List (List UInt8))(m:Int):Nat×En:=(2,En.mk 0 (some 2) (Obj.box (61:TypeId) (P.sl 3 0 (List.length ps)::ZR m)))
def F5(ps:List (List UInt8))(m:Int)(a:Int)(n:Int)(get:D->Option D)(c:Int)(q:Int)(p:Int)(s:List UInt8):List (Nat×En):=[qe ps m,qd ps,(4,En.mk 0 (some 4) (Av a n get c)),EA q,(6,En.mk 0 none (Obj.arr (9:TypeId) true (Ax q p s)))]
def rN:P:=P.ref 2 0 0
def F6(a:Int)(n:Int):Nat×En:=(1,En.mk 0 (some 1) (Obj.aN 58 [(ti a n,rN),(ti a n,P.ref 5 0 0)]))
def F7(a:Int)(n:Int):Nat×En:=(1,En.mk 0 (some 1) (Obj.aN 58 [(ti a n,P.ref 5 0 0)]))
def jg:Nat×En:=(0,En.mk 0 (some 0) (Obj.box (53:TypeId) [P.mp 1 0,P.mp 4 0]))
def F8(q:Int)(p:Int)(s:List UInt8)(ae:P×List (Nat×En)->Prop)(a:Int)(n:Int)(ps:List (List UInt8))(m:Int)(get:D->Option D)(c:Int):Prop:= ∃(l:List (List UInt8)) (bz:List UInt8),yx q p s=[P.d (D.sl 1 (List.map D.str l)),P.d (D.str bz)]/\ZQ/\ZX l bz/\ae (rY l bz,jg::F7 a n::F5 ps m a n get c q p s)
def xS(get:D->Option D)(c:Int):Nat×En:=(4,En.mk 0 (some 4) (Obj.map 58 get c false))
def Dx(ps:List (List UInt8))(m:Int)(get:D->Option D)(c:Int)(q:Int)(p:Int)(s:List UInt8):List (Nat×En):=[qe ps m,qd ps,xS get c,EA q,(6,En.mk 0 none (Obj.arr (9:TypeId) false (Ax q p s)))]
def yA(ps:List (List UInt8))(p:Int)(s:List UInt8):List D:=List.set (List.map D.str ps) (Zg p) (D.a8 (D.str (D.j7 (D.nth (List.map D.str ps) (Zg p)))) [D.str s])
def vR(m:Int):List P:=[Zn m]
def Cx(ps:List (List UInt8))(m:Int):Nat×En:=(2,En.mk 0 (some 2) (Obj.box (61:TypeId) (P.sl 3 0 (List.length ps)::vR m)))
def F9(ps:List (List UInt8))(m:Int)(p:Int)(s:List UInt8)(a:Int)(n:Int)(get:D->Option D)(c:Int):List (Nat×En):=[Cx ps m,(3,En.mk 0 (some 3) (Obj.arr (9:TypeId) true (yA ps p s))),(4,En.mk 0 (some 4) (Av a n get c))]
def BU(ps:List (List UInt8))(p:Int)(s:List UInt8):List P:=[P.d (D.sl 1 (List.take (List.length ps) (yA ps p s))),ZY]
def Cy(ps:List (List UInt8))(p:Int):Bool:= !D.j7 (D.nth (List.map D.str ps) (Zg p))==[]
noncomputable def zT(ps:List (List UInt8))(p:Int):Bool:=ur PR (9:TypeId) (D.nth (List.map D.str ps) (Zg p))
def zU(p:Int)(ps:List (List UInt8)):Bool:=decide (Zg p<List.length (List.map D.str ps))
def rZ(ps:List (List UInt8)):Int:=(↑(List.length ps):Int)
def zV(p:Int)(ps:List (List UInt8)):Bool:=decide ((0:Int)<=p/\p<rZ ps)
def qp(ps:List (List UInt8))(m:Int)(get:D->Option D)(c:Int):List (Nat×En):=[qe ps m,qd ps,xS get c]
def BV(a:Int)(n:Int):Nat×En:=(1,En.mk 0 (some 1) (Obj.aN 58 [(ti a n,rN)]))
def yB(ae:P×List (Nat×En)->Prop)(a:Int)(n:Int)(ps:List (List UInt8))(m:Int)(get:D->Option D)(c:Int):Prop:=ae (zR,jg::BV a n::qp ps m get c)
theorem Dy(a n p q:Int)(s:List UInt8)(ps:List (List UInt8))(m:Int)(get:D->Option D)(c:Int)(ae:P×List (Nat×En)->Prop):(bif ZZ a then bif decide (a<=(16:Int)) then bif vQ n then bif ZZ q then bif yz q then bif vQ p then bif Ze p q then bif yy s then yB ae a n ps m get c else ob (ur PR (62:TypeId) (fk (get (ti a n)) (D.agg []))) (bif Option.isSome (get (ti a n)) then ae (vw,jg::BV a n::qp ps m get c) else bif zN a n then bif rZ ps !=q then yB ae a n ps m get c else ob (zV p ps) (ob (zU p ps) (ob (zT ps p) (bif Cy ps p then ae (vw,jg::BV a n::qp ps m get c) else ob (zV p ps) (ob (zU p ps) (ob (zT ps p) (ob (Zm m) (bif decide (m+(1:Int)<q) then ae (vP,[jg,BV a n,Cx ps m,(3,En.mk 0 (some 3) (Obj.arr (9:TypeId) false (yA ps p s))),xS get c]) else bif zN a n then∃(l:List (List UInt8)) (bz:List UInt8),BU ps p s=[P.d (D.sl 1 (List.map D.str l)),P.d (D.str bz)]/\ZQ/\ZX l bz/\ae (rY l bz,jg::Aw::F9 ps m p s a n get c) else∃(l:List (List UInt8)) (bz:List UInt8),BU ps p s=[P.d (D.sl 1 (List.map D.str l)),P.d (D.str bz)]/\ZQ/\ZX l bz/\ae (rY l bz,jg::BV a n::F9 ps m p s a n get c)))))))) else ob (Cw q) (bif zN a n then ob (BT p q) (ob (BS p q) (ob (BR q p) (bif BQ q then ae (vP,jg::F7 a n::Dx ps m get c q p s) else bif zN a n then∃(l:List (List UInt8)) (bz:List UInt8),yx q p s=[P.d (D.sl 1 (List.map D.str l)),P.d (D.str bz)]/\ZQ/\ZX l bz/\ae (rY l bz,[jg,Aw,qe ps m,qd ps,(4,En.mk 0 (some 4) (Av a n get c))]) else F8 q p s ae a n ps m get c))) else ob (BT p q) (ob (BS p q) (ob (BR q p) (bif BQ q then ae (vP,jg::F6 a n::Dx ps m get c q p s) else bif zN a n then F8 q p s ae a n ps m get c else bif zN a n then∃(l:List (List UInt8)) (bz:List UInt8),yx q p s=[P.d (D.sl 1 (List.map D.str l)),P.d (D.str bz)]/\ZQ/\ZX l bz/\ae (rY l bz,[jg,BV a n,qe ps m,qd ps,(4,En.mk 0 (some 4) (Av a n get c))]) else∃(l:List (List UInt8)) (bz:List UInt8),yx q p s=[P.d (D.sl 1 (List.map D.str l)),P.d (D.str bz)]/\ZQ/\ZX l bz/\ae (rY l bz,jg::F6 a n::F5 ps m a n get c q p s)))))) else yB ae a n ps m get c else yB ae a n ps m get c else yB ae a n ps m get c else yB ae a n ps m get c else yB ae a n ps m get c else yB ae a n ps m get c else yB ae a n ps m get c)=(gD [(17,dV)] [] 13 [.ref 0 0 0,vO a n p q s] (yw a n ps m get c)) ae:=by kernel_rfl
def eX(a n p q:Int)(s:List UInt8):Prop:=(1<=a/\a<=16/\0<=n)/\(1<=q/\q<=1000/\0<=p/\p<q)/\s≠[]/\s.length<=100000
def cj(get:D->Option D):Prop:= ∀k,fk (get k) (.agg [])= .agg []
abbrev r0(s:List UInt8)(b:Bool)(e:Int):P:= .dX [sD s,.d (.bool b),iD e]
def Dz:eY:=λps R ae=> ∃a n p q s get c,ps=[.ref 0 0 0,vO a n p q s]/\R=Cv get c/\(eX a n p q s/\cj get)/\((get (de a n)).isSome=true->ae (r0 [] false 210,Cv get c))/\
 ((get (de a n)).isSome=false->q≠1->ae (r0 [] false 0,[(0,⟨0,some 0,qo 1 2⟩),(1,⟨0,some 1,.aN 58 [(de a n,.ref 3 0 0)]⟩),(2,⟨0,some 2,.map 58 get c false⟩),(3,⟨0,none,o0 4 q.toNat 1⟩),(4,⟨0,none,rX ((List.replicate q.toNat []).set p.toNat s)⟩)]))/\
 ((get (de a n)).isSome=false->q=1-> ∀get',cj get'->(∀x,(get' x).isSome=(D.dh (de a n) x || (get x).isSome))->ae (r0 s true 0,Cv get' (c+1)))
def DA:eY:=λps R ae=> ∃a n p q s l m get c,ps=[.ref 0 0 0,vO a n p q s]/\R=yw a n l m get c/\((eX a n p q s/\cj get/\(get (de a n)).isSome=false)/\(l.length:Int)=q/\0<=m/\m<q/\(Lib.join (l.set p.toNat s) []).length<=1000000)/\(l.getD p.toNat []≠[]->ae (r0 [] false 210,yw a n l m get c))/\
 (l.getD p.toNat []=[]->m+1<q->ae (r0 [] false 0,yw a n (l.set p.toNat s) (m+1) get c))/\
 (l.getD p.toNat []=[]-> ¬m+1<q-> ∀get',cj get'->(∀x,(get' x).isSome=(D.dh (de a n) x || (get x).isSome))->ae (r0 (Lib.join (l.set p.toNat s) []) true 0,[(0,⟨0,some 0,qo 1 4⟩),(1,⟨0,some 1,.aN 58 []⟩),(2,⟨0,some 2,o0 3 l.length (m+1)⟩),(3,⟨0,some 3,.arr 9 true ((l.set p.toNat s).map D.str)⟩),(4,⟨0,some 4,.map 58 get' (c+1) false⟩)]))
def Ha:eY:=λps R ae=>match R.length with |3=>Dz ps R ae |5=>DA ps R ae |_=>False
def xT:eY:=λps R ae=>ps=[]/\R=[]/\ae (.ref 0 0 0,[(0,⟨0,none,qo 1 2⟩),(1,⟨0,none,.aN 58 []⟩),(2,⟨0,none,.map 58 (λ_=>none) 0 false⟩)])
def kX(l:List bx):Nat×P:=(8,P.sl 0 0 (Z2 l))
def gJ:Nat×P:=(7,P.d (D.bool true))
def gL(s:List UInt8):Nat×P:=(0,P.d (D.str s))
def BW:Nat:=9223372036854775807
def mf(i:Int)(l:List bx):Bool:=decide (i<(↑(Z2 l):Int))
abbrev Ay(ps:List (List UInt8))(m:Int)(qs:List (List UInt8))(k:Int)(get:D->Option D)(c:Int):List (Nat×En):=[(0,⟨0,some 0,qo 1 6⟩),(1,⟨0,some 1,.aN 58 [(de 1 1,.ref 2 0 0),(de 2 1,.ref 4 0 0)]⟩),(2,⟨0,some 2,o0 3 ps.length m⟩),(3,⟨0,some 3,rX ps⟩),(4,⟨0,some 4,o0 5 qs.length k⟩),(5,⟨0,some 5,rX qs⟩),(6,⟨0,some 6,.map 58 get c false⟩)]
def tj:D:=D.agg [D.int .i64 (2:Int),Zs]
def EB(get:D->Option D)(c:Int):Obj:=Obj.map 58 (λ(k':D)=>bif D.dh tj k' then some (D.agg []) else get k') (bif Option.isSome (get tj) then c else c+(1:Int)) false
def uf:D:=D.agg [Zs,Zs]
def yC:Nat×En:=(1,En.mk 0 (some 1) (Obj.aN 58 [(uf,rN)]))
def Cz(ae:P×List (Nat×En)->Prop)(ps:List (List UInt8))(m:Int)(get:D->Option D)(c:Int):Prop:=ae (zR,jg::yC::qp ps m get c)
theorem DB(p q:Int)(s:List UInt8)(ps:List (List UInt8))(m:Int)(get:D->Option D)(c:Int)(ae:P×List (Nat×En)->Prop):(bif ZZ q then bif yz q then bif vQ p then bif Ze p q then bif yy s then Cz ae ps m get c else ob (ur PR (62:TypeId) (fk (get tj) (D.agg []))) (bif Option.isSome (get tj) then ae (vw,jg::yC::qp ps m get c) else ob (Cw q) (ob (BT p q) (ob (BS p q) (ob (BR q p) (bif BQ q then ae (vP,jg::(1,En.mk 0 (some 1) (Obj.aN 58 [(uf,rN),(tj,P.ref 5 0 0)]))::Dx ps m get c q p s) else∃(l:List (List UInt8)) (bz:List UInt8),yx q p s=[P.d (D.sl 1 (List.map D.str l)),P.d (D.str bz)]/\ZQ/\ZX l bz/\ae (rY l bz,[jg,yC,qe ps m,qd ps,(4,En.mk 0 (some 4) (EB get c))])))))) else Cz ae ps m get c else Cz ae ps m get c else Cz ae ps m get c else Cz ae ps m get c)=(gD [(17,dV)] [] 13 [.ref 0 0 0,vO 2 1 p q s] (yw 1 1 ps m get c)) ae:=by kernel_rfl
def DC(qs:List (List UInt8))(k:Int):Nat×En:=(4,En.mk 0 (some 4) (Obj.box (61:TypeId) (P.sl 5 0 (List.length qs)::ZR k)))
def CA:List (D×P):=[(tj,P.ref 4 0 0)]
def CB(get:D->Option D)(c:Int):List (Nat×En):=[(6,En.mk 0 (some 6) (Obj.map 58 get c false))]
def BX(qs:List (List UInt8))(k:Int)(get:D->Option D)(c:Int):List (Nat×En):=DC qs k::(5,En.mk 0 (some 5) (vz qs))::CB get c
def zW:Nat×En:=(1,En.mk 0 (some 1) (Obj.aN 58 ((uf,rN)::CA)))
def xU:Nat×En:=(0,En.mk 0 (some 0) (Obj.box (53:TypeId) [P.mp 1 0,P.mp 6 0]))
def qq(ps:List (List UInt8))(m:Int)(qs:List (List UInt8))(k:Int)(get:D->Option D)(c:Int):List (Nat×En):=xU::zW::qe ps m::qd ps::BX qs k get c
def ug(ae:P×List (Nat×En)->Prop)(ps:List (List UInt8))(m:Int)(qs:List (List UInt8))(k:Int)(get:D->Option D)(c:Int):Prop:=ae (zR,qq ps m qs k get c)
theorem DE(p q:Int)(s:List UInt8)(ps:List (List UInt8))(m:Int)(qs:List (List UInt8))(k:Int)(get:D->Option D)(c:Int)(ae:P×List (Nat×En)->Prop):(bif ZZ q then bif yz q then bif vQ p then bif Ze p q then bif yy s then ug ae ps m qs k get c else ob (ur PR (62:TypeId) (fk (get uf) (D.agg []))) (bif Option.isSome (get uf) then ae (vw,qq ps m qs k get c) else bif rZ ps !=q then ug ae ps m qs k get c else ob (zV p ps) (ob (zU p ps) (ob (zT ps p) (bif Cy ps p then ae (vw,qq ps m qs k get c) else ob (zV p ps) (ob (zU p ps) (ob (zT ps p) (ob (Zm m) (bif decide (m+(1:Int)<q) then ae (vP,xU::zW::Cx ps m::(3,En.mk 0 (some 3) (Obj.arr (9:TypeId) false (yA ps p s)))::BX qs k get c) else∃(l:List (List UInt8)) (bz:List UInt8),BU ps p s=[P.d (D.sl 1 (List.map D.str l)),P.d (D.str bz)]/\ZQ/\ZX l bz/\ae (rY l bz,[xU,(1,En.mk 0 (some 1) (Obj.aN 58 CA)),Cx ps m,(3,En.mk 0 (some 3) (Obj.arr (9:TypeId) true (yA ps p s))),DC qs k,(5,En.mk 0 (some 5) (vz qs)),(6,En.mk 0 (some 6) (Obj.map 58 (λ(k':D)=>bif D.dh uf k' then some (D.agg []) else get k') (bif Option.isSome (get uf) then c else c+(1:Int)) false))]))))))))) else ug ae ps m qs k get c else ug ae ps m qs k get c else ug ae ps m qs k get c else ug ae ps m qs k get c)=(gD [(17,dV)] [] 13 [.ref 0 0 0,vO 1 1 p q s] (Ay ps m qs k get c)) ae:=by kernel_rfl
def Ga(qs:List (List UInt8))(k:Int):Nat×En:=(4,En.mk 0 (some 4) (Obj.box (61:TypeId) (P.sl 5 0 (List.length qs)::vR k)))
theorem DF(p q:Int)(s:List UInt8)(ps:List (List UInt8))(m:Int)(qs:List (List UInt8))(k:Int)(get:D->Option D)(c:Int)(ae:P×List (Nat×En)->Prop):(bif ZZ q then bif yz q then bif vQ p then bif Ze p q then bif yy s then ug ae ps m qs k get c else ob (ur PR (62:TypeId) (fk (get tj) (D.agg []))) (bif Option.isSome (get tj) then ae (vw,qq ps m qs k get c) else bif rZ qs !=q then ug ae ps m qs k get c else ob (zV p qs) (ob (zU p qs) (ob (zT qs p) (bif Cy qs p then ae (vw,qq ps m qs k get c) else ob (zV p qs) (ob (zU p qs) (ob (zT qs p) (ob (Zm k) (bif decide (k+(1:Int)<q) then ae (vP,xU::zW::qe ps m::qd ps::Ga qs k::(5,En.mk 0 (some 5) (Obj.arr (9:TypeId) false (yA qs p s)))::CB get c) else∃(l:List (List UInt8)) (bz:List UInt8),BU qs p s=[P.d (D.sl 1 (List.map D.str l)),P.d (D.str bz)]/\ZQ/\ZX l bz/\ae (rY l bz,[xU,yC,qe ps m,qd ps,Ga qs k,(5,En.mk 0 (some 5) (Obj.arr (9:TypeId) true (yA qs p s))),(6,En.mk 0 (some 6) (EB get c))]))))))))) else ug ae ps m qs k get c else ug ae ps m qs k get c else ug ae ps m qs k get c else ug ae ps m qs k get c)=(gD [(17,dV)] [] 13 [.ref 0 0 0,vO 2 1 p q s] (Ay ps m qs k get c)) ae:=by kernel_rfl
theorem aA{p:Prop}{i:Decidable p}{A:Prop}(h1:p)(h2:A):cond (@decide p i) A False:=by rw[zbr h1];exact h2
theorem br{p:Prop}{i:Decidable p}{A B:Prop}(h1:p->A)(h2: ¬p->B):cond (@decide p i) A B:=by
 by_cases h:p
 ·rw[zbr h];exact h1 h
 rw[zaK h];exact h2 h
theorem bV{p:Prop}{i:Decidable p}{A B:Prop}(h1:p)(h2:A):cond (@decide p i) A B:=by rw[zbr h1];exact h2
theorem qf(x:bx):ur PR 37 (kW x)=true:=by obtain⟨a,b,c,d,e⟩:=x;kernel_rfl
theorem jQ{l:List bx}{i:Nat}(h:i<l.length):D.nth (l.map kW) i=kW l[i]:=by unfold D.nth;simp[zai,h]
theorem zX(l:List bx):List.take l.length (l.map kW)=l.map kW:=zaA (by simp)
section
variable{X:XF}
theorem zY:LD X 9 8 (bQ (me 9 8) BJ):=LD.par (H:=[]) (hk:=[]) (by kernel_rfl) (by kernel_rfl) .nil .nil
 (A:=Int×Int×Int×List UInt8) (B:=List UInt8×List (List UInt8)) (λa b=>FY a.1 a.2.1 b.1 a.2.2.1 (cT a.1 a.2.1 0 b.2))
 (λa b=>(1<=a.2.2.1/\a.2.2.2.length<=1000000/\(chunk a.2.2.1.toNat a.2.2.2).length<=1000)/\b.2++chunk a.2.2.1.toNat b.1=chunk a.2.2.1.toNat a.2.2.2/\b.1.length<=1000000)
 (λ_ b=>b.1.length)
 (λa x=>x=(.exit 1,zL (cT a.1 a.2.1 0 (chunk a.2.2.1.toNat a.2.2.2))))
 (by
  rintro⟨a,n,z,s0⟩ ⟨s,ps⟩ ⟨⟨hz,xH,hc⟩,hp,hs⟩;dsimp only at*
  (rw[<-Du];delta Zb Zc Zd Z2 Za Z9 Z3 Z8 Z0 Z7 Z6 Z4 Z5 Z1)
  refine oX (λh=> ?_) λh=> ?_
  ·have bY:s≠[]:=λe=>by subst e;simp at h
   have hl:0<s.length:=zaJ.2 bY;have e1:List.drop (Int.toNat (min z (s.length:Int))) (List.take s.length s)=s.drop z.toNat:=by
    rw[zbT];by_cases wS:z<=s.length
    ·rw[Int.min_eq_left wS]
    rw[Int.min_eq_right (by omega),zaM (by simp),zaM (by omega)]
   have e2:List.drop 0 (List.take (Int.toNat (min z (s.length:Int))) s)=s.take z.toNat:=by
    rw[zb2];by_cases wS:z<=s.length
    ·rw[Int.min_eq_left wS]
    rw[Int.min_eq_right (by omega),zaA (by simp),zaA (by omega)]
   rw[e1,e2];have Hb:(ps++[s.take z.toNat])++chunk z.toNat (s.drop z.toNat)=chunk z.toNat s0:=by rw[<-hp,eW (by omega) bY,za7,List.singleton_append]
   have A0:ps.length+1<=1000:=by have:=congrArg List.length Hb;simp only[zaG,List.length_singleton] at this;omega
   have fH:List.take (cT a n 0 ps).length ((cT a n 0 ps).map kW)++[D.agg [D.int IntKind.i64 a,D.int IntKind.i64 n,D.int IntKind.i64 ((cT a n 0 ps).length:Int),D.int IntKind.i64 0,D.str (s.take z.toNat)]]=(cT a n 0 (ps++[s.take z.toNat])).map kW:=by rw[zX,xQ,zbn,aZ];rfl
   rw[fH];have hlen:(cT a n 0 ps).length+[D.agg [D.int IntKind.i64 a,D.int IntKind.i64 n,D.int IntKind.i64 ((cT a n 0 ps).length:Int),D.int IntKind.i64 0,D.str (s.take z.toNat)]].length=(cT a n 0 (ps++[s.take z.toNat])).length:=by rw[aZ,aZ,zaG];rfl
   rw[hlen];refine aA ⟨by omega,by omega⟩ (ez ?_ (aA ⟨by omega,by omega⟩ ?_))
   ·rw[zar,aZ,aZ,zaG,List.length_singleton];simp only[eD,zac,zbd];omega
   refine⟨_,?_,(s.drop z.toNat,ps++[s.take z.toNat]),rfl,⟨⟨hz,xH,hc⟩,Hb,?_⟩,rfl⟩
   ·rw[zaC];omega
   dsimp only;rw[zaC];omega
  have bY:s=[]:=by simpa using h
  subst bY;rw[oZ,zbZ] at hp;rw[<-hp];rfl)
 (by rintro st ae ⟨a,n,s,z,rfl,hc,hp⟩;refine⟨(a,n,z,s),(s,[]),rfl,⟨hc,rfl,hc.2.1⟩,?_⟩;rintro x rfl;exact hp _ rfl)
theorem fP(N:Int)(i:Nat)(l:List bx):(gq N i l).length=l.length:=by simp only[gq,zaG,zar,za1,zaC];omega
theorem xV(N:Int){i:Nat}{l:List bx}(h:i<l.length):(gq N i l)[i]'(by rw[fP];exact h)=l[i]:=by
 have hl:((l.take i).map (λx:bx=>((x.1,x.2.1,x.2.2.1,N,x.2.2.2.2):bx))).length=i:=by rw[zar,za1];omega
 simp only[gq];rw[List.getElem_append_right (by omega)];have:min i l.length=i:=by omega
 simp[this]
theorem vA(N:Int){i:Nat}{l:List bx}(h:i<l.length):(gq N i l).set i (l[i].1,l[i].2.1,l[i].2.2.1,N,l[i].2.2.2.2)=gq N (i+1) l:=by
 have hl:((l.take i).map (λx:bx=>((x.1,x.2.1,x.2.2.1,N,x.2.2.2.2):bx))).length=i:=by rw[zar,za1];omega
 simp only[gq];rw[List.set_append_right _ _ (by omega),hl,Nat.sub_self,zbq h,zbI,zbM h,zbn,za7];rfl
theorem xW(a n:Int)(ps:List (List UInt8)):gq (ps.length:Int) ps.length (cT a n 0 ps)=cT a n ps.length ps:=by unfold gq;rw[zaA (by rw[aZ];exact zaf _),zaM (by rw[aZ];exact zaf _),zbZ];simp[cT]
theorem xX:LD X 9 13 (bQ (me 9 13) xR):=LD.par (H:=[]) (hk:=[]) (by kernel_rfl) (by kernel_rfl) .nil .nil
 (A:=List bx) (B:=Int) (λo i=>BK (gq o.length i.toNat o) o.length i)
 (λo i=>o.length<=1000/\0<=i/\i<=o.length)
 (λo i=>(o.length-i).toNat)
 (λo x=>x=(.exit 3,zL (gq o.length o.length o)))
 (by
  rintro o i ⟨hm,h0,h1⟩
  (rw[<-BL];delta Zb Zc Zd Zg Zi Zo Z2 Z4 Zp Zn Z3 Za Zl Zk Zm Zj Zh Zf Ze)
  refine br (λh=> ?_) λh=> ?_
  ·have hi:i.toNat<o.length:=by omega
   have Es:i.toNat<(gq o.length i.toNat o).length:=by rw[fP];exact hi
   rw[jQ Es,xV _ hi];generalize hy:o[i.toNat]=y;have fH:List.set ((gq o.length i.toNat o).map kW) i.toNat (D.a8 (D.agg [D.int IntKind.i64 (D.hT (D.nG (kW y) 0)),D.int IntKind.i64 (D.hT (D.nG (kW y) 1)),D.int IntKind.i64 (D.hT (D.nG (kW y) 2)),D.int IntKind.i64 (D.hT (D.nG (kW y) 3)),D.str (D.j7 (D.nG (kW y) 4))]) [D.int IntKind.i64 (D.hT (D.nG (kW y) 0)),D.int IntKind.i64 (D.hT (D.nG (kW y) 1)),D.int IntKind.i64 (D.hT (D.nG (kW y) 2)),D.int IntKind.i64 ((gq o.length i.toNat o).length:Int),D.str (D.j7 (D.nG (kW y) 4))])=(gq o.length (i+1).toNat o).map kW:=by
    have e:(i+1).toNat=i.toNat+1:=by omega
    rw[e,<-vA _ hi,zbp,hy,fP];rfl
   rw[fH];refine aA ⟨h0,by rw[fP];omega⟩ (aA (by rw[zar];exact Es) (ez (qf y) (aA (by omega) ?_)));have hl:(gq o.length i.toNat o).length=(gq o.length (i+1).toNat o).length:=by rw[fP,fP]
   rw[hl];exact⟨_,by omega,i+1,rfl,⟨hm,by omega,by omega⟩,rfl⟩
  have e:i.toNat=o.length:=by omega
  rw[e];rfl)
 (by rintro st ae ⟨o,rfl,hm,hp⟩;refine⟨o,0,rfl,⟨hm,Int.le_refl 0,by omega⟩,?_⟩;rintro x rfl;exact hp _ rfl)
theorem nD{a n:Int}{s:List UInt8}{z:Int}(h:fb a n s z=0):(1<=a/\a<=16/\0<=n/\1<=z)/\s≠[]/\(s.length-1)/z.toNat<1000/\(chunk z.toNat s).length=(s.length-1)/z.toNat+1:=by
 unfold fb at h;split at h
 ·cases h
 split at h
 ·cases h
 rename_i h1 h2;split at h
 ·cases h
 exact⟨by omega,h2,by omega,kV (by omega) s h2⟩
theorem xY{s:List UInt8}{z:Int}(hs:s≠[])(hz:1<=z):Int.tdiv ((s.length:Int)-1) z=((s.length-1)/z.toNat:Nat):=by
 have hl:0<s.length:=zaJ.2 hs;have e1:((s.length:Int)-1)=((s.length-1:Nat):Int):=by omega
 have e2:z=(z.toNat:Int):=by omega
 rw[e1]
 conv=>lhs;rw[e2]
 exact(Int.ofNat_tdiv _ _).symm
theorem DG:FD X 9 BM:=FD.mk (H:=[]) (hk:=[(8,bQ (me 9 8) BJ),(13,bQ (me 9 13) xR)]) (by kernel_rfl) .nil (.cons zY (.cons xX .nil)) (by
 intro ps R ae hh;obtain⟨a,n,s,z,rfl,rfl,⟨hs,I7⟩,h1,h2⟩:=hh
 (rw[<-Dv];delta Zb Zc Zd ZD Z2 ZF Z4 Za ZE Zg Zu Zv Zr Z3 Z8 ZB Z7 Z6 ZC ZA Z0 Zl Zk Zz Zy Zx Zs Zt Zw Zq)
 have bad: ∀e:Int,fb a n s z=e->e≠0->ae (P.dX [P.sl 0 0 0,iD e],[(0,⟨0,none,jf false []⟩)]):=λe he bY=>h1 e he.symm bY;refine br (λg=>bad 1 (by unfold fb;rw[zat (.inl g)]) (by decide)) λg1=>br (λg=>bad 1 (by unfold fb;rw[zat (.inr (.inl (by omega)))]) (by decide)) λg2=>br (λg=>bad 1 (by unfold fb;rw[zat (.inr (.inr (.inl g)))]) (by decide)) λg3=>br (λg=>bad 1 (by unfold fb;rw[zat (.inr (.inr (.inr g)))]) (by decide)) λg4=> ?_;have hn: ¬(a<1\/16<a\/n<0\/z<1):=by omega
 refine oX (λg=>bad 10 (by unfold fb;rw[zav hn,zat (by simpa using g)]) (by decide)) λg5=> ?_;have bY:s≠[]:=by simpa using g5
 have hl:0<s.length:=zaJ.2 bY;have I8:(s.length-1)/z.toNat<=s.length-1:=Nat.div_le_self _ _;have I9:(0:Int)<=((s.length-1:Nat):Int)/(z.toNat:Int):=Int.ediv_nonneg (Int.natCast_nonneg _) (Int.natCast_nonneg _);rw[xY bY (by omega)];refine aA (by omega) (ez (by simp;omega) (aA (by omega) (br (λg=>bad 2 (by unfold fb;rw[zav hn,zav bY,zat (by omega)]) (by decide)) λg6=> ?_)));have h0:fb a n s z=0:=by unfold fb;rw[zav hn,zav bY,zav (by omega)]
 obtain⟨_,_,c1,c2⟩:=nD h0;refine⟨a,n,s,z,rfl,⟨by omega,hs,by omega⟩,λo ho=>⟨o,rfl,by rw[ho,aZ];omega,λo' pV=>h2 h0 o' ?_⟩⟩;rw[pV,ho,aZ];exact xW a n _)
end
theorem lP: ∀l:List (List UInt8),iC (l.map D.str)=some l
 | []=>rfl
 |x::l=>by simp[iC,lP l]
section
variable{X:XF}
theorem ky:FD X 17 dV:=FD.FI Try.func17 (by kernel_rfl) (by kernel_rfl) (by intro ps R ae hh;obtain⟨l,c,rfl,rfl,hc,hp⟩:=hh;refine⟨_,?_,hp⟩;show rK [.d (.sl 1 (l.map D.str)),.d (.str c)] []=_;unfold rK;simp only[lP];exact zat ⟨by omega,by omega⟩)
theorem vB:FD X 8 tg:=FD.mk (H:=[(17,dV)]) (hk:=[]) (by kernel_rfl) (.cons ky .nil) .nil (by
 intro ps R ae hh;obtain⟨rfl,rfl,hp⟩:=hh
 (rw[<-BN];delta ZK ZM ZO ZX ZQ ZY)
 exact⟨[[97,98],[99,100],[101]],[],rfl,rfl,⟨by decide,by decide⟩,ua (by decide) hp⟩)
theorem rO{a n:Int}{s:List UInt8}{z:Int}(h:fb a n s z=0):(tf a n s z).length<=1000:=by obtain⟨_,_,h1,h2⟩:=nD h;unfold tf;rw[aZ];omega
end
theorem isUnit:ur PR 62 (.agg [])=true:=by kernel_rfl
theorem iF(s:List UInt8):ur PR 9 (.str s)=true:=by kernel_rfl
theorem qg(l:List (List UInt8)){i:Nat}(h:i<l.length):D.nth (l.map D.str) i=D.str (l.getD i []):=by unfold D.nth;simp[zai,h]
theorem uh{n i:Nat}(h:i<n):D.nth (List.replicate n (D.str [])) i=D.str []:=by unfold D.nth;simp[zai,h]
theorem nE(x:D):D.dh x x=true:=(D.cH x x).2 rfl
theorem iG{get:D->Option D}(h:cj get)(k:D):cj (λk'=>bif D.dh k k' then some (.agg []) else get k')/\ ∀x,((λk'=>bif D.dh k k' then some (.agg []) else get k') x).isSome=(D.dh k x || (get x).isSome):=by
 refine⟨λx=> ?_,λx=> ?_⟩
 ·have:=h x;cases hb:D.dh k x with
  |true=>simp only[hb,zbs];rfl
  |false=>simp only[hb,zbl];exact this
 cases hb:D.dh k x<;>simp[hb]
section
variable{X:XF}
theorem DH:FD X 13 Ha:=FD.mk (H:=[(17,dV)]) (hk:=[]) (by kernel_rfl) (.cons ky .nil) .nil (by
 intro ps R ae hh;unfold Ha at hh;split at hh
 ·obtain⟨a,n,p,q,s,get,c,ep,er,⟨⟨⟨a1,a2,n0⟩,⟨q1,q2,p0,p1⟩,hs,lu⟩,hU⟩,h1,h2,h3⟩:=hh
  (rw[ep,er,<-Dw];delta Z3 ti Av Aw ZD rY ZX ZQ ZY Zg BO Ax yx zN Zs Zt FZ Ez F4 BP ZK vP BQ BR BS BT Zl Cw zO vw zR zS yy Ze yz vQ ZZ)
  have hN:p.toNat<q.toNat:=by omega
  have hk:=hU (de a n);rw[uh hN,hk];have fH:List.set (List.replicate q.toNat (D.str [])) p.toNat (D.a8 (D.str (D.j7 (D.str []))) [D.str s])=((List.replicate q.toNat ([]:List UInt8)).set p.toNat s).map D.str:=by rw[zbp,List.map_replicate];rfl
  rw[fH];refine bV a1 (bV a2 (bV n0 (bV q1 (bV q2 (bV p0 (bV p1 (bw (by simpa using hs) (ez isUnit (oX (λg=>h1 g) λg=> ?_)))))))));refine aA (by omega) (aA (by omega) (aA (by rw[zax];exact hN) (ez (iF []) (br (λg1=>h2 g (by omega)) λg1=>ua (nE _) ?_))));have e1:q=1:=by omega
  have e2:p=0:=by omega
  subst e1;subst e2;refine⟨[s],[],rfl,rfl,⟨by simp,by simp[Lib.join,List.intercalate];omega⟩,?_⟩;have ej:Lib.join [s] []=s:=by simp[Lib.join,List.intercalate]
  rw[ej,g];have:=iG hU (de a n);exact h3 g rfl _ this.1 this.2
 ·obtain⟨a,n,p,q,s,l,m,get,c,ep,er,⟨⟨⟨⟨a1,a2,n0⟩,⟨q1,q2,p0,p1⟩,hs,lu⟩,hU,hg⟩,hl,Hc,rV,hj⟩,h1,h2,h3⟩:=hh
  (rw[ep,er,<-Dy];delta Zg BO Ax Zs Zt EA Z3 ti Av vz qd ZR qe F5 rN F6 F7 jg ZD rY ZX ZQ ZY yx F8 xS Dx BQ BR BS BT Zl Cw yA Zn vR Cx F9 Aw BU ZK vP Zk Zm Cy zT zU rZ zV zN qp BV vw zR yB yy Ze yz vQ ZZ)
  have hN:p.toNat<l.length:=by omega
  have hk:=hU (de a n);rw[qg l hN,hk];have fH:List.set (l.map D.str) p.toNat (D.a8 (D.str (D.j7 (D.str (l.getD p.toNat [])))) [D.str s])=(l.set p.toNat s).map D.str:=by rw[zbp];rfl
  rw[fH,hg];have bY:((l.length:Int) !=q)=false:=by rw[hl];simp
  have h0:((l.length:Int)=q):=hl;refine bV a1 (bV a2 (bV n0 (bV q1 (bV q2 (bV p0 (bV p1 (bw (by simpa using hs) (ez isUnit (bw rfl (ua (nE _) (bw bY ?_)))))))))));refine aA (by omega) (aA (by rw[zar];exact hN) (ez (iF _) (oX (λg=>h1 (by simpa [D.j7] using g)) λg=> ?_)));have g0:l.getD p.toNat []=[]:=by simpa [D.j7] using g
  refine aA (by omega) (aA (by rw[zar];exact hN) (ez (iF _) (aA (by omega) (br (λg1=> ?_) λg1=>ua (nE _) ?_))))
  ·have:=h2 g0 g1;simp only[yw,zas] at this;exact this
  refine⟨l.set p.toNat s,[],?_,rfl,⟨by rw[zas];omega,hj⟩,?_⟩
  ·rw[zaA (by simp)]
  have:=iG hU (de a n);exact h3 g0 g1 _ this.1 this.2
 exact hh.elim)
end
def DI:eY:=λps R ae=> ∃p q s l m get c,ps=[.ref 0 0 0,vO 2 1 p q s]/\R=yw 1 1 l m get c/\(eX 2 1 p q s/\cj get/\(get (de 2 1)).isSome=false)/\
 (q≠1->ae (r0 [] false 0,[(0,⟨0,some 0,qo 1 4⟩),(1,⟨0,some 1,.aN 58 [(de 1 1,.ref 2 0 0),(de 2 1,.ref 5 0 0)]⟩),(2,⟨0,some 2,o0 3 l.length m⟩),(3,⟨0,some 3,rX l⟩),(4,⟨0,some 4,.map 58 get c false⟩),(5,⟨0,none,o0 6 q.toNat 1⟩),(6,⟨0,none,rX ((List.replicate q.toNat []).set p.toNat s)⟩)]))/\
 (q=1-> ∀get',cj get'->(∀x,(get' x).isSome=(D.dh (de 2 1) x || (get x).isSome))->ae (r0 s true 0,yw 1 1 l m get' (c+1)))
def DJ:eY:=λps R ae=> ∃p q s l m u k get c,ps=[.ref 0 0 0,vO 1 1 p q s]/\R=Ay l m u k get c/\((eX 1 1 p q s/\cj get/\(get (de 1 1)).isSome=false)/\(l.length:Int)=q/\0<=m/\m<q/\(Lib.join (l.set p.toNat s) []).length<=1000000/\l.getD p.toNat []=[])/\
 (m+1<q->ae (r0 [] false 0,Ay (l.set p.toNat s) (m+1) u k get c))/\
 (¬m+1<q-> ∀get',cj get'->(∀x,(get' x).isSome=(D.dh (de 1 1) x || (get x).isSome))->ae (r0 (Lib.join (l.set p.toNat s) []) true 0,[(0,⟨0,some 0,qo 1 6⟩),(1,⟨0,some 1,.aN 58 [(de 2 1,.ref 4 0 0)]⟩),(2,⟨0,some 2,o0 3 l.length (m+1)⟩),(3,⟨0,some 3,.arr 9 true ((l.set p.toNat s).map D.str)⟩),(4,⟨0,some 4,o0 5 u.length k⟩),(5,⟨0,some 5,rX u⟩),(6,⟨0,some 6,.map 58 get' (c+1) false⟩)]))
def DK:eY:=λps R ae=> ∃p q s u k l m get c,ps=[.ref 0 0 0,vO 2 1 p q s]/\R=Ay u k l m get c/\((eX 2 1 p q s/\cj get/\(get (de 2 1)).isSome=false)/\(l.length:Int)=q/\0<=m/\m<q/\(Lib.join (l.set p.toNat s) []).length<=1000000/\l.getD p.toNat []=[])/\
 (m+1<q->ae (r0 [] false 0,Ay u k (l.set p.toNat s) (m+1) get c))/\
 (¬m+1<q-> ∀get',cj get'->(∀x,(get' x).isSome=(D.dh (de 2 1) x || (get x).isSome))->ae (r0 (Lib.join (l.set p.toNat s) []) true 0,[(0,⟨0,some 0,qo 1 6⟩),(1,⟨0,some 1,.aN 58 [(de 1 1,.ref 2 0 0)]⟩),(2,⟨0,some 2,o0 3 u.length k⟩),(3,⟨0,some 3,rX u⟩),(4,⟨0,some 4,o0 5 l.length (m+1)⟩),(5,⟨0,some 5,.arr 9 true ((l.set p.toNat s).map D.str)⟩),(6,⟨0,some 6,.map 58 get' (c+1) false⟩)]))
section
variable{X:XF}
theorem DL:FD X 13 DI:=FD.mk (H:=[(17,dV)]) (hk:=[]) (by kernel_rfl) (.cons ky .nil) .nil (by
 intro ps R ae hh;obtain⟨p,q,s,l,m,get,c,ep,er,⟨⟨⟨a1,a2,n0⟩,⟨q1,q2,p0,p1⟩,hs,lu⟩,hU,hg⟩,h2,h3⟩:=hh
 (rw[ep,er,<-DB];delta Zs tj EB vz qd Z3 ZR qe ZD rY ZX ZQ ZY Zg BO Ax yx Zt EA xS Dx rN uf ZK vP BQ BR BS BT Zl Cw qp yC jg vw zR Cz yy Ze vQ yz ZZ)
 have hN:p.toNat<q.toNat:=by omega
 have hk:=hU (de 2 1);rw[uh hN,hk];have fH:List.set (List.replicate q.toNat (D.str [])) p.toNat (D.a8 (D.str (D.j7 (D.str []))) [D.str s])=((List.replicate q.toNat ([]:List UInt8)).set p.toNat s).map D.str:=by rw[zbp,List.map_replicate];rfl
 rw[fH,hg];refine bV q1 (bV q2 (bV p0 (bV p1 (bw (by simpa using hs) (ez isUnit (bw rfl ?_))))));refine aA (by omega) (aA (by omega) (aA (by rw[zax];exact hN) (ez (iF []) (br (λg1=>h2 (by omega)) λg1=> ?_))));have e1:q=1:=by omega
 have e2:p=0:=by omega
 subst e1;subst e2;refine⟨[s],[],rfl,rfl,⟨by simp,by simp[Lib.join,List.intercalate];omega⟩,?_⟩;have ej:Lib.join [s] []=s:=by simp[Lib.join,List.intercalate]
 rw[ej];have:=iG hU (de 2 1);exact h3 rfl _ this.1 this.2)
theorem DM:FD X 13 DJ:=FD.mk (H:=[(17,dV)]) (hk:=[]) (by kernel_rfl) (.cons ky .nil) .nil (by
 intro ps R ae hh;obtain⟨p,q,s,l,m,u,k,get,c,ep,er,⟨⟨⟨⟨a1,a2,n0⟩,⟨q1,q2,p0,p1⟩,hs,lu⟩,hU,hg⟩,hl,Hc,rV,hj,g0⟩,h2,h3⟩:=hh
 (rw[ep,er,<-DE];delta vz Z3 ZR DC Zs tj CA ZD rY ZX ZQ ZY Zg yA BU CB BX Zn vR Cx rN uf zW xU ZK vP Zl Zk Zm Cy zT zU rZ zV qd qe qq vw zR ug yy Ze vQ yz ZZ)
 have hN:p.toNat<l.length:=by omega
 have hk:=hU (de 1 1);rw[qg l hN,hk,g0];have fH:List.set (l.map D.str) p.toNat (D.a8 (D.str (D.j7 (D.str []))) [D.str s])=(l.set p.toNat s).map D.str:=by rw[zbp];rfl
 rw[fH,hg];have bY:((l.length:Int) !=q)=false:=by rw[hl];simp
 refine bV q1 (bV q2 (bV p0 (bV p1 (bw (by simpa using hs) (ez isUnit (bw rfl (bw bY ?_)))))));refine aA (by omega) (aA (by rw[zar];exact hN) (ez (iF _) (bw rfl ?_)));refine aA (by omega) (aA (by rw[zar];exact hN) (ez (iF _) (aA (by omega) (br (λg1=> ?_) λg1=> ?_))))
 ·have:=h2 g1;simp only[Ay,zas] at this;exact this
 refine⟨l.set p.toNat s,[],?_,rfl,⟨by rw[zas];omega,hj⟩,?_⟩
 ·rw[zaA (by simp)]
 have:=iG hU (de 1 1);exact h3 g1 _ this.1 this.2)
theorem DN:FD X 13 DK:=FD.mk (H:=[(17,dV)]) (hk:=[]) (by kernel_rfl) (.cons ky .nil) .nil (by
 intro ps R ae hh;obtain⟨p,q,s,u,k,l,m,get,c,ep,er,⟨⟨⟨⟨a1,a2,n0⟩,⟨q1,q2,p0,p1⟩,hs,lu⟩,hU,hg⟩,hl,Hc,rV,hj,g0⟩,h2,h3⟩:=hh
 (rw[ep,er,<-DF];delta Zs tj EB rN uf yC ZD rY ZX ZQ ZY Zg yA BU CB Zn vR Ga vz qd Z3 ZR qe CA zW xU ZK vP Zl Zk Zm Cy zT zU rZ zV DC BX qq vw zR ug yy Ze vQ yz ZZ)
 have hN:p.toNat<l.length:=by omega
 have hk:=hU (de 2 1);rw[qg l hN,hk,g0];have fH:List.set (l.map D.str) p.toNat (D.a8 (D.str (D.j7 (D.str []))) [D.str s])=(l.set p.toNat s).map D.str:=by rw[zbp];rfl
 rw[fH,hg];have bY:((l.length:Int) !=q)=false:=by rw[hl];simp
 refine bV q1 (bV q2 (bV p0 (bV p1 (bw (by simpa using hs) (ez isUnit (bw rfl (bw bY ?_)))))));refine aA (by omega) (aA (by rw[zar];exact hN) (ez (iF _) (bw rfl ?_)));refine aA (by omega) (aA (by rw[zar];exact hN) (ez (iF _) (aA (by omega) (br (λg1=> ?_) λg1=> ?_))))
 ·have:=h2 g1;simp only[Ay,zas] at this;exact this
 refine⟨l.set p.toNat s,[],?_,rfl,⟨by rw[zas];omega,hj⟩,?_⟩
 ·rw[zaA (by simp)]
 have:=iG hU (de 2 1);exact h3 g1 _ this.1 this.2)
end
theorem BY(ae:P×List (Nat×En)->Prop):(ae (P.ref 0 0 0,[(0,En.mk 0 none (Obj.box 53 [P.mp 1 0,P.mp 2 0])),(1,En.mk 0 none (Obj.aN 58 [])),(2,En.mk 0 none (Obj.map 58 (λ(_:D)=>none) (0:Int) false))]))=(gD [] [] 12 [] []) ae:=by kernel_rfl
section
variable{X:XF}
theorem BZ:FD X 12 xT:=FD.mk (H:=[]) (hk:=[]) (by kernel_rfl) .nil .nil (by intro ps R ae hh;obtain⟨rfl,rfl,hp⟩:=hh;rw[<-BY];exact hp)
end
theorem xZ{Q:Program}{kp:rS}{dc:Nat->Nat->Nat}{lf:Nat}{c:Code}{hk:List (Nat×(S->K (PX×S)))}{kp1:Nat->Option (List Nat×List Nat)}{Dg:Nat->Nat}{k:Nat}{keep:Option (List Nat×List Nat)}(xE:hY dc 0 Q.funcs.toList=true)(hc:dY Dg c=true)
  (hl: ∀d∈aD c,∀h,lk hk (Code.qC d)=some h->p4 Q (cW Q kp) kp1 d h)
  {I:Nat->S->Prop} {O:PX×S->Prop}
  (hr: ∀n s,I n s-> ∃H,s6 Q kp H/\mq (ca Q (runK Q kp dc H lf k) kp1 hk Dg lf c) keep s (roundPost n I O)):
  ∀n s,I n s-> ∃x,O x/\bb (λa b=>aP Q (cW Q kp a b) kp1 a c) keep s x:=by
 intro n
 induction n using Nat.strongRecOn with
 |_ n ih=>
  intro s hs;obtain⟨H,hH,IC⟩:=hr n s hs;obtain⟨x,h1,h2⟩:=oQ (body:=λa b=>aP Q (cW Q kp a b) kp1 a c) (b9 (mc (iT xE) hH k) c hc hl s) _ IC;obtain⟨e,s2⟩:=x;cases e with
  |normal=>obtain⟨m,hm,hi⟩:=h2;obtain⟨x,ho,hx⟩:=ih m hm s2 hi;exact⟨x,ho,bb.on h1 hx⟩
  |exit id=>exact⟨_,h2,bb.out h1 (by simp)⟩
  |ret=>exact⟨_,h2,bb.out h1 (by simp)⟩
theorem LD.Gb{X:XF}{hk:List (Nat×(S->K (PX×S)))}{f id:Nat}{g:S->K (PX×S)}(hu:uniq PR f=true)(hc:dY (yv f) (da PR f id)=true)(hl:Au X f hk)
  {A B:Type} (hd:A->B->S) (Inv:A->B->Prop) (mu:A->B->Nat) (Out:A->PX×S->Prop)
  (hr: ∀a b,Inv a b-> ∃H,HD X H/\dx H hk f id (hd a b) (roundPost (mu a b) (λm s=> ∃b',s=hd a b'/\Inv a b'/\m=mu a b') (Out a)))
  (hg: ∀s ae,g s ae-> ∃a b,s=hd a b/\Inv a b/\ ∀x,Out a x->ae x):LD X f id (bQ (me f id) g):=by
 refine lM λs0 ae hp=> ?_;obtain⟨a,b,rfl,h1,h2⟩:=hg s0 ae hp;obtain⟨x,g1,g2⟩:=xZ (keep:=me f id) (kp1:=me f) (O:=Out a) zJ hc (λd hd h hh=>by have:=hl.get _ _ hh;unfold LD at this;rwa [oT hu hd] at this) (I:=λm s=> ∃b',s=hd a b'/\Inv a b'/\m=mu a b') (λn s hs=>by obtain⟨b',rfl,h3,rfl⟩:=hs;obtain⟨H,hH,this⟩:=hr a b' h3;unfold dx at this;rw[qa PR me Cr _ X.cf yv H 60 60] at this;exact⟨H,hH,this⟩) (mu a b) (hd a b) ⟨b,rfl,h1,rfl⟩;exact⟨x,g2,h2 x g1⟩
theorem FD.or{X:XF}{f:Nat}{h1 h2:eY}(a:FD X f h1)(b:FD X f h2):FD X f (λps R ae=>h1 ps R ae\/h2 ps R ae):=λps R ae hp=>by
 rcases hp with h |h
 ·exact a ps R ae h
 exact b ps R ae h
abbrev DO(s t:List UInt8)(la lb:Nat)(one two:List UInt8)(i:Int):List (Nat×P):=[(0,sD s),(1,sD t),(7,.d (.bool true)),(8,.sl 0 0 la),(10,.sl 1 0 lb),(12,.ref 2 0 0),(13,sD one),(14,sD two),(15,iD i)]
abbrev EC(s t:List UInt8)(a b:List bx)(one two:List UInt8)(i:Int)(get:D->Option D)(c:Int):S:=⟨140,DO s t a.length b.length one two i,[(0,⟨0,none,jf false a⟩),(1,⟨0,none,jf false b⟩),(2,⟨0,none,qo 3 4⟩),(3,⟨0,none,.aN 58 []⟩),(4,⟨0,none,.map 58 get c false⟩)]⟩
abbrev DP(s t:List UInt8)(a b:List bx)(one two:List UInt8)(i:Int)(w:Int)(ps:List (List UInt8))(m:Int)(get:D->Option D)(c:Int):S:=⟨140,DO s t a.length b.length one two i,[(0,⟨0,none,jf false a⟩),(1,⟨0,none,jf false b⟩),(2,⟨0,none,qo 3 6⟩),(3,⟨0,none,.aN 58 [(de w 1,.ref 4 0 0)]⟩),(4,⟨0,none,o0 5 ps.length m⟩),(5,⟨0,none,rX ps⟩),(6,⟨0,none,.map 58 get c false⟩)]⟩
abbrev Gc(s t:List UInt8)(a b:List bx)(one two:List UInt8)(i:Int)(ps:List (List UInt8))(m:Int)(qs:List (List UInt8))(k:Int)(get:D->Option D)(c:Int):S:=⟨140,DO s t a.length b.length one two i,[(0,⟨0,none,jf false a⟩),(1,⟨0,none,jf false b⟩),(2,⟨0,none,qo 3 8⟩),(3,⟨0,none,.aN 58 [(de 1 1,.ref 4 0 0),(de 2 1,.ref 6 0 0)]⟩),(4,⟨0,none,o0 5 ps.length m⟩),(5,⟨0,none,rX ps⟩),(6,⟨0,none,o0 7 qs.length k⟩),(7,⟨0,none,rX qs⟩),(8,⟨0,none,.map 58 get c false⟩)]⟩
def IE:eY:=λps R ae=> ∃a p q s get c,ps=[.ref 0 0 0,vO a 1 p q s]/\R=Cv get c/\(eX a 1 p q s/\cj get/\(get (de a 1)).isSome=false)/\
 (q≠1->ae (r0 [] false 0,[(0,⟨0,some 0,qo 1 2⟩),(1,⟨0,some 1,.aN 58 [(de a 1,.ref 3 0 0)]⟩),(2,⟨0,some 2,.map 58 get c false⟩),(3,⟨0,none,o0 4 q.toNat 1⟩),(4,⟨0,none,rX ((List.replicate q.toNat []).set p.toNat s)⟩)]))/\
 (q=1-> ∀get',cj get'->(∀x,(get' x).isSome=(D.dh (de a 1) x || (get x).isSome))->ae (r0 s true 0,Cv get' (c+1)))
def Gd:eY:=λps R ae=> ∃a p q s l m get c,ps=[.ref 0 0 0,vO a 1 p q s]/\R=yw a 1 l m get c/\((eX a 1 p q s/\cj get/\(get (de a 1)).isSome=false)/\(l.length:Int)=q/\0<=m/\m<q/\(Lib.join (l.set p.toNat s) []).length<=1000000/\l.getD p.toNat []=[])/\
 (m+1<q->ae (r0 [] false 0,yw a 1 (l.set p.toNat s) (m+1) get c))/\
 (¬m+1<q-> ∀get',cj get'->(∀x,(get' x).isSome=(D.dh (de a 1) x || (get x).isSome))->ae (r0 (Lib.join (l.set p.toNat s) []) true 0,[(0,⟨0,some 0,qo 1 4⟩),(1,⟨0,some 1,.aN 58 []⟩),(2,⟨0,some 2,o0 3 l.length (m+1)⟩),(3,⟨0,some 3,.arr 9 true ((l.set p.toNat s).map D.str)⟩),(4,⟨0,some 4,.map 58 get' (c+1) false⟩)]))
def ED:eY:=λps R ae=>match R.length with |3=>IE ps R ae |5=>DI ps R ae |_=>False
def DQ:eY:=λps R ae=>match R.length with |5=>Gd ps R ae |_=>False
def EE:eY:=λps R ae=>match R.length with |5=>Gd ps R ae |7=>DJ ps R ae\/DK ps R ae |_=>False
section
variable{X:XF}
theorem Ge:FD X 13 ED:=λps R ae hh=>by
 unfold ED at hh;split at hh
 ·obtain⟨a,p,q,s,get,c,ep,er,⟨h0,hU,hg⟩,h2,h3⟩:=hh;refine DH ps R ae ?_;rw[ep,er];refine show Dz _ _ _ from⟨a,1,p,q,s,get,c,rfl,rfl,⟨h0,hU⟩,λh=>absurd (hg.symm.trans h) (by decide),λ_=>h2,λ_=>h3⟩
 ·exact DL ps R ae hh
 exact hh.elim
theorem DR:FD X 13 Gd:=λps R ae hh=>by obtain⟨a,p,q,s,l,m,get,c,ep,er,⟨h0,h1,h2,h3,h4,h5⟩,h6,h7⟩:=hh;refine DH ps R ae ?_;rw[ep,er];exact show DA _ _ _ from⟨a,1,p,q,s,l,m,get,c,rfl,rfl,⟨h0,h1,h2,h3,h4⟩,λh=>absurd h5 h,λ_=>h6,λ_=>h7⟩
theorem DS:FD X 13 DQ:=λps R ae hh=>by
 unfold DQ at hh;split at hh
 ·exact DR ps R ae hh
 exact hh.elim
theorem Gf:FD X 13 EE:=λps R ae hh=>by
 unfold EE at hh;split at hh
 ·exact DR ps R ae hh
 ·rcases hh with h |h
  ·exact DM ps R ae h
  exact DN ps R ae h
 exact hh.elim
end
def x0(two:List UInt8):List (Nat×P):=[(14,P.d (D.str two))]
def vS(one:List UInt8):Nat×P:=(13,P.d (D.str one))
def gM(t:List UInt8):Nat×P:=(1,P.d (D.str t))
def B0(ae:PX×S->Prop)(s:List UInt8)(t:List UInt8)(one:List UInt8)(two:List UInt8):Prop:=ae (PX.exit 0,S.mk 140 (gL s::gM t::gJ::vS one::x0 two) [])
def Az:Nat×En:=(3,En.mk 0 none (Obj.aN 58 []))
def AA:Nat×En:=(2,En.mk 0 none (Obj.box (53:TypeId) [P.mp 3 0,P.mp 4 0]))
def AB(i:Int):List (Nat×P):=[(15,Zn i)]
def yD(two:List UInt8)(i:Int):List (Nat×P):=(14,P.d (D.str two))::AB i
def lQ:Nat×P:=(12,rN)
def kY(b:List bx):Nat×P:=(10,P.sl 1 0 (Z2 b))
def B1(s:List UInt8)(t:List UInt8)(a:List bx)(b:List bx)(one:List UInt8)(two:List UInt8)(i:Int):List (Nat×P):=gL s::gM t::gJ::kX a::kY b::lQ::vS one::yD two i
def AE(two:List UInt8)(i:Int):List (Nat×P):=(14,P.d (D.str (two++[])))::AB i
def AF(s:List UInt8)(t:List UInt8)(a:List bx)(b:List bx)(one:List UInt8)(two:List UInt8)(i:Int):List (Nat×P):=gL s::gM t::gJ::kX a::kY b::lQ::vS one::AE two i
def qt(b:List bx):Nat×En:=(1,Zb b)
def x2(a:List bx)(b:List bx)(get':D->Option D)(c:Int):List (Nat×En):=[Zc a,qt b,AA,Az,(4,En.mk 0 none (Obj.map 58 get' (c+(1:Int)) false))]
def CC(one:List UInt8)(aX:List UInt8):Nat×P:=(13,P.d (D.str (one++aX)))
def x3(get':D->Option D)(fB:Int)(aE:D->Option D):Prop:= ∀(x:D),Option.isSome (get' x)=(D.dh (de fB (1:Int)) x ||Option.isSome (aE x))
def x4(get:D->Option D)(c:Int):En:=En.mk 0 none (Obj.map 58 get c false)
def EF(yE:Int)(dM:Int)(b8:List UInt8):Obj:=Obj.arr (9:TypeId) false (List.map D.str (List.set (List.replicate (Zg yE) []) (Zg dM) b8))
def B2(fB:Int):Nat×En:=(3,En.mk 0 none (Obj.aN 58 [(D.agg [Z3 fB,Zs],P.ref 4 0 0)]))
def zZ:Nat×En:=(2,En.mk 0 none (Obj.box (53:TypeId) [P.mp 3 0,P.mp 6 0]))
def EG(a:List bx)(b:List bx)(fB:Int)(q:Int)(p:Int)(aX:List UInt8)(aE:D->Option D)(bz:Int):List (Nat×En):=[Zc a,qt b,zZ,B2 fB,(4,En.mk 0 none (Obj.box (61:TypeId) (P.sl 5 0 (Zg q)::Zt))),(5,En.mk 0 none (EF q p aX)),(6,x4 aE bz)]
def x5(one:List UInt8):Nat×P:=(13,P.d (D.str (one++[])))
def AG(s:List UInt8)(t:List UInt8)(a:List bx)(b:List bx)(one:List UInt8)(two:List UInt8)(i:Int):List (Nat×P):=gL s::gM t::gJ::kX a::kY b::lQ::x5 one::yD two i
def z6(l:List (List UInt8)):Nat×En:=(5,En.mk 0 none (vz l))
def z7(l:List (List UInt8))(m:Int):Nat×En:=(4,En.mk 0 none (Obj.box (61:TypeId) (P.sl 5 0 (List.length l)::ZR m)))
def EH(l:List (List UInt8))(m:Int)(get':D->Option D)(c:Int):List (Nat×En):=[z7 l m,z6 l,(6,En.mk 0 none (Obj.map 58 get' (c+(1:Int)) false))]
def CD(a:List bx)(b:List bx)(l:List (List UInt8))(m:Int)(get':D->Option D)(c:Int):List (Nat×En):=Zc a::qt b::zZ::(3,En.mk 0 none (Obj.aN 58 [(uf,P.ref 4 0 0)]))::EH l m get' c
def EI(two:List UInt8)(b8:List UInt8)(i:Int):List (Nat×P):=(14,P.d (D.str (two++b8)))::AB i
def DT(two:List UInt8)(b8:List UInt8):Bool:=decide (List.length two+List.length b8<=BW)
def qu(i:Int)(b:List bx):Bool:= !true==(i==(↑(Z2 b):Int)-(1:Int))
def CG(get':D->Option D)(get:D->Option D):Prop:= ∀(x:D),Option.isSome (get' x)=(D.dh (de (2:Int) (1:Int)) x ||Option.isSome (get x))
def CH:Nat×En:=(3,En.mk 0 none (Obj.aN 58 [(uf,P.ref 4 0 0),(tj,P.ref 6 0 0)]))
def CI:Nat×En:=(2,En.mk 0 none (Obj.box (53:TypeId) [P.mp 3 0,P.mp 8 0]))
def AH(s:List UInt8)(t:List UInt8)(a:List bx)(b:List bx)(one:List UInt8)(two:List UInt8)(i:Int):List (Nat×P):=gL s::gM t::gJ::kX a::kY b::lQ::x5 one::AE two i
def vT(ae:PX×S->Prop)(s:List UInt8)(t:List UInt8)(one:List UInt8)(two:List UInt8):Prop:=ae (PX.ret,S.mk 140 (gL s::gM t::(6,ZK)::gJ::x5 one::x0 two) [])
def vU(fB:Int):Nat×En:=(1,En.mk 0 (some 1) (Obj.aN 58 [(D.agg [Z3 fB,Zs],rN)]))
def qv(one:List UInt8):Bool:=decide (List.length one+0<=BW)
def o4(ae:PX×S->Prop)(s:List UInt8)(t:List UInt8)(one:List UInt8)(two:List UInt8):Prop:=ae (PX.ret,S.mk 140 (gL s::gM t::(6,ZK)::gJ::vS one::x0 two) [])
def qw(i:Int)(a:List bx):Bool:= !false==(i==(↑(Z2 a):Int)-(1:Int))
def ju(a:List bx):Bool:=decide (Zk<=(↑(Z2 a):Int)-(1:Int)/\(↑(Z2 a):Int)-(1:Int)<=Zl)
def x6(fB:Int)(p:Int)(q:Int)(aX:List UInt8)(aE:D->Option D):Prop:=eX fB (1:Int) p q aX/\cj aE/\Option.isSome (aE (de fB (1:Int)))=false
def qx(p:Int)(q:Int)(aX:List UInt8):List D:=[Zs,Z3 p,Z3 q,D.str aX]
def qh:P:=P.ref 0 0 0
def n9(b:List bx)(i:Int):List P:=[qh,P.d (Zp b i)]
noncomputable def Gg(i:Int)(a:List bx)(get:D->Option D)(c:Int)(ae:PX×S->Prop)(s:List UInt8)(t:List UInt8)(one:List UInt8)(two:List UInt8)(b:List bx):Prop:=bif mf i a then ob (Zf i a) (ob (Zh i a) (ob (Zj a i) (∃(fB:Int) (p:Int) (q:Int) (aX:List UInt8) (aE:D->Option D) (bz:Int),n9 a i=[qh,P.d (D.agg (Z3 fB::qx p q aX))]/\zO get c=zO aE bz/\x6 fB p q aX aE/\(q≠(1:Int)->ob (ju a) (bif qw i a then o4 ae s t one two else ob (qv one) (bif mf i b then ob (Zf i b) (ob (Zh i b) (ob (Zj b i) (∃(dM:Int) (yE:Int) (b8:List UInt8) (l:List (List UInt8)) (m:Int) (get:D->Option D) (c:Int),n9 b i=[qh,P.d (D.agg (D.int .i64 (2:Int)::qx dM yE b8))]/\[jg,vU fB,(2,En.mk 0 (some 2) (Obj.box (61:TypeId) (P.sl 3 0 (Zg q)::Zt))),(3,En.mk 0 (some 3) (EF q p aX)),xS aE bz]=jg::yC::qp l m get c/\(eX (2:Int) (1:Int) dM yE b8/\cj get/\Option.isSome (get (de (2:Int) (1:Int)))=false)/\(yE≠(1:Int)->ob (ju b) (bif qw i b then vT ae s t one two else ob (qv two) (ob (Zm i) (ae (PX.normal,S.mk 140 (AH s t a b one two i) [Zc a,qt b,CI,CH,z7 l m,z6 l,(6,En.mk 0 none (Obj.box (61:TypeId) (P.sl 7 0 (Zg yE)::Zt))),(7,En.mk 0 none (EF yE dM b8)),(8,x4 get c)])))))/\(yE=(1:Int)-> ∀(get':D->Option D),cj get'->CG get' get->ob (ju b) (bif qu i b then vT ae s t one two else ob (DT two b8) (ob (Zm i) (ae (PX.normal,S.mk 140 (gL s::gM t::gJ::kX a::kY b::lQ::x5 one::EI two b8 i) (CD a b l m get' c))))))))) else ob (Zm i) (ae (PX.normal,S.mk 140 (AG s t a b one two i) (EG a b fB q p aX aE bz))))))/\(q=(1:Int)-> ∀(get':D->Option D),cj get'->x3 get' fB aE->ob (ju a) (bif qu i a then o4 ae s t one two else ob (DT one aX) (bif mf i b then ob (Zf i b) (ob (Zh i b) (ob (Zj b i) (∃(EJ:Int) (p:Int) (q:Int) (b8:List UInt8) (get:D->Option D) (c:Int),n9 b i=[qh,P.d (D.agg (Z3 EJ::qx p q b8))]/\[BP,Aw,(2,En.mk 0 (some 2) (Obj.map 58 get' (bz+(1:Int)) false))]=zO get c/\x6 EJ p q b8 get/\(q≠(1:Int)->ob (ju b) (bif qw i b then ae (PX.ret,S.mk 140 (gL s::gM t::(6,ZK)::gJ::CC one aX::x0 two) []) else ob (qv two) (ob (Zm i) (ae (PX.normal,S.mk 140 (gL s::gM t::gJ::kX a::kY b::lQ::CC one aX::AE two i) (EG a b EJ q p b8 get c))))))/\(q=(1:Int)-> ∀(get':D->Option D),cj get'->x3 get' EJ get->ob (ju b) (bif qu i b then ae (PX.ret,S.mk 140 (gL s::gM t::(6,ZK)::gJ::CC one aX::x0 two) []) else ob (DT two b8) (ob (Zm i) (ae (PX.normal,S.mk 140 (gL s::gM t::gJ::kX a::kY b::lQ::CC one aX::EI two b8 i) (x2 a b get' c))))))))) else ob (Zm i) (ae (PX.normal,S.mk 140 (gL s::gM t::gJ::kX a::kY b::lQ::CC one aX::yD two i) (x2 a b get' bz))))))))) else bif mf i b then ob (Zf i b) (ob (Zh i b) (ob (Zj b i) (∃(fB:Int) (p:Int) (q:Int) (aX:List UInt8) (aE:D->Option D) (bz:Int),n9 b i=[qh,P.d (D.agg (Z3 fB::qx p q aX))]/\zO get c=zO aE bz/\x6 fB p q aX aE/\(q≠(1:Int)->ob (ju b) (bif qw i b then o4 ae s t one two else ob (qv two) (ob (Zm i) (ae (PX.normal,S.mk 140 (AF s t a b one two i) (EG a b fB q p aX aE bz))))))/\(q=(1:Int)-> ∀(get':D->Option D),cj get'->x3 get' fB aE->ob (ju b) (bif qu i b then o4 ae s t one two else ob (DT two aX) (ob (Zm i) (ae (PX.normal,S.mk 140 (gL s::gM t::gJ::kX a::kY b::lQ::vS one::EI two aX i) (x2 a b get' bz))))))))) else ob (Zm i) (ae (PX.normal,S.mk 140 (B1 s t a b one two i) [Zc a,qt b,AA,Az,(4,x4 get c)]))
theorem DU(s t:List UInt8)(a b:List bx)(one two:List UInt8)(i:Int)(get:D->Option D)(c:Int)(ae:PX×S->Prop):(bif mf i a then Gg i a get c ae s t one two b else bif mf i b then Gg i a get c ae s t one two b else B0 ae s t one two)=(dx [(13,ED)] [] 7 13 (EC s t a b one two i get c)) ae:=by kernel_rfl
theorem join_nil(l:List (List UInt8)):Lib.join l []=l.flatten:=by
 unfold Lib.join
 induction l with
 |nil=>rfl
 |cons x r ih=>
  cases r with
  |nil=>simp[List.intercalate]
  |cons y r=>simp[List.intercalate] at ih⊢;exact ih
def aV(P:List (List UInt8))(i:Nat):List (List UInt8):=P.take i++List.replicate (P.length-i) []
theorem dN(P:List (List UInt8)){i:Nat}(h:i<=P.length):(aV P i).length=P.length:=by simp[aV];omega
theorem o5(P:List (List UInt8)):aV P 0=List.replicate P.length []:=by simp[aV]
theorem x7(P:List (List UInt8)):aV P P.length=P:=by simp[aV]
theorem fQ(P:List (List UInt8)){i:Nat}(h:i<P.length):(aV P i).getD i []=[]:=by
 simp[aV,zai,List.getElem?_append,zb5];split
 ·omega
 rw[zat (by omega)];rfl
theorem dO(P:List (List UInt8)){i:Nat}(h:i<P.length):(aV P i).set i P[i]=aV P (i+1):=by
 unfold aV;have hl:(P.take i).length=i:=by rw[za1];omega
 rw[List.set_append,zav (by omega),hl,Nat.sub_self,show P.length-i=(P.length-(i+1))+1 by omega,List.replicate_succ,zbI,zbM h,za7];rfl
theorem vC(P:List (List UInt8))(i:Nat):(aV P i).flatten.length<=P.flatten.length:=by
 have h:P.flatten=(P.take i).flatten++(P.drop i).flatten:=by rw[<-List.flatten_append,zbz]
 have h2:(aV P i).flatten=(P.take i).flatten:=by unfold aV;rw[List.flatten_append];simp
 rw[h2,h,zaG];omega
theorem fR(P:List (List UInt8)){k:Nat}(hk:k<P.length)(h:k+1=P.length):Lib.join ((aV P k).set k P[k]) []=P.flatten:=by rw[join_nil,dO P hk,h,x7]
theorem gu(P:List (List UInt8)){k:Nat}(hk:k<P.length):(Lib.join ((aV P k).set k P[k]) []).length<=P.flatten.length:=by rw[join_nil,dO P hk];exact vC P _
theorem kz{P:List (List UInt8)}(h:P.length=1){k:Nat}(hk:k<P.length):P[k]=P.flatten:=by
 match P,h with
 | [p],_=>
  have:k=0:=by simp at hk;omega
  simp[this]
theorem iU(a n:Int)(P:List (List UInt8)){k:Nat}(h:k<P.length)(hk:k<(cT a n P.length P).length):(cT a n P.length P)[k]=(a,n,(k:Int),(P.length:Int),P[k]):=by have:=zK a n P.length P k;rw[zad hk,zad h] at this;exact za2 this
theorem AI{i n:Int}(h:i≠n):(!false==(i==n))=false:=by rw[beq_eq_false_iff_ne.2 h];rfl
theorem AJ{i n:Int}(h:i=n):(!true==(i==n))=false:=by rw[beq_iff_eq.2 h];rfl
theorem gK{get:D->Option D}{k:D}{m i:Int}(g:(get k).isSome=decide (m<=i))(h:m<=i↔m<=i+1):(get k).isSome=decide (m<=i+1):=g.trans (decide_eq_decide.2 h)
theorem gO{get get':D->Option D}{k k':D}{b:Bool}(u: ∀x,(get' x).isSome=(D.dh k x || (get x).isSome))(e:D.dh k k'=false)(g:(get k').isSome=b):(get' k').isSome=b:=by rw[u,e,zbL,g]
theorem gT{get get':D->Option D}{a b m i:Int}(u: ∀x,(get' x).isSome=(D.dh (de a b) x || (get x).isSome))(h:m<=i+1):(get' (de a b)).isSome=decide (m<=i+1):=by rw[u,(D.cH _ _).2 rfl,Bool.true_or,zbr h]
theorem kZ{a b c d:List UInt8}(h:a=b)(g:c=d):a++c=b++d:=by rw[h,g]
structure vD(s t:List UInt8)(P Q:List (List UInt8))(get:D->Option D)(i:Int):Prop where
 hN:1<=P.length/\P.length<=1000
 hM:1<=Q.length/\Q.length<=1000
 hP: ∀p∈P,p≠[]/\p.length<=1000
 hQ: ∀p∈Q,p≠[]/\p.length<=1000
 hs:P.flatten=s
 ht:Q.flatten=t
 lu:s.length<=1000
 z8:t.length<=1000
 hi:0<=i/\(i<=P.length\/i<=Q.length)
 hU:cj get
 g1:(get (de 1 1)).isSome=decide ((P.length:Int)<=i)
 g2:(get (de 2 1)).isSome=decide ((Q.length:Int)<=i)
theorem vD.step{s t:List UInt8}{P Q:List (List UInt8)}{get:D->Option D}{i:Int}(I:vD s t P Q get i)(h:i<P.length\/i<Q.length){get':D->Option D}(hU:cj get')
  (g1:(get' (de 1 1)).isSome=decide ((P.length:Int)<=i+1)) (g2:(get' (de 2 1)).isSome=decide ((Q.length:Int)<=i+1)):vD s t P Q get' (i+1):=
 ⟨I.hN,I.hM,I.hP,I.hQ,I.hs,I.ht,I.lu,I.z8,by have:=I.hi;omega,hU,g1,g2⟩
theorem rP:D.dh (de 1 1) (de 2 1)=false:=by decide
theorem rQ:D.dh (de 2 1) (de 1 1)=false:=by decide
def iH(a:List UInt8×List UInt8×List (List UInt8)×List (List UInt8))(b:(D->Option D)×Int×Int):S:=
 let l:=cT 1 1 a.2.2.1.length a.2.2.1;let m:=cT 2 1 a.2.2.2.length a.2.2.2
 let one:=if(a.2.2.1.length:Int)<=b.2.2 then a.1 else [];let two:=if(a.2.2.2.length:Int)<=b.2.2 then a.2.1 else []
 if 0<b.2.2/\b.2.2<a.2.2.1.length then(if b.2.2<a.2.2.2.length then Gc a.1 a.2.1 l m one two b.2.2 (aV a.2.2.1 b.2.2.toNat) b.2.2 (aV a.2.2.2 b.2.2.toNat) b.2.2 b.1 b.2.1 else DP a.1 a.2.1 l m one two b.2.2 1 (aV a.2.2.1 b.2.2.toNat) b.2.2 b.1 b.2.1)
 else(if 0<b.2.2/\b.2.2<a.2.2.2.length then DP a.1 a.2.1 l m one two b.2.2 2 (aV a.2.2.2 b.2.2.toNat) b.2.2 b.1 b.2.1 else EC a.1 a.2.1 l m one two b.2.2 b.1 b.2.1)
abbrev DV(s t:List UInt8)(P Q:List (List UInt8))(one two:List UInt8)(i:Int)(r:List (Nat×En)):S:=⟨140,DO s t P.length Q.length one two i,(0,⟨0,none,jf false (cT 1 1 P.length P)⟩)::(1,⟨0,none,jf false (cT 2 1 Q.length Q)⟩)::r⟩
structure DW(s t:List UInt8)(P Q:List (List UInt8))(i:Int)(ae:PX×S->Prop):Prop where
 p0: ∀get' c' one two,vD s t P Q get' (i+1)->(P.length:Int)<=i+1->(Q.length:Int)<=i+1->one=s->two=t->
  ae (.normal,DV s t P Q one two (i+1) [(2,⟨0,none,qo 3 4⟩),(3,⟨0,none,.aN 58 []⟩),(4,⟨0,none,.map 58 get' c' false⟩)])
 pa: ∀get' c' one two ps m fl,vD s t P Q get' (i+1)->i+1<P.length->(Q.length:Int)<=i+1->one=[]->two=t->ps=aV P (i+1).toNat->m=i+1->fl=P.length->
  ae (.normal,DV s t P Q one two (i+1) [(2,⟨0,none,qo 3 6⟩),(3,⟨0,none,.aN 58 [(de 1 1,.ref 4 0 0)]⟩),(4,⟨0,none,o0 5 fl m⟩),(5,⟨0,none,rX ps⟩),(6,⟨0,none,.map 58 get' c' false⟩)])
 pb: ∀get' c' one two ps m fl,vD s t P Q get' (i+1)->(P.length:Int)<=i+1->i+1<Q.length->one=s->two=[]->ps=aV Q (i+1).toNat->m=i+1->fl=Q.length->
  ae (.normal,DV s t P Q one two (i+1) [(2,⟨0,none,qo 3 6⟩),(3,⟨0,none,.aN 58 [(de 2 1,.ref 4 0 0)]⟩),(4,⟨0,none,o0 5 fl m⟩),(5,⟨0,none,rX ps⟩),(6,⟨0,none,.map 58 get' c' false⟩)])
 p2: ∀get' c' one two ps m fl qs k gl,vD s t P Q get' (i+1)->i+1<P.length->i+1<Q.length->one=[]->two=[]->ps=aV P (i+1).toNat->m=i+1->fl=P.length->qs=aV Q (i+1).toNat->k=i+1->gl=Q.length->
  ae (.normal,DV s t P Q one two (i+1) [(2,⟨0,none,qo 3 8⟩),(3,⟨0,none,.aN 58 [(de 1 1,.ref 4 0 0),(de 2 1,.ref 6 0 0)]⟩),(4,⟨0,none,o0 5 fl m⟩),(5,⟨0,none,rX ps⟩),(6,⟨0,none,o0 7 gl k⟩),(7,⟨0,none,rX qs⟩),(8,⟨0,none,.map 58 get' c' false⟩)])
theorem x8(s t:List UInt8)(P Q:List (List UInt8))(get:D->Option D)(c i:Int)(one two:List UInt8)(ae:PX×S->Prop)(I:vD s t P Q get i)(hc:i=0\/((P.length:Int)<=i/\(Q.length:Int)<=i))
  (h1:one=if(P.length:Int)<=i then s else []) (h2:two=if(Q.length:Int)<=i then t else []) (hp:DW s t P Q i ae)
  (hx:ae (.exit 0,⟨140,[(0,sD s),(1,sD t),(7,.d (.bool true)),(13,sD s),(14,sD t)],[]⟩)):
  dx [(13,ED)] [] 7 13 (EC s t (cT 1 1 P.length P) (cT 2 1 Q.length Q) one two i get c) ae:=by
 (rw[<-DU];delta x0 vS gJ gM gL B0 Az AA Zn AB yD rN lQ Z2 kY kX B1 AE AF Zb qt Zc x2 CC ZK Aw BP x3 x4 Zg EF Zs Zt Z3 B2 zZ EG x5 AG vz z6 ZR z7 EH uf CD EI BW DT qu CG tj CH CI AH Zl Zk Zm vT xS qd qe qp yC vU jg qv o4 qw ju x6 Ez zO qx qh Zi Zo Zp n9 Zj Zh Zf mf Gg)
 have B3:(cT 1 1 P.length P).length=P.length:=aZ _ _ _ _;have B4:(cT 2 1 Q.length Q).length=Q.length:=aZ _ _ _ _;have hN:=I.hN;have hM:=I.hM;have hi:=I.hi;have hU:=I.hU;have g1:=I.g1;have g2:=I.g2;have lu:=I.lu;have z8:=I.z8;have hs:=I.hs;have ht:=I.ht;simp only[zar];rw[B3,B4];rcases hc with hc |hc
 ·have ho:one=[]:=by rw[h1,zav (by omega)]
  have hw:two=[]:=by rw[h2,zav (by omega)]
  have Gh:one.length=0:=by rw[ho];rfl
  have Gi:two.length=0:=by rw[hw];rfl
  have mg:i.toNat<P.length:=by omega
  have AK:i.toNat<(cT 1 1 P.length P).length:=by omega
  have DX:=I.hP P[i.toNat] (zaH mg);rw[jQ AK,iU 1 1 P mg AK];have kC:i.toNat<Q.length:=by omega
  have AL:i.toNat<(cT 2 1 Q.length Q).length:=by omega
  have B5:=I.hQ Q[i.toNat] (zaH kC);rw[jQ AL,iU 2 1 Q kC AL];have zP:(List.replicate P.length []).set i.toNat P[i.toNat]=aV P (i+1).toNat:=by rw[show(i+1).toNat=i.toNat+1 by omega,<-dO P mg,show aV P i.toNat=aV P 0 by rw[show i.toNat=0 by omega],o5]
  have zQ:(List.replicate Q.length []).set i.toNat Q[i.toNat]=aV Q (i+1).toNat:=by rw[show(i+1).toNat=i.toNat+1 by omega,<-dO Q kC,show aV Q i.toNat=aV Q 0 by rw[show i.toNat=0 by omega],o5]
  refine br (λg=>br (λ_=> ?_) λg'=>absurd g g') (λg=>absurd mg (by omega));refine aA ⟨hi.1,g⟩ (aA mg (ez (qf _) ⟨1,i.toNat,P.length,P[i.toNat],get,c,rfl,rfl,⟨⟨by decide,by omega,DX.1,by omega⟩,hU,by rw[g1];exact zaK (by omega)⟩,λe=> ?_,λe x9 u1 u2=> ?_⟩))
  ·refine aA (by omega) (bw (AI (by omega)) (aA (by omega) (br (λg'=> ?_) λg'=>absurd kC (by omega))));refine aA ⟨hi.1,g'⟩ (aA kC (ez (qf _) ⟨i.toNat,Q.length,Q[i.toNat],(List.replicate P.length []).set i.toNat P[i.toNat],1,get,c,rfl,?_,⟨⟨by decide,by omega,B5.1,by omega⟩,hU,by rw[g2];exact zaK (by omega)⟩,λe2=> ?_,λe2 B6 u3 u4=> ?_⟩))
   ·rw[zas,zax];rfl
   ·refine aA (by omega) (bw (AI (by omega)) (aA (by omega) (aA (by omega) ?_)));refine hp.p2 _ _ _ _ _ _ _ _ _ _ (I.step (by omega) hU (gK g1 (by omega)) (gK g2 (by omega))) (by omega) (by omega) ?_ ?_ ?_ ?_ ?_ ?_ ?_ ?_
    ·rw[ho];rfl
    ·rw[hw];rfl
    ·exact zP
    ·omega
    ·rw[zas,zax]
    ·exact zQ
    ·omega
    rfl
   refine aA (by omega) (bw (AJ (by omega)) (aA (by omega) (aA (by omega) ?_)));refine hp.pa _ _ _ _ _ _ _ (I.step (by omega) u3 (gO u4 rQ (gK g1 (by omega))) (gT u4 (by omega))) (by omega) (by omega) ?_ ?_ ?_ ?_ ?_
   ·rw[ho];rfl
   ·rw[hw,kz (by omega) kC,ht];rfl
   ·exact zP
   ·omega
   rw[zas,zax]
  refine aA (by omega) (bw (AJ (by omega)) (aA (by omega) (br (λg'=> ?_) λg'=>absurd kC (by omega))));refine aA ⟨hi.1,g'⟩ (aA kC (ez (qf _) ⟨2,i.toNat,Q.length,Q[i.toNat],x9,c+1,rfl,rfl,⟨⟨by decide,by omega,B5.1,by omega⟩,u1,by rw[gO u2 rP g2];exact zaK (by omega)⟩,λe2=> ?_,λe2 B6 u3 u4=> ?_⟩))
  ·refine aA (by omega) (bw (AI (by omega)) (aA (by omega) (aA (by omega) ?_)));refine hp.pb _ _ _ _ _ _ _ (I.step (by omega) u1 (gT u2 (by omega)) (gO u2 rP (gK g2 (by omega)))) (by omega) (by omega) ?_ ?_ ?_ ?_ ?_
   ·rw[ho,kz (by omega) mg,hs];rfl
   ·rw[hw];rfl
   ·exact zQ
   ·omega
   rfl
  refine aA (by omega) (bw (AJ (by omega)) (aA (by omega) (aA (by omega) ?_)));refine hp.p0 _ _ _ _ (I.step (by omega) u3 (gO u4 rQ (gT u2 (by omega))) (gT u4 (by omega))) (by omega) (by omega) ?_ ?_
  ·rw[ho,kz (by omega) mg,hs];rfl
  rw[hw,kz (by omega) kC,ht];rfl
 refine br (λg=>absurd g (by omega)) λ_=>br (λg=>absurd g (by omega)) λ_=> ?_;rw[h1,h2,zat hc.1,zat hc.2];exact hx
def yF(one:List UInt8)(l:List (List UInt8))(p:Int)(aX:List UInt8):Nat×P:=(13,P.d (D.str (one++Lib.join (List.set l (Zg p) aX) [])))
def yG(two:List UInt8)(eZ:List (List UInt8))(dM:Int)(b8:List UInt8)(i:Int):List (Nat×P):=(14,P.d (D.str (two++Lib.join (List.set eZ (Zg dM) b8) [])))::AB i
def vE(two:List UInt8)(eZ:List (List UInt8))(dM:Int)(b8:List UInt8):Bool:=decide (List.length two+List.length (Lib.join (List.set eZ (Zg dM) b8) [])<=BW)
def yH(eZ:List (List UInt8))(dM:Int)(b8:List UInt8):Obj:=Obj.arr (9:TypeId) false (List.map D.str (List.set eZ (Zg dM) b8))
def DY(eZ:List (List UInt8))(dM:Int)(b8:List UInt8)(m:Int):Nat×En:=(4,En.mk 0 none (Obj.box (61:TypeId) (P.sl 5 0 (List.length (List.set eZ (Zg dM) b8))::vR m)))
def B7(a:List bx)(b:List bx)(B8:Int)(eZ:List (List UInt8))(dM:Int)(b8:List UInt8)(m:Int)(get:D->Option D)(c:Int):List (Nat×En):=[Zc a,qt b,zZ,B2 B8,DY eZ dM b8 m,(5,En.mk 0 none (yH eZ dM b8)),(6,x4 get c)]
def CJ(l:List (List UInt8))(p:Int)(aX:List UInt8)(dW:Int):Nat×En:=(2,En.mk 0 (some 2) (Obj.box (61:TypeId) (P.sl 3 0 (List.length (List.set l (Zg p) aX))::vR dW)))
def nF(dW:Int)(q:Int):Prop:=dW+(1:Int)<q
def Aa(l:List (List UInt8))(q:Int)(dW:Int)(p:Int)(aX:List UInt8):Prop:=rZ l=q/\(0:Int)<=dW/\dW<q/\List.length (Lib.join (List.set l (Zg p) aX) [])<=1000000/\List.getD l (Zg p) []=[]
noncomputable def EK(i:Int)(a:List bx)(w:Int)(ps:List (List UInt8))(m:Int)(get:D->Option D)(c:Int)(ae:PX×S->Prop)(s:List UInt8)(t:List UInt8)(one:List UInt8)(two:List UInt8)(b:List bx):Prop:=bif mf i a then ob (Zf i a) (ob (Zh i a) (ob (Zj a i) (∃(fB:Int) (p:Int) (q:Int) (aX:List UInt8) (l:List (List UInt8)) (dW:Int) (aE:D->Option D) (bz:Int),n9 a i=[qh,P.d (D.agg (Z3 fB::qx p q aX))]/\jg::vU w::qp ps m get c=jg::vU fB::qp l dW aE bz/\(x6 fB p q aX aE/\Aa l q dW p aX)/\(nF dW q->ob (ju a) (bif qw i a then o4 ae s t one two else ob (qv one) (bif mf i b then ob (Zf i b) (ob (Zh i b) (ob (Zj b i) (∃(B8:Int) (dM:Int) (q:Int) (b8:List UInt8) (eZ:List (List UInt8)) (m:Int) (get:D->Option D) (c:Int),n9 b i=[qh,P.d (D.agg (Z3 B8::qx dM q b8))]/\[jg,vU fB,CJ l p aX dW,(3,En.mk 0 (some 3) (yH l p aX)),xS aE bz]=jg::vU B8::qp eZ m get c/\(x6 B8 dM q b8 get/\Aa eZ q m dM b8)/\(nF m q->ob (ju b) (bif qw i b then vT ae s t one two else ob (qv two) (ob (Zm i) (ae (PX.normal,S.mk 140 (AH s t a b one two i) (B7 a b B8 eZ dM b8 m get c))))))/\(¬nF m q-> ∀(get':D->Option D),cj get'->x3 get' B8 get->ob (ju b) (bif qu i b then vT ae s t one two else ob (vE two eZ dM b8) (ob (Zm i) (ae (PX.normal,S.mk 140 (gL s::gM t::gJ::kX a::kY b::lQ::x5 one::yG two eZ dM b8 i) (x2 a b get' c))))))))) else ob (Zm i) (ae (PX.normal,S.mk 140 (AG s t a b one two i) (B7 a b fB l p aX dW aE bz))))))/\(¬nF dW q-> ∀(get':D->Option D),cj get'->x3 get' fB aE->ob (ju a) (bif qu i a then o4 ae s t one two else ob (vE one l p aX) (bif mf i b then ob (Zf i b) (ob (Zh i b) (ob (Zj b i) False)) else ob (Zm i) (ae (PX.normal,S.mk 140 (gL s::gM t::gJ::kX a::kY b::lQ::yF one l p aX::yD two i) (x2 a b get' bz))))))))) else bif mf i b then ob (Zf i b) (ob (Zh i b) (ob (Zj b i) (∃(fB:Int) (p:Int) (q:Int) (aX:List UInt8) (l:List (List UInt8)) (dW:Int) (aE:D->Option D) (bz:Int),n9 b i=[qh,P.d (D.agg (Z3 fB::qx p q aX))]/\jg::vU w::qp ps m get c=jg::vU fB::qp l dW aE bz/\(x6 fB p q aX aE/\Aa l q dW p aX)/\(nF dW q->ob (ju b) (bif qw i b then o4 ae s t one two else ob (qv two) (ob (Zm i) (ae (PX.normal,S.mk 140 (AF s t a b one two i) (B7 a b fB l p aX dW aE bz))))))/\(¬nF dW q-> ∀(get':D->Option D),cj get'->x3 get' fB aE->ob (ju b) (bif qu i b then o4 ae s t one two else ob (vE two l p aX) (ob (Zm i) (ae (PX.normal,S.mk 140 (gL s::gM t::gJ::kX a::kY b::lQ::vS one::yG two l p aX i) (x2 a b get' bz))))))))) else ob (Zm i) (ae (PX.normal,S.mk 140 (B1 s t a b one two i) [Zc a,qt b,zZ,B2 w,z7 ps m,z6 ps,(6,x4 get c)]))
theorem AN(s t:List UInt8)(a b:List bx)(one two:List UInt8)(i:Int)(w:Int)(ps:List (List UInt8))(m:Int)(get:D->Option D)(c:Int)(ae:PX×S->Prop):(bif mf i a then EK i a w ps m get c ae s t one two b else bif mf i b then EK i a w ps m get c ae s t one two b else B0 ae s t one two)=(dx [(13,DQ)] [] 7 13 (DP s t a b one two i w ps m get c)) ae:=by kernel_rfl
theorem ya(s t:List UInt8)(P Q:List (List UInt8))(get:D->Option D)(c i:Int)(one two:List UInt8)(ae:PX×S->Prop)(I:vD s t P Q get i)(hc:0<i/\i<P.length/\(Q.length:Int)<=i)
  (h1:one=if(P.length:Int)<=i then s else []) (h2:two=if(Q.length:Int)<=i then t else []) (hp:DW s t P Q i ae):
  dx [(13,DQ)] [] 7 13 (DP s t (cT 1 1 P.length P) (cT 2 1 Q.length Q) one two i 1 (aV P i.toNat) i get c) ae:=by
 (rw[<-AN];delta x0 vS gJ gM gL B0 x4 vz z6 Z3 ZR z7 Zs B2 zZ Zb qt Zc Zn AB yD rN lQ Z2 kY kX B1 AE AF Zg yF x5 AG Az AA x2 yG BW vE qu x3 yH vR DY B7 AH Zl Zk Zm ZK vT xS CJ qv o4 qw ju nF rZ Aa x6 qd qe qp vU jg qx qh Zi Zo Zp n9 Zj Zh Zf mf EK)
 have B3:(cT 1 1 P.length P).length=P.length:=aZ _ _ _ _;have B4:(cT 2 1 Q.length Q).length=Q.length:=aZ _ _ _ _;have hN:=I.hN;have hM:=I.hM;have hi:=I.hi;have hU:=I.hU;have g1:=I.g1;have g2:=I.g2;have lu:=I.lu;have z8:=I.z8;have hs:=I.hs;have ht:=I.ht;simp only[zar];rw[B3,B4];have ho:one=[]:=by rw[h1,zav (by omega)]
 have hw:two=t:=by rw[h2,zat (by omega)]
 have Gh:one.length=0:=by rw[ho];rfl
 have Gi:two.length<=1000:=by rw[hw];assumption
 have mg:i.toNat<P.length:=by omega
 have AK:i.toNat<(cT 1 1 P.length P).length:=by omega
 have DX:=I.hP P[i.toNat] (zaH mg);rw[jQ AK,iU 1 1 P mg AK];have zP:(aV P i.toNat).set i.toNat P[i.toNat]=aV P (i+1).toNat:=by rw[show(i+1).toNat=i.toNat+1 by omega,dO P mg]
 have Gj:(aV P i.toNat).length=P.length:=dN P (by omega);have hb:=gu P mg;rw[hs] at hb;have ja:(Lib.join ((aV P i.toNat).set (i.toNat:Int).toNat P[i.toNat]) []).length<=s.length:=hb;refine br (λg=>br (λ_=> ?_) λg'=>absurd g g') (λg=>absurd hc.2.1 g);refine aA ⟨hi.1,by omega⟩ (aA mg (ez (qf _) ⟨1,i.toNat,P.length,P[i.toNat],aV P i.toNat,i,get,c,rfl,rfl,⟨⟨⟨by decide,by omega,DX.1,by omega⟩,hU,by rw[g1];exact zaK (by omega)⟩,by omega,by omega,by omega,zaB hb (by omega),fQ P mg⟩,λe=> ?_,λe x9 u1 u2=> ?_⟩))
 ·refine aA (by omega) (bw (AI (by omega)) (aA (by omega) (br (λg'=>absurd g' (by omega)) λg'=>(aA (by omega) ?_))));refine hp.pa _ _ _ _ _ _ _ (I.step (by omega) hU (gK g1 (by omega)) (gK g2 (by omega))) (by omega) (by omega) ?_ ?_ ?_ ?_ ?_
  ·rw[ho];rfl
  ·exact hw
  ·exact zP
  ·rfl
  rw[zas,Gj]
 refine aA (by omega) (bw (AJ (by omega)) (aA (by omega) (br (λg'=>absurd g' (by omega)) λg'=>(aA (by omega) ?_))));refine hp.p0 _ _ _ _ (I.step (by omega) u1 (gT u2 (by omega)) (gO u2 rP (gK g2 (by omega)))) (by omega) (by omega) ?_ ?_
 ·refine zbV (kZ ho (fR P mg (by omega))) ?_;rw[hs];rfl
 exact hw
theorem yb(s t:List UInt8)(P Q:List (List UInt8))(get:D->Option D)(c i:Int)(one two:List UInt8)(ae:PX×S->Prop)(I:vD s t P Q get i)(hc:0<i/\i<Q.length/\(P.length:Int)<=i)
  (h1:one=if(P.length:Int)<=i then s else []) (h2:two=if(Q.length:Int)<=i then t else []) (hp:DW s t P Q i ae):
  dx [(13,DQ)] [] 7 13 (DP s t (cT 1 1 P.length P) (cT 2 1 Q.length Q) one two i 2 (aV Q i.toNat) i get c) ae:=by
 (rw[<-AN];delta x0 vS gJ gM gL B0 x4 vz z6 Z3 ZR z7 Zs B2 zZ Zb qt Zc Zn AB yD rN lQ Z2 kY kX B1 AE AF Zg yF x5 AG Az AA x2 yG BW vE qu x3 yH vR DY B7 AH Zl Zk Zm ZK vT xS CJ qv o4 qw ju nF rZ Aa x6 qd qe qp vU jg qx qh Zi Zo Zp n9 Zj Zh Zf mf EK)
 have B3:(cT 1 1 P.length P).length=P.length:=aZ _ _ _ _;have B4:(cT 2 1 Q.length Q).length=Q.length:=aZ _ _ _ _;have hN:=I.hN;have hM:=I.hM;have hi:=I.hi;have hU:=I.hU;have g1:=I.g1;have g2:=I.g2;have lu:=I.lu;have z8:=I.z8;have hs:=I.hs;have ht:=I.ht;simp only[zar];rw[B3,B4];have ho:two=[]:=by rw[h2,zav (by omega)]
 have hw:one=s:=by rw[h1,zat (by omega)]
 have Gh:two.length=0:=by rw[ho];rfl
 have Gi:one.length<=1000:=by rw[hw];assumption
 have kC:i.toNat<Q.length:=by omega
 have AL:i.toNat<(cT 2 1 Q.length Q).length:=by omega
 have B5:=I.hQ Q[i.toNat] (zaH kC);rw[jQ AL,iU 2 1 Q kC AL];have zP:(aV Q i.toNat).set i.toNat Q[i.toNat]=aV Q (i+1).toNat:=by rw[show(i+1).toNat=i.toNat+1 by omega,dO Q kC]
 have Gj:(aV Q i.toNat).length=Q.length:=dN Q (by omega);have hb:=gu Q kC;rw[ht] at hb;have ja:(Lib.join ((aV Q i.toNat).set (i.toNat:Int).toNat Q[i.toNat]) []).length<=t.length:=hb;refine br (λg=>absurd g (by omega)) λ_=>br (λg=>br (λg'=>absurd g' (by omega)) λ_=>br (λ_=> ?_) λg'=>absurd g g') λg=>absurd hc.2.1 g;refine aA ⟨hi.1,by omega⟩ (aA kC (ez (qf _) ⟨2,i.toNat,Q.length,Q[i.toNat],aV Q i.toNat,i,get,c,rfl,rfl,⟨⟨⟨by decide,by omega,B5.1,by omega⟩,hU,by rw[g2];exact zaK (by omega)⟩,by omega,by omega,by omega,zaB hb (by omega),fQ Q kC⟩,λe=> ?_,λe x9 u1 u2=> ?_⟩))
 ·refine aA (by omega) (bw (AI (by omega)) (aA (by omega) (aA (by omega) ?_)));refine hp.pb _ _ _ _ _ _ _ (I.step (by omega) hU (gK g1 (by omega)) (gK g2 (by omega))) (by omega) (by omega) ?_ ?_ ?_ ?_ ?_
  ·exact hw
  ·rw[ho];rfl
  ·exact zP
  ·rfl
  rw[zas,Gj]
 refine aA (by omega) (bw (AJ (by omega)) (aA (by omega) (aA (by omega) ?_)));refine hp.p0 _ _ _ _ (I.step (by omega) u1 (gO u2 rQ (gK g1 (by omega))) (gT u2 (by omega))) (by omega) (by omega) ?_ ?_
 ·exact hw
 refine zbV (kZ ho (fR Q kC (by omega))) ?_;rw[ht];rfl
def Gk(rR:List (List UInt8))(k:Int)(get:D->Option D)(c:Int):List (Nat×En):=[(6,En.mk 0 none (Obj.box (61:TypeId) (P.sl 7 0 (List.length rR)::ZR k))),(7,En.mk 0 none (vz rR)),(8,x4 get c)]
def EL(a:List bx)(b:List bx)(rR:List (List UInt8))(k:Int)(eZ:List (List UInt8))(dM:Int)(b8:List UInt8)(m:Int)(get:D->Option D)(c:Int):List (Nat×En):=[Zc a,qt b,CI,CH,z7 rR k,z6 rR,(6,En.mk 0 none (Obj.box (61:TypeId) (P.sl 7 0 (List.length (List.set eZ (Zg dM) b8))::vR m))),(7,En.mk 0 none (yH eZ dM b8)),(8,x4 get c)]
def Gl(u:List (List UInt8))(lY:Int)(l:List (List UInt8))(p:Int)(aX:List UInt8)(dW:Int)(aE:D->Option D)(bz:Int):List (Nat×En):=xU::zW::qe u lY::qd u::(4,En.mk 0 (some 4) (Obj.box (61:TypeId) (P.sl 5 0 (List.length (List.set l (Zg p) aX))::vR dW)))::(5,En.mk 0 (some 5) (yH l p aX))::CB aE bz
def EM(dM:Int)(q:Int)(b8:List UInt8)(get:D->Option D)(eZ:List (List UInt8))(m:Int):Prop:=(eX (2:Int) (1:Int) dM q b8/\cj get/\Option.isSome (get (de (2:Int) (1:Int)))=false)/\Aa eZ q m dM b8
def EN(a:List bx)(b:List bx)(rR:List (List UInt8))(k:Int)(get':D->Option D)(c:Int):List (Nat×En):=Zc a::qt b::zZ::(3,En.mk 0 none (Obj.aN 58 CA))::EH rR k get' c
def Gm(u:List (List UInt8))(lY:Int)(get':D->Option D)(bz:Int):List (Nat×En):=[qe u lY,qd u,(4,En.mk 0 (some 4) (Obj.map 58 get' (bz+(1:Int)) false))]
def Hd(s0:List P)(fB:Int)(p:Int)(q:Int)(aX:List UInt8):Prop:=s0=[qh,P.d (D.agg (Z3 fB::qx p q aX))]
def Gn(b:List bx)(i:Int)(ae:PX×S->Prop)(s:List UInt8)(t:List UInt8)(one:List UInt8)(l:List (List UInt8))(p:Int)(aX:List UInt8)(two:List UInt8)(a:List bx):List P->List (Nat×En)->Prop:=λ(s0:List P) (s1:List (Nat×En))=> ∃(DZ:Int) (dM:Int) (q:Int) (b8:List UInt8) (eZ:List (List UInt8)) (m:Int) (get:D->Option D) (c:Int),Hd s0 DZ dM q b8/\s1=jg::vU DZ::qp eZ m get c/\(x6 DZ dM q b8 get/\Aa eZ q m dM b8)/\(nF m q->ob (ju b) (bif qw i b then ae (PX.ret,S.mk 140 (gL s::gM t::(6,ZK)::gJ::yF one l p aX::x0 two) []) else ob (qv two) (ob (Zm i) (ae (PX.normal,S.mk 140 (gL s::gM t::gJ::kX a::kY b::lQ::yF one l p aX::AE two i) (B7 a b DZ eZ dM b8 m get c))))))/\(¬nF m q-> ∀(get':D->Option D),cj get'->x3 get' DZ get->ob (ju b) (bif qu i b then ae (PX.ret,S.mk 140 (gL s::gM t::(6,ZK)::gJ::yF one l p aX::x0 two) []) else ob (vE two eZ dM b8) (ob (Zm i) (ae (PX.normal,S.mk 140 (gL s::gM t::gJ::kX a::kY b::lQ::yF one l p aX::yG two eZ dM b8 i) (x2 a b get' c))))))
def EO(get':D->Option D)(get:D->Option D):Prop:= ∀(x:D),Option.isSome (get' x)=(D.dh (de (1:Int) (1:Int)) x ||Option.isSome (get x))
def EP(a:List bx)(b:List bx)(eZ:List (List UInt8))(dM:Int)(b8:List UInt8)(m:Int)(rR:List (List UInt8))(k:Int)(get:D->Option D)(c:Int):List (Nat×En):=Zc a::qt b::CI::CH::DY eZ dM b8 m::(5,En.mk 0 none (yH eZ dM b8))::Gk rR k get c
def He(s0:List P)(dM:Int)(yE:Int)(b8:List UInt8):Prop:=s0=[qh,P.d (D.agg (D.int .i64 (2:Int)::qx dM yE b8))]
def Gp(b:List bx)(i:Int)(ae:PX×S->Prop)(s:List UInt8)(t:List UInt8)(one:List UInt8)(two:List UInt8)(a:List bx):List P->List (Nat×En)->Prop:=λ(s0:List P) (s1:List (Nat×En))=> ∃(dM:Int) (q:Int) (b8:List UInt8) (rR:List (List UInt8)) (k:Int) (eZ:List (List UInt8)) (m:Int) (get:D->Option D) (c:Int),He s0 dM q b8/\s1=qq rR k eZ m get c/\EM dM q b8 get eZ m/\(nF m q->ob (ju b) (bif qw i b then vT ae s t one two else ob (qv two) (ob (Zm i) (ae (PX.normal,S.mk 140 (AH s t a b one two i) (EL a b rR k eZ dM b8 m get c))))))/\(¬nF m q-> ∀(get':D->Option D),cj get'->CG get' get->ob (ju b) (bif qu i b then vT ae s t one two else ob (vE two eZ dM b8) (ob (Zm i) (ae (PX.normal,S.mk 140 (gL s::gM t::gJ::kX a::kY b::lQ::x5 one::yG two eZ dM b8 i) (CD a b rR k get' c))))))
def ER(p:Int)(q:Int)(aX:List UInt8)(aE:D->Option D)(l:List (List UInt8))(dW:Int):Prop:=(eX (1:Int) (1:Int) p q aX/\cj aE/\Option.isSome (aE (de (1:Int) (1:Int)))=false)/\Aa l q dW p aX
def Hf(s0:List P)(p:Int)(q:Int)(aX:List UInt8):Prop:=s0=[qh,P.d (D.agg (Zs::qx p q aX))]
def Gq(b:List bx)(i:Int)(ae:PX×S->Prop)(s:List UInt8)(t:List UInt8)(one:List UInt8)(two:List UInt8)(a:List bx):List P->List (Nat×En)->Prop:=λ(s0:List P) (s1:List (Nat×En))=> ∃(dM:Int) (q:Int) (b8:List UInt8) (eZ:List (List UInt8)) (m:Int) (rR:List (List UInt8)) (k:Int) (get:D->Option D) (c:Int),Hf s0 dM q b8/\s1=qq eZ m rR k get c/\ER dM q b8 get eZ m/\(nF m q->ob (ju b) (bif qw i b then vT ae s t one two else ob (qv two) (ob (Zm i) (ae (PX.normal,S.mk 140 (AH s t a b one two i) (EP a b eZ dM b8 m rR k get c))))))/\(¬nF m q-> ∀(get':D->Option D),cj get'->EO get' get->ob (ju b) (bif qu i b then vT ae s t one two else ob (vE two eZ dM b8) (ob (Zm i) (ae (PX.normal,S.mk 140 (gL s::gM t::gJ::kX a::kY b::lQ::x5 one::yG two eZ dM b8 i) (EN a b rR k get' c))))))
noncomputable def Gr(i:Int)(a:List bx)(ps:List (List UInt8))(m:Int)(qs:List (List UInt8))(k:Int)(get:D->Option D)(c:Int)(ae:PX×S->Prop)(s:List UInt8)(t:List UInt8)(one:List UInt8)(two:List UInt8)(b:List bx):Prop:=bif mf i a then ob (Zf i a) (ob (Zh i a) (ob (Zj a i) ((∃(p:Int) (q:Int) (aX:List UInt8) (l:List (List UInt8)) (dW:Int) (u:List (List UInt8)) (lY:Int) (aE:D->Option D) (bz:Int),n9 a i=[qh,P.d (D.agg (Zs::qx p q aX))]/\qq ps m qs k get c=qq l dW u lY aE bz/\ER p q aX aE l dW/\(nF dW q->ob (ju a) (bif qw i a then o4 ae s t one two else ob (qv one) (bif mf i b then ob (Zf i b) (ob (Zh i b) (ob (Zj b i) (Gq b i ae s t one two a (n9 b i) (xU::zW::CJ l p aX dW::(3,En.mk 0 (some 3) (yH l p aX))::BX u lY aE bz)\/Gp b i ae s t one two a (n9 b i) (xU::zW::CJ l p aX dW::(3,En.mk 0 (some 3) (yH l p aX))::BX u lY aE bz)))) else ob (Zm i) (ae (PX.normal,S.mk 140 (AG s t a b one two i) (EP a b l p aX dW u lY aE bz))))))/\(¬nF dW q-> ∀(get':D->Option D),cj get'->EO get' aE->ob (ju a) (bif qu i a then o4 ae s t one two else ob (vE one l p aX) (bif mf i b then ob (Zf i b) (ob (Zh i b) (ob (Zj b i) (Gn b i ae s t one l p aX two a (n9 b i) (jg::(1,En.mk 0 (some 1) (Obj.aN 58 [(tj,rN)]))::Gm u lY get' bz)))) else ob (Zm i) (ae (PX.normal,S.mk 140 (gL s::gM t::gJ::kX a::kY b::lQ::yF one l p aX::yD two i) (EN a b u lY get' bz)))))))\/ ∃(p:Int) (q:Int) (aX:List UInt8) (u:List (List UInt8)) (lY:Int) (l:List (List UInt8)) (dW:Int) (aE:D->Option D) (bz:Int),n9 a i=[qh,P.d (D.agg (D.int .i64 (2:Int)::qx p q aX))]/\qq ps m qs k get c=qq u lY l dW aE bz/\EM p q aX aE l dW/\(nF dW q->ob (ju a) (bif qw i a then o4 ae s t one two else ob (qv one) (bif mf i b then ob (Zf i b) (ob (Zh i b) (ob (Zj b i) (Gq b i ae s t one two a (n9 b i) (Gl u lY l p aX dW aE bz)\/Gp b i ae s t one two a (n9 b i) (Gl u lY l p aX dW aE bz)))) else ob (Zm i) (ae (PX.normal,S.mk 140 (AG s t a b one two i) (EL a b u lY l p aX dW aE bz))))))/\(¬nF dW q-> ∀(get':D->Option D),cj get'->CG get' aE->ob (ju a) (bif qu i a then o4 ae s t one two else ob (vE one l p aX) (bif mf i b then ob (Zf i b) (ob (Zh i b) (ob (Zj b i) (Gn b i ae s t one l p aX two a (n9 b i) (jg::yC::Gm u lY get' bz)))) else ob (Zm i) (ae (PX.normal,S.mk 140 (gL s::gM t::gJ::kX a::kY b::lQ::yF one l p aX::yD two i) (CD a b u lY get' bz))))))))) else bif mf i b then ob (Zf i b) (ob (Zh i b) (ob (Zj b i) ((∃(p:Int) (q:Int) (aX:List UInt8) (l:List (List UInt8)) (dW:Int) (u:List (List UInt8)) (lY:Int) (aE:D->Option D) (bz:Int),n9 b i=[qh,P.d (D.agg (Zs::qx p q aX))]/\qq ps m qs k get c=qq l dW u lY aE bz/\ER p q aX aE l dW/\(nF dW q->ob (ju b) (bif qw i b then o4 ae s t one two else ob (qv two) (ob (Zm i) (ae (PX.normal,S.mk 140 (AF s t a b one two i) (EP a b l p aX dW u lY aE bz))))))/\(¬nF dW q-> ∀(get':D->Option D),cj get'->EO get' aE->ob (ju b) (bif qu i b then o4 ae s t one two else ob (vE two l p aX) (ob (Zm i) (ae (PX.normal,S.mk 140 (gL s::gM t::gJ::kX a::kY b::lQ::vS one::yG two l p aX i) (EN a b u lY get' bz)))))))\/ ∃(p:Int) (q:Int) (aX:List UInt8) (u:List (List UInt8)) (lY:Int) (l:List (List UInt8)) (dW:Int) (aE:D->Option D) (bz:Int),n9 b i=[qh,P.d (D.agg (D.int .i64 (2:Int)::qx p q aX))]/\qq ps m qs k get c=qq u lY l dW aE bz/\EM p q aX aE l dW/\(nF dW q->ob (ju b) (bif qw i b then o4 ae s t one two else ob (qv two) (ob (Zm i) (ae (PX.normal,S.mk 140 (AF s t a b one two i) (EL a b u lY l p aX dW aE bz))))))/\(¬nF dW q-> ∀(get':D->Option D),cj get'->CG get' aE->ob (ju b) (bif qu i b then o4 ae s t one two else ob (vE two l p aX) (ob (Zm i) (ae (PX.normal,S.mk 140 (gL s::gM t::gJ::kX a::kY b::lQ::vS one::yG two l p aX i) (CD a b u lY get' bz))))))))) else ob (Zm i) (ae (PX.normal,S.mk 140 (B1 s t a b one two i) (Zc a::qt b::CI::CH::z7 ps m::z6 ps::Gk qs k get c)))
theorem D0(s t:List UInt8)(a b:List bx)(one two:List UInt8)(i:Int)(ps:List (List UInt8))(m:Int)(qs:List (List UInt8))(k:Int)(get:D->Option D)(c:Int)(ae:PX×S->Prop):(bif mf i a then Gr i a ps m qs k get c ae s t one two b else bif mf i b then Gr i a ps m qs k get c ae s t one two b else B0 ae s t one two)=(dx [(13,EE)] [] 7 13 (Gc s t a b one two i ps m qs k get c)) ae:=by kernel_rfl
theorem yc(s t:List UInt8)(P Q:List (List UInt8))(get:D->Option D)(c i:Int)(one two:List UInt8)(ae:PX×S->Prop)(I:vD s t P Q get i)(hc:0<i/\i<P.length/\i<Q.length)
  (h1:one=if(P.length:Int)<=i then s else []) (h2:two=if(Q.length:Int)<=i then t else []) (hp:DW s t P Q i ae):
  dx [(13,EE)] [] 7 13 (Gc s t (cT 1 1 P.length P) (cT 2 1 Q.length Q) one two i (aV P i.toNat) i (aV Q i.toNat) i get c) ae:=by
 (rw[<-D0];delta x0 vS gJ gM gL B0 x4 vz Z3 ZR Gk z6 z7 Zs tj uf CH CI Zb qt Zc Zn AB yD rN lQ Z2 kY kX B1 Zg yG AE AF EH zZ CD yC CG yH vR EL CB qd qe CA zW xU Gl rZ Aa EM EN yF Gm jg Az AA x2 BW vE qu x3 DY B2 B7 Zl Zk Zm qv ZK qw ju nF x6 xS qp vU qx qh Hd Gn EO EP x5 AG AH vT DC BX qq He Gp CJ ER Hf Gq o4 Zi Zo Zp n9 Zj Zh Zf mf Gr)
 have B3:(cT 1 1 P.length P).length=P.length:=aZ _ _ _ _;have B4:(cT 2 1 Q.length Q).length=Q.length:=aZ _ _ _ _;have hN:=I.hN;have hM:=I.hM;have hi:=I.hi;have hU:=I.hU;have g1:=I.g1;have g2:=I.g2;have lu:=I.lu;have z8:=I.z8;have hs:=I.hs;have ht:=I.ht;simp only[zar];rw[B3,B4];have ho:one=[]:=by rw[h1,zav (by omega)]
 have hw:two=[]:=by rw[h2,zav (by omega)]
 have Gh:one.length=0:=by rw[ho];rfl
 have Gi:two.length=0:=by rw[hw];rfl
 have mg:i.toNat<P.length:=by omega
 have AK:i.toNat<(cT 1 1 P.length P).length:=by omega
 have DX:=I.hP P[i.toNat] (zaH mg);rw[jQ AK,iU 1 1 P mg AK];have kC:i.toNat<Q.length:=by omega
 have AL:i.toNat<(cT 2 1 Q.length Q).length:=by omega
 have B5:=I.hQ Q[i.toNat] (zaH kC);rw[jQ AL,iU 2 1 Q kC AL];have zP:(aV P i.toNat).set i.toNat P[i.toNat]=aV P (i+1).toNat:=by rw[show(i+1).toNat=i.toNat+1 by omega,dO P mg]
 have D1:(aV P i.toNat).length=P.length:=dN P (by omega);have Gs:=gu P mg;rw[hs] at Gs;have IF:(Lib.join ((aV P i.toNat).set (i.toNat:Int).toNat P[i.toNat]) []).length<=s.length:=Gs;have zQ:(aV Q i.toNat).set i.toNat Q[i.toNat]=aV Q (i+1).toNat:=by rw[show(i+1).toNat=i.toNat+1 by omega,dO Q kC]
 have D2:(aV Q i.toNat).length=Q.length:=dN Q (by omega);have ES:=gu Q kC;rw[ht] at ES;have IG:(Lib.join ((aV Q i.toNat).set (i.toNat:Int).toNat Q[i.toNat]) []).length<=t.length:=ES;refine br (λg=>br (λ_=> ?_) λg'=>absurd g g') (λg=>absurd hc.2.1 g);refine aA ⟨hi.1,g⟩ (aA mg (ez (qf _) (.inl ⟨i.toNat,P.length,P[i.toNat],aV P i.toNat,i,aV Q i.toNat,i,get,c,rfl,rfl,⟨⟨⟨by decide,by omega,DX.1,by omega⟩,hU,by rw[g1];exact zaK (by omega)⟩,by omega,by omega,by omega,zaB Gs (by omega),fQ P mg⟩,λe=> ?_,λe x9 u1 u2=> ?_⟩)))
 ·refine aA (by omega) (bw (AI (by omega)) (aA (by omega) (br (λg'=> ?_) λg'=>absurd hc.2.2 g')));refine aA ⟨hi.1,g'⟩ (aA kC (ez (qf _) (.inr ⟨i.toNat,Q.length,Q[i.toNat],(aV P i.toNat).set i.toNat P[i.toNat],i+1,aV Q i.toNat,i,get,c,rfl,rfl,⟨⟨⟨by decide,by omega,B5.1,by omega⟩,hU,by rw[g2];exact zaK (by omega)⟩,by omega,by omega,by omega,zaB ES (by omega),fQ Q kC⟩,λe2=> ?_,λe2 B6 u3 u4=> ?_⟩)))
  ·refine aA (by omega) (bw (AI (by omega)) (aA (by omega) (aA (by omega) ?_)));refine hp.p2 _ _ _ _ _ _ _ _ _ _ (I.step (by omega) hU (gK g1 (by omega)) (gK g2 (by omega))) (by omega) (by omega) ?_ ?_ ?_ ?_ ?_ ?_ ?_ ?_
   ·rw[ho];rfl
   ·rw[hw];rfl
   ·exact zP
   ·rfl
   ·rw[zas,D1]
   ·exact zQ
   ·rfl
   rw[zas,D2]
  refine aA (by omega) (bw (AJ (by omega)) (aA (by omega) (aA (by omega) ?_)));refine hp.pa _ _ _ _ _ _ _ (I.step (by omega) u3 (gO u4 rQ (gK g1 (by omega))) (gT u4 (by omega))) (by omega) (by omega) ?_ ?_ ?_ ?_ ?_
  ·rw[ho];rfl
  ·refine zbV (kZ hw (fR Q kC (by omega))) ?_;rw[ht];rfl
  ·exact zP
  ·rfl
  rw[zas,D1]
 refine aA (by omega) (bw (AJ (by omega)) (aA (by omega) (br (λg'=> ?_) λg'=>absurd hc.2.2 g')));refine aA ⟨hi.1,g'⟩ (aA kC (ez (qf _) ⟨2,i.toNat,Q.length,Q[i.toNat],aV Q i.toNat,i,x9,c+1,rfl,rfl,⟨⟨⟨by decide,by omega,B5.1,by omega⟩,u1,by rw[gO u2 rP g2];exact zaK (by omega)⟩,by omega,by omega,by omega,zaB ES (by omega),fQ Q kC⟩,λe2=> ?_,λe2 B6 u3 u4=> ?_⟩))
 ·refine aA (by omega) (bw (AI (by omega)) (aA (by omega) (aA (by omega) ?_)));refine hp.pb _ _ _ _ _ _ _ (I.step (by omega) u1 (gT u2 (by omega)) (gO u2 rP (gK g2 (by omega)))) (by omega) (by omega) ?_ ?_ ?_ ?_ ?_
  ·refine zbV (kZ ho (fR P mg (by omega))) ?_;rw[hs];rfl
  ·rw[hw];rfl
  ·exact zQ
  ·rfl
  rw[zas,D2]
 refine aA (by omega) (bw (AJ (by omega)) (aA (by omega) (aA (by omega) ?_)));refine hp.p0 _ _ _ _ (I.step (by omega) u3 (gO u4 rQ (gT u2 (by omega))) (gT u4 (by omega))) (by omega) (by omega) ?_ ?_
 ·refine zbV (kZ ho (fR P mg (by omega))) ?_;rw[hs];rfl
 refine zbV (kZ hw (fR Q kC (by omega))) ?_;rw[ht];rfl
def yd:S->K (PX×S):=λst ae=> ∃s t P Q,st=EC s t (cT 1 1 P.length P) (cT 2 1 Q.length Q) [] [] 0 (λ_=>none) 0/\
 ((1<=P.length/\P.length<=1000)/\(1<=Q.length/\Q.length<=1000)/\(∀p∈P,p≠[]/\p.length<=1000)/\(∀p∈Q,p≠[]/\p.length<=1000)/\P.flatten=s/\Q.flatten=t/\s.length<=1000/\t.length<=1000)/\
 ae (.exit 0,⟨140,[(0,sD s),(1,sD t),(7,.d (.bool true)),(13,sD s),(14,sD t)],[]⟩)
section
variable{X:XF}
theorem qi(s t:List UInt8)(P Q:List (List UInt8))(one two:List UInt8)(i:Int)(r:List (Nat×En)):(⟨140,DO s t (cT 1 1 P.length P).length (cT 2 1 Q.length Q).length one two i,(0,⟨0,none,jf false (cT 1 1 P.length P)⟩)::(1,⟨0,none,jf false (cT 2 1 Q.length Q)⟩)::r⟩:S)=DV s t P Q one two i r:=by rw[aZ,aZ]
theorem ye:LD X 7 13 (bQ (me 7 13) yd):=LD.Gb (hk:=[]) (by kernel_rfl) (by kernel_rfl) .nil
 (A:=List UInt8×List UInt8×List (List UInt8)×List (List UInt8)) (B:=(D->Option D)×Int×Int) iH
 (λa b=>vD a.1 a.2.1 a.2.2.1 a.2.2.2 b.1 b.2.2) (λa b=>(((a.2.2.1.length+a.2.2.2.length:Nat):Int)-b.2.2).toNat)
 (λa x=>x=(.exit 0,⟨140,[(0,sD a.1),(1,sD a.2.1),(7,.d (.bool true)),(13,sD a.1),(14,sD a.2.1)],[]⟩))
 (by
  rintro⟨s,t,P,Q⟩ ⟨get,c,i⟩ I;dsimp only at I⊢;have hi:=I.hi;have hN:=I.hN;have hM:=I.hM;have hp:DW s t P Q i (roundPost (((P.length+Q.length:Nat):Int)-i).toNat (λm st=> ∃b',st=iH (s,t,P,Q) b'/\vD s t P Q b'.1 b'.2.2/\m=(((P.length+Q.length:Nat):Int)-b'.2.2).toNat)
    (λx=>x=(.exit 0,⟨140,[(0,sD s),(1,sD t),(7,.d (.bool true)),(13,sD s),(14,sD t)],[]⟩))):=by
   refine⟨λget' c' one two I' a b e1 e2=> ?_,λget' c' one two ps m fl I' a b e1 e2 e3 e4 e5=> ?_,λget' c' one two ps m fl I' a b e1 e2 e3 e4 e5=> ?_,λget' c' one two ps m fl qs k gl I' a b e1 e2 e3 e4 e5 e6 e7 e8=> ?_⟩
   ·refine⟨_,?_,(get',c',i+1),?_,I',rfl⟩
    ·have kB:=I'.hi;dsimp only;omega
    unfold iH;dsimp only;rw[zav (by omega),zav (by omega),zat a,zat b,e1,e2];exact(qi _ _ _ _ _ _ _ _).symm
   ·refine⟨_,?_,(get',c',i+1),?_,I',rfl⟩
    ·have kB:=I'.hi;dsimp only;omega
    unfold iH;dsimp only;rw[zat ⟨by omega,a⟩,zav (by omega),zav (by omega),zat b,e1,e2,e3,e4,e5];have:=dN P (i:=(i+1).toNat) (by omega);rw[<-qi,<-this]
   ·refine⟨_,?_,(get',c',i+1),?_,I',rfl⟩
    ·have kB:=I'.hi;dsimp only;omega
    unfold iH;dsimp only;rw[zav (by omega),zat ⟨by omega,b⟩,zat a,zav (by omega),e1,e2,e3,e4,e5];have:=dN Q (i:=(i+1).toNat) (by omega);rw[<-qi,<-this]
   refine⟨_,?_,(get',c',i+1),?_,I',rfl⟩
   ·have kB:=I'.hi;dsimp only;omega
   unfold iH;dsimp only;rw[zat ⟨by omega,a⟩,zat b,zav (by omega),zav (by omega),e1,e2,e3,e4,e5,e6,e7,e8];have h1:=dN P (i:=(i+1).toNat) (by omega);have h2:=dN Q (i:=(i+1).toNat) (by omega);rw[<-qi,<-h1,<-h2]
  unfold iH;dsimp only;by_cases h1:0<i/\i<P.length
  ·rw[zat h1];by_cases h2:i<Q.length
   ·rw[zat h2];exact⟨_,.cons Gf .nil,yc s t P Q get c i _ _ _ I ⟨h1.1,h1.2,h2⟩ rfl rfl hp⟩
   rw[zav h2];exact⟨_,.cons DS .nil,ya s t P Q get c i _ _ _ I ⟨h1.1,h1.2,by omega⟩ rfl rfl hp⟩
  rw[zav h1];by_cases h2:0<i/\i<Q.length
  ·rw[zat h2];exact⟨_,.cons DS .nil,yb s t P Q get c i _ _ _ I ⟨h2.1,h2.2,by omega⟩ rfl rfl hp⟩
  rw[zav h2];exact⟨_,.cons Ge .nil,x8 s t P Q get c i _ _ _ I (by omega) rfl rfl hp rfl⟩)
 (by
  rintro st ae ⟨s,t,P,Q,rfl,⟨h1,h2,h3,h4,h5,h6,h7,h8⟩,hp⟩;refine⟨(s,t,P,Q),(λ_=>none,0,0),?_,⟨h1,h2,h3,h4,h5,h6,h7,h8,⟨Int.le_refl _,by dsimp only;omega⟩,λk=>rfl,(zaK (by dsimp only;omega)).symm,(zaK (by dsimp only;omega)).symm⟩,?_⟩
  ·unfold iH;dsimp only;rw[zav (by omega),zav (by omega),zav (by omega),zav (by omega)]
  rintro x rfl;exact hp)
end
def D3:List (Nat×P):=[lQ,(13,ZY),(14,ZY),(15,ZD)]
def CK:List (Nat×En):=[AA,Az,(4,En.mk 0 none (Obj.map 58 (λ(_:D)=>none) (0:Int) false))]
def Gt:List (Nat×P):=(10,P.sl 1 0 0)::D3
def Gu(P:List (List UInt8)):Prop:= ∀(p:List UInt8),p∈P->p≠[]/\List.length p<=1000
def D4(ae:P×List (Nat×En)->Prop):S->Prop:=λ(s0:S)=> ∃(D5:List UInt8) (D6:List UInt8) (P:List (List UInt8)) (Q:List (List UInt8)),s0=S.mk 140 (gL D5::gM D6::gJ::(8,Pi.P.sl 0 0 (List.length (cT (1:Int) (1:Int) (rZ P) P)))::(10,Pi.P.sl 1 0 (List.length (cT (2:Int) (1:Int) (rZ Q) Q)))::D3) ((0,En.mk 0 none (Obj.arr (37:TypeId) false (List.map kW (cT (1:Int) (1:Int) (rZ P) P))))::(1,En.mk 0 none (Obj.arr (37:TypeId) false (List.map kW (cT (2:Int) (1:Int) (rZ Q) Q))))::CK)/\((1<=List.length P/\List.length P<=1000)/\(1<=List.length Q/\List.length Q<=1000)/\Gu P/\Gu Q/\List.flatten P=D5/\List.flatten Q=D6/\List.length D5<=1000/\List.length D6<=1000)/\bif D5==D5 then ae (Pi.P.d (D.bool (D6==D6)),[]) else ZM ae
def ET(t:List UInt8)(z:Int):List P:=[P.d Zs,P.d (D.str t),P.d (D.int .i64 ((1:Int)+z))]
def EU(z:Int):Bool:=decide (Zk<=(1:Int)+z/\(1:Int)+z<=Zl)
def EV(z:Int):Bool:=decide (Zk<=z/\z<=Zl)
theorem Ab(s t:List UInt8)(z:Int)(ae:P×List (Nat×En)->Prop):(ZP/\ZQ/\bif decide (Z0 s>(1000:Int)) then ZO ae else bif decide (Z0 t>(1000:Int)) then ZO ae else bif s==[] then ZO ae else bif t==[] then ZO ae else ob (EV z) (ob (EU z) (∃(a:Int) (n:Int) (aX:List UInt8) (qn:Int),P.d Zs::ET s z=ZS a n aX qn/\ZQ/\ZT aX qn/\(∀(e:Int),e=fb a n aX qn->e≠(0:Int)->ob (EV z) (ob (EU z) (∃(a:Int) (n:Int) (b8:List UInt8) (yf:Int),P.d (D.int .i64 (2:Int))::ET t z=ZS a n b8 yf/\ZQ/\ZT b8 yf/\(∀(Gv:Int),Gv=fb a n b8 yf->Gv≠(0:Int)->ZP/\ZQ/\bif e !=(0:Int) then ZM ae else bif Gv !=(0:Int) then ZM ae else D4 ae (S.mk 140 (gL s::gM t::gJ::(8,Zr)::Gt) ((0,Zu)::(1,Zu)::CK)))/\(fb a n b8 yf=(0:Int)-> ∀(l:List bx),l=tf a n b8 yf->ZP/\ZQ/\bif e !=(0:Int) then ZM ae else D4 ae (S.mk 140 (gL s::gM t::gJ::(8,Zr)::kY l::D3) ((0,Zu)::qt l::CK))))))/\(fb a n aX qn=(0:Int)-> ∀(l:List bx),l=tf a n aX qn->ob (EV z) (ob (EU z) (∃(a:Int) (n:Int) (b8:List UInt8) (yf:Int),P.d (D.int .i64 (2:Int))::ET t z=ZS a n b8 yf/\ZQ/\ZT b8 yf/\(∀(e:Int),e=fb a n b8 yf->e≠(0:Int)->ZP/\ZQ/\bif e !=(0:Int) then ZM ae else D4 ae (S.mk 140 (gL s::gM t::gJ::kX l::Gt) (Zc l::(1,Zu)::CK)))/\(fb a n b8 yf=(0:Int)-> ∀(eZ:List bx),eZ=tf a n b8 yf->ZP/\ZQ/\D4 ae (S.mk 140 (gL s::gM t::gJ::kX l::kY eZ::D3) (Zc l::qt eZ::CK)))))))))=(gD [(8,tg),(9,BM),(12,xT)] [(13,bQ (me 7 13) yd)] 7 [sD s,sD t,.d (.int .u8 z)] []) ae:=by kernel_rfl
theorem B9{n:Int}(hw:(Lit.int .u8 n).wf=true):0<=n/\n<=255:=by
 have h1:IntKind.min .u8=0:=by decide
 have h2:IntKind.max .u8=255:=by decide
 replace hw:(decide (IntKind.min .u8<=n)&&decide (n<=IntKind.max .u8))=true:=hw
 rw[h1,h2,zac,zaE,zaE] at hw;exact hw
def Ca:eY:=λps R ae=> ∃s t z,ps=[sD s,sD t,.d (.int .u8 z)]/\R=[]/\(0<=z/\z<=255)/\ae (.d (.bool true),[])
theorem yg{a n z:Int}{s:List UInt8}(ha:1<=a/\a<=16/\0<=n)(hz:0<=z)(hs:s≠[])(hl:s.length<=1000):fb a n s (1+z)=0:=by have h0:0<s.length:=zaJ.2 hs;have h:(s.length-1)/(1+z).toNat<=s.length-1:=Nat.div_le_self _ _;unfold fb;rw[zav (by omega),zav hs,zav (by omega)]
section
variable{X:XF}
theorem Ac:FD X 7 Ca:=FD.mk (H:=[(8,tg),(9,BM),(12,xT)]) (hk:=[(13,bQ (me 7 13) yd)]) (by kernel_rfl) (.cons vB (.cons DG (.cons BZ .nil))) (.cons ye .nil) (by
 intro ps R ae hh;obtain⟨s,t,z,ep,er,⟨z0,z1⟩,hp⟩:=hh
 (rw[ep,er,<-Ab];delta Zb Zc Z2 kX qt ZD ZY rN lQ D3 kY Az AA CK Zu Gt Zr gJ gM gL ZK ZM Gu rZ D4 Zl ZT Z3 ZR ZS Zs ET Zk EU EV ZO Z0 ZQ ZP)
 refine⟨rfl,rfl,br (λ_=>hp) λh1=>br (λ_=>hp) λh2=>oX (λ_=>hp) λh3=>oX (λ_=>hp) λh4=> ?_⟩;have hs:s≠[]:=by simpa using h3
 have ht:t≠[]:=by simpa using h4
 have c1:=yg (a:=1) (n:=1) (by decide) z0 hs (by omega);have c2:=yg (a:=2) (n:=1) (by decide) z0 ht (by omega);have hz:0<(1+z).toNat:=by omega
 have b1:=rO c1;have b2:=rO c2;unfold tf at b1 b2;rw[aZ] at b1 b2;have n1:=kV hz s hs;have n2:=kV hz t ht;refine aA (by omega) (aA (by omega) ⟨1,1,s,1+z,rfl,rfl,⟨by omega,by omega⟩,λe he bY=>absurd (he.trans c1) bY,λ_ l hl=>aA (by omega) (aA (by omega) ⟨2,1,t,1+z,rfl,rfl,⟨by omega,by omega⟩,λe he bY=>absurd (he.trans c2) bY,λ_ m hm=>⟨rfl,rfl,s,t,chunk (1+z).toNat s,chunk (1+z).toNat t,?_,?_,?_⟩⟩)⟩)
 ·rw[hl,hm];rfl
 ·exact⟨⟨by rw[n1];exact Nat.le_add_left _ _,b1⟩,⟨by rw[n2];exact Nat.le_add_left _ _,b2⟩,λp hp=>⟨rL hz s p hp,by have:=rM hz s p hp;omega⟩,λp hp=>⟨rL hz t p hp,by have:=rM hz t p hp;omega⟩,nC hz s,nC hz t,by omega,by omega⟩
 simp only[zbQ,zbs];exact hp)
end
theorem jR(xs:List D)(h:jP PR 8 [9,9,5] xs): ∃lf k R,cW PR (Ct xP) lf k 7 (xs.map P.d) []=some (.d (.bool true),R):=by obtain⟨x,r,rfl,hx,h⟩:=fitAll_cons h;obtain⟨y,r,rfl,hy,h⟩:=fitAll_cons h;obtain⟨u,r,rfl,hu,h⟩:=fitAll_cons h;have e:=fitAll_nil h;subst e;obtain⟨s,rfl,_⟩:=rD Try.underlying9 hx;obtain⟨t,rfl,_⟩:=rD Try.underlying9 hy;obtain⟨z,rfl,hz⟩:=xM Try.underlying5 hu;obtain⟨lf,k,hr⟩:=(Ac (X:=xP)).run (y:=(.d (.bool true),[])) ⟨s,t,z,rfl,rfl,B9 hz,rfl⟩;exact⟨lf,k,[],hr⟩
end Pi
