/- The text PiExec. -/
import Derived.Test.YtfelfooeclnbiaaPiIter
import Derived.Laws.BytesArg
namespace Pi
open Go
section
variable{Q:Program}{T:Tg}{F:Nat->Prop}{G:Nat->Value}{w:World}{a:Act}{s:S}
theorem lg: ∀(es:List D) (l:List UInt8),dQ es=some l-> ∃ns:List Int,es=ns.map (D.int .u8)/\l=ns.map λn=>UInt8.ofNat n.toNat
 | [],l,h=>by simp[dQ] at h;subst h;exact⟨[],rfl,rfl⟩
 |x::es,l,h=>by
  cases x<;>try (simp[dQ] at h;done)
  rename_i k n;cases k<;>try (simp[dQ] at h;done)
  simp only[dQ] at h;cases hb:dQ es with
  |none=>simp[hb] at h
  |some l'=>simp[hb] at h;subst h;obtain⟨ns,rfl,rfl⟩:=lg es l' hb;exact⟨n::ns,rfl,rfl⟩
theorem uO{ns:List Int}{xs:List Value}(h:bT F w 1 (ns.map (D.int .u8)) xs):xs=ns.map (Value.int .u8):=by
 have hl:xs.length=ns.length:=by simpa using h.1
 apply zaJ;intro i;by_cases hi:i<ns.length
 ·obtain⟨h1,h2,h3⟩:=h.2 i (.int .u8 ns[i]) (by simp[hi]);have:=h3 0 (.int .u8 ns[i]) (by simp[D.cells]);simp only[zb9,zbj] at this;have e:xs.getD i undef= .int .u8 ns[i]:=this.cp rfl;have hx:i<xs.length:=by omega
  simp only[zah,zad hx,zb4] at e;rw[zad hx,e];simp[hi]
 rw[zaQ (by omega),zaQ (by simp;omega)]
theorem sv{t2:TypeId}{k:Nat}{p:P}{ys:List D}(hs:fi Q s t2 k p=some ys){e':TypeId}(ht:Q.underlying t2=some (.slice e')){v:Value}(hv:ao F w G s.rg v p): ∃ad n c,v= .slice ad n c:=by
 unfold fi at hs;split at hs
 next n ay len=>
  split at hs
  next ty fz es e' ho ow=>
   obtain⟨e,he,bP,aO⟩:=S.aJ ho;cases hv with
   |sl _ _ _ _ h1 hr=>obtain⟨a0,N,cap,hG,rfl,hle⟩:=hr.at he bP (by rw[aO];rfl);exact⟨_,_,_,rfl⟩
  cases hs
 next n ay k0 off len=>
  split at hs
  next ty fz es e' ho ow=>
   obtain⟨e,he,bP,aO⟩:=S.aJ ho;cases hv with
   |eZ _ _ _ _ _ _ h1 hr=>obtain⟨a0,N,cap,hG,hle,a1,iP,rfl,_⟩:=hr.at he bP (by rw[aO];rfl);exact⟨_,_,_,rfl⟩
  cases hs
 ·cases hv with
  |d hv=>cases hv<;>exact⟨_,_,_,rfl⟩
 ·cases hv with
  |d hv=>cases hv;exact⟨_,_,_,rfl⟩
 ·rw[ht] at hs;simp at hs
 cases hs
theorem nQ{src e dst:TypeId}(hs:Q.underlying src=some (.slice e))(he:Q.underlying e=some (.int .u8))(hd:Q.underlying dst=some .string){v:Value}{ys:List D}{news:List Value}{l:List UInt8}
  (qF: ∃ad n c,v= .slice ad n c) (nP:Src Q 1 src v ys.length news w) (hf:bT F w 1 ys news) (hb:dQ ys=some l):(Go.convert src dst v).run Q w= .ok (.string ⟨⟨l⟩⟩) w:=by
 obtain⟨ad,n,c,rfl⟩:=qF;obtain⟨ns,rfl,rfl⟩:=lg ys l hb;have hn:=uO hf;subst hn;have hlen:n=ns.length:=by have:=nP.len w;simp[Builtin.lenOf] at this;exact this
 subst hlen;have hc:=nP.cells;cases ad with
 |none=>
  simp[Builtin.firstCells] at hc;have:ns=[]:=by simpa using hc.symm
  subst this;rw[run_convert_bytes_nil w src e hs he _ _ dst hd];rfl
 |some ad=>simp only[Builtin.firstCells,zat,zb9] at hc;rw[run_convert_bytes_string w src dst e _ _ c hs he hd,run_bytesToString w _ _ c ns hc,foldl_push_bytes];simp[ByteArray.empty,ByteArray.emptyWithCapacity];rfl
def Cx(Q:Program)(o:Oper)(a:Act)(w:World)(v:Value)(w':World):Prop:=
 (execOp a.eval o).run Q w= .ok (.value v) w'\/((execOp a.eval o).run Q w= .ok .skip w'/\v=undef)
theorem Cy(h:ar Q T F G w a s){g:Option (Nat×Bool)}(hg:e9 a g){o:Oper}{s':S}(hs:ef Q s o g=some s'):
  ∃v w' F' G',Cx Q o a w v w'/\ar Q T F' G' w' (a.put o.dst v) s'/\Ext (Own G s.rg) (Own G' s'.rg) F F' w w':=by
 unfold ef at hs;unfold Cx execOp;split at hs
 next t ho=>
  split at hs
  next z hz=>
   obtain⟨zv,nw,qd⟩:=hD (F:=F) hz w;obtain⟨c1,c2,c3⟩:=bR qd;obtain⟨G',d1,d2⟩:=ov h hs (cs:=zv.cells) (by rw[c1];cases z<;>simp[P.cells,D.cells]) (eN qd) (λi v c hv hc=>by
    have: ∃x,c= .d x/\z.cells[i]?=some x:=by
     cases z<;>simp only[P.cells,D.cells] at hc⊢ <;>first
      | (simp only[zao,zak] at hc;obtain⟨x,hx,rfl⟩:=hc;exact⟨x,rfl,hx⟩)
      | (cases i<;>simp at hc⊢;exact hc.symm)
    obtain⟨x,rfl,hx⟩:=this;exact .d (c3 i v x hv hx))
   refine⟨_,_,F,G',.inl ?_,d1,d2⟩;simp[ho,Instr.alloc,nw,newVar,newRow]
  cases hs
 next t x ho=>
  have hx:=aw h hg x;split at hs
  next dk=>obtain⟨c1,c2,c3⟩:=ml hx dk;obtain⟨G',d1,d2⟩:=ov h hs c1 c3 c2;refine⟨_,_,F,G',.inl ?_,d1,d2⟩;simp[ho,Instr.box,newVar,newRow]
  cases hs
 next t ad x ho=>
  split at hs
  next s1 h1=>obtain⟨w',F',G',a8,d1,d2⟩:=uF h h1 (aw h hg ad) (aw h hg x);obtain⟨e1,e2⟩:=bh d1 hs (v:=undef) (bx.of (.bad _));refine⟨undef,w',F',G',.inr ⟨by simp[ho,a8],rfl⟩,e1,?_⟩;rw[e2];exact d2
  cases hs
 next t1 t2 x ho=>
  split at hs
  next e Gg ow=>
   split at hs
   ·rename_i ys he BS;split at hs
    next l hl=>obtain⟨news,nP,hf⟩:=py h (by omega) BS (aw h hg x);have hr:=nQ Gg he ow (sv BS Gg (aw h hg x)) nP hf hl;obtain⟨e1,e2⟩:=bh h hs (v:= .string ⟨⟨l⟩⟩) (bx.of (.d (.str l)));refine⟨_,w,F,G,.inl (by simp[ho,hr]),e1,?_⟩;rw[e2];exact Ext.refl _ _ _
    cases hs
   cases hs
  cases hs
 next c ho=>
  split at hs
  next ft=>
   split at hs
   ·rename_i x y t t2 bt mC;obtain⟨v,w',G',a8,d1,d2⟩:=sj (ty:=o.type) h hs (aw h hg x) (aw h hg y);have ea:c.args= #[x,y]:=by apply zaR.1;simpa using bt
    have et:c.argTypes= #[t,t2]:=by apply zaR.1;simpa using mC
    refine⟨v,w',F,G',.inl ?_,d1,d2⟩;simp[ho,resolve,ft,ea,et,invoke,builtin,a8]
   cases hs
  next ft=>
   split at hs
   ·rename_i x y t t2 bt mC;obtain⟨v,w',G',a8,d1,d2⟩:=w6 (ty:=o.type) h hs (aw h hg x) (aw h hg y);have ea:c.args= #[x,y]:=by apply zaR.1;simpa using bt
    have et:c.argTypes= #[t,t2]:=by apply zaR.1;simpa using mC
    refine⟨v,w',F,G',.inl ?_,d1,d2⟩;simp[ho,resolve,ft,ea,et,invoke,builtin,a8]
   cases hs
  next ft=>
   split at hs
   ·rename_i x t bt mC;obtain⟨v,w',G',a8,d1,d2⟩:=uK (ty:=o.type) h hs (aw h hg x);have ea:c.args= #[x]:=by apply zaR.1;simpa using bt
    have et:c.argTypes= #[t]:=by apply zaR.1;simpa using mC
    refine⟨v,w',F,G',.inl ?_,d1,d2⟩;simp[ho,resolve,ft,ea,et,invoke,builtin,a8]
   cases hs
  next ft=>
   split at hs
   ·rename_i x y t ts bt mC;have AL:c.argTypes[0]?=some t:=by rw[<-zbd,mC];rfl
    obtain⟨w',a8,d1,d2⟩:=yZ h hs (aw h hg x) (aw h hg y) c.argTypes AL o.type;have ea:c.args= #[x,y]:=by apply zaR.1;simpa using bt
    refine⟨_,w',F,G,.inl ?_,d1,d2⟩;simp[ho,resolve,ft,ea,invoke,builtin,a8]
   cases hs
  cases hs
 next t x y ho=>obtain⟨v,w',G',a8,d1,d2⟩:=wZ h hs (aw h hg x) (aw h hg y);exact⟨v,w',F,G',.inl (by simp[ho,a8]),d1,d2⟩
 next t ho=>
  split at hs
  ·obtain⟨v,w',G',a8,d1,d2⟩:=qD h hs;exact⟨v,w',F,G',.inl (by simp[ho,a8]),d1,d2⟩
  obtain⟨v,w',G',a8,d1,d2⟩:=qC h hs;exact⟨v,w',F,G',.inl (by simp[ho,a8]),d1,d2⟩
 next t m k x ho=>
  split at hs
  ·obtain⟨w',a8,d1,d2⟩:=sq h hs (aw h hg m) (aw h hg k) (aw h hg x);exact⟨undef,w',F,G,.inr ⟨by simp[ho,a8],rfl⟩,d1,d2⟩
  obtain⟨w',F',G',a8,d1,d2⟩:=mB h hs (aw h hg m) (aw h hg k) (aw h hg x);exact⟨undef,w',F',G',.inr ⟨by simp[ho,a8],rfl⟩,d1,d2⟩
 next t m k x ho=>obtain⟨w',F',G',a8,d1,d2⟩:=mB h hs (aw h hg m) (aw h hg k) (aw h hg x);exact⟨undef,w',F',G',.inr ⟨by simp[ho,a8],rfl⟩,d1,d2⟩
 next t x ho=>obtain⟨v,w',F',G',a8,d1,d2⟩:=uM h hs (aw h hg x);exact⟨v,w',F',G',.inl (by simp[ho,a8]),d1,d2⟩
 next t m k ho=>obtain⟨v,w',F',G',a8,d1,d2⟩:=sr h hs (aw h hg m) (aw h hg k);exact⟨v,w',F',G',.inl (by simp[ho,a8]),d1,d2⟩
 next t m st x ho=>obtain⟨w',F',G',a8,d1,d2⟩:=uL (t:=t) h hs (aw h hg m) (aw h hg st) (aw h hg x);exact⟨undef,w',F',G',.inr ⟨by simp[ho,a8],rfl⟩,d1,d2⟩
 next t len parts ho=>obtain⟨v,w',F',G',a8,d1,d2⟩:=uI (vs:=parts.map λ(i,x)=>(i,a.eval x)) h hs (by simp) (λi x y hx hy=>by simp only[zb3,zao,zak] at hx hy;obtain⟨z,hz,rfl⟩:=hx;obtain⟨z',Cz,rfl⟩:=hy;rw[hz] at Cz;cases Cz;exact⟨rfl,aw h hg z.2⟩);exact⟨v,w',F',G',.inl (by simp[ho,a8]),d1,d2⟩
 cases hs
theorem w9(h:ar Q T F G w a s){g:Option (Nat×Bool)}(hg:e9 a g){o:Oper}{s':S}(hs:dL Q s o g=some s'):
  ∃v w' F' G',Cx Q o a w v w'/\ar Q T F' G' w' (a.put o.dst v) s'/\Ext (Own G s.rg) (Own G' s'.rg) F F' w w':=by
 unfold dL at hs;split at hs
 next e yj=>
  split at hs
  next s1 v hn=>
   unfold bm at yj;split at yj
   next ho=>obtain⟨h1,h2,h3,h4⟩:=eT h hn (g1:= .slice none 0 0) (w':=w) (λ_ _=>rfl) (zaf _) rfl rfl rfl (λb hb=>by simp[aH,au] at hb) (.inl ⟨ax _ _ _,rfl⟩);obtain⟨c1,c2⟩:=bh h1 hs (v:= .slice none 0 0) (bx.of (.sl (site o.dst) v 0 _ rfl ⟨_,h4,zaf _,λ_ _=>⟨none,0,0,ax _ _ _,rfl,zaf _⟩⟩));refine⟨.slice none 0 0,w,F,_,.inl (by simp[execOp,ho,Act.eval]),c1,?_⟩;rw[c2];exact h2
   cases yj
  cases hs
 split at hs
 next p hp=>obtain⟨v,a8,hv⟩:=Cm h hg hp;obtain⟨c1,c2⟩:=bh h hs (bx.of hv);refine⟨v,w,F,G,.inl a8,c1,?_⟩;rw[c2];exact Ext.refl _ _ _
 exact Cy h hg hs
theorem kH{o:Oper}{t:TypeId}{len:Nat}{parts:List (Nat×Operand)}(h:jl o=some (t,len,parts)): ∃ps,o.op= .buildSlice t len ps/\parts=ps.toList/\o.type=4000000:=by
 unfold jl at h;split at h
 next t' Hg ps ho=>
  split at h
  next hb=>cases h;exact⟨ps,ho,rfl,zab hb⟩
  cases h
 cases h
theorem y9(h:ar Q T F G w a s){g:Option (Nat×Bool)}(hg:e9 a g){o:Oper}{s':S}(hs:exec Q s o g=some s'):
  ∃v w' F' G',Cx Q o a w v w'/\ar Q T F' G' w' (a.put o.dst v) s'/\Ext (Own G s.rg) (Own G' s'.rg) F F' w w':=by
 unfold exec at hs;split at hs
 next t len parts hm=>
  obtain⟨ps,ho,rfl,_⟩:=kH hm;split at hs
  next p hp=>obtain⟨v,w',F',g1,g2,g3,g4⟩:=w5 h hp (vs:=ps.map λx=>(x.1,a.eval x.2)) (by simp) (λi x y hx hy=>by simp only[zb3,zao,zak] at hx hy;obtain⟨z,hz,rfl⟩:=hx;obtain⟨z',Cz,rfl⟩:=hy;rw[hz] at Cz;cases Cz;exact⟨rfl,aw h hg _⟩);obtain⟨c1,c2⟩:=bh g2 hs (bx.of g3);exact⟨v,w',F',G,.inl (by simp[execOp,ho,g1]),c1,by rw[c2];exact g4⟩
  cases hs
 exact w9 h hg hs
end
end Pi
