/- The text PiExec. -/
import Derived.Test.YtfelfooeclnbiaaPiIter
import Derived.Laws.BytesArg
namespace Pi
open Go
section
variable{Q:Program}{T:Tg}{F:Nat->Prop}{G:Nat->Value}{w:World}{a:Act}{s:S}
theorem kz: ∀(es:List D) (l:List UInt8),dI es=some l-> ∃ns:List Int,es=ns.map (D.int .u8)/\l=ns.map λn=>UInt8.ofNat n.toNat
 | [],l,h=>by simp[dI] at h;subst h;exact⟨[],rfl,rfl⟩
 |x::es,l,h=>by
  cases x<;>try (simp[dI] at h;done)
  rename_i k n;cases k<;>try (simp[dI] at h;done)
  simp only[dI] at h;cases hb:dI es with
  |none=>simp[hb] at h
  |some l'=>simp[hb] at h;subst h;obtain⟨ns,rfl,rfl⟩:=kz es l' hb;exact⟨n::ns,rfl,rfl⟩
theorem tv{ns:List Int}{xs:List Value}(h:bJ F w 1 (ns.map (D.int .u8)) xs):xs=ns.map (Value.int .u8):=by
 have hl:xs.length=ns.length:=by simpa using h.1
 apply za5;intro i;by_cases hi:i<ns.length
 ·obtain⟨h1,h2,h3⟩:=h.2 i (.int .u8 ns[i]) (by simp[hi]);have:=h3 0 (.int .u8 ns[i]) (by simp[D.cells]);simp only[zb1,zbb] at this;have e:xs.getD i undef= .int .u8 ns[i]:=this.bW rfl;have hx:i<xs.length:=by omega
  simp only[zah,zab hx,zbU] at e;rw[zab hx,e];simp[hi]
 rw[zbC (by omega),zbC (by simp;omega)]
theorem rn{t2:TypeId}{k:Nat}{p:P}{ys:List D}(hs:eW Q s t2 k p=some ys){e':TypeId}(ht:Q.underlying t2=some (.slice e')){v:Value}(hv:ao F w G s.rg v p): ∃ad n c,v= .slice ad n c:=by
 unfold eW at hs;split at hs
 next n aw len=>
  split at hs
  next ty fz es e' ho nE=>
   obtain⟨e,he,bE,aN⟩:=S.aJ ho;cases hv with
   |sl _ _ _ _ h1 hr=>obtain⟨a0,N,cap,hG,rfl,hle⟩:=hr.at he bE (by rw[aN];rfl);exact⟨_,_,_,rfl⟩
  cases hs
 next n aw k0 off len=>
  split at hs
  next ty fz es e' ho nE=>
   obtain⟨e,he,bE,aN⟩:=S.aJ ho;cases hv with
   |eL _ _ _ _ _ _ h1 hr=>obtain⟨a0,N,cap,hG,hle,a1,ie,rfl,_⟩:=hr.at he bE (by rw[aN];rfl);exact⟨_,_,_,rfl⟩
  cases hs
 ·cases hv with
  |d hv=>cases hv<;>exact⟨_,_,_,rfl⟩
 ·cases hv with
  |d hv=>cases hv;exact⟨_,_,_,rfl⟩
 ·rw[ht] at hs;simp at hs
 cases hs
theorem mW{src e dst:TypeId}(hs:Q.underlying src=some (.slice e))(he:Q.underlying e=some (.int .u8))(hd:Q.underlying dst=some .string){v:Value}{ys:List D}{news:List Value}{l:List UInt8}
  (vG: ∃ad n c,v= .slice ad n c) (mV:Src Q 1 src v ys.length news w) (hf:bJ F w 1 ys news) (hb:dI ys=some l):(Go.convert src dst v).run Q w= .ok (.string ⟨⟨l⟩⟩) w:=by
 obtain⟨ad,n,c,rfl⟩:=vG;obtain⟨ns,rfl,rfl⟩:=kz ys l hb;have hn:=tv hf;subst hn;have hlen:n=ns.length:=by have:=mV.len w;simp[Builtin.lenOf] at this;exact this
 subst hlen;have hc:=mV.cells;cases ad with
 |none=>
  simp[Builtin.firstCells] at hc;have:ns=[]:=by simpa using hc.symm
  subst this;rw[run_convert_bytes_nil w src e hs he _ _ dst hd];rfl
 |some ad=>simp only[Builtin.firstCells,zaD,zb1] at hc;rw[run_convert_bytes_string w src dst e _ _ c hs he hd,run_bytesToString w _ _ c ns hc,foldl_push_bytes];simp[ByteArray.empty,ByteArray.emptyWithCapacity];rfl
def Av(Q:Program)(o:Oper)(a:Act)(w:World)(v:Value)(w':World):Prop:=
 (execOp a.eval o).run Q w= .ok (.value v) w'\/((execOp a.eval o).run Q w= .ok .skip w'/\v=undef)
theorem Aw(h:ar Q T F G w a s){g:Option (Nat×Bool)}(hg:eN a g){o:Oper}{s':S}(hs:ef Q s o g=some s'):
  ∃v w' F' G',Av Q o a w v w'/\ar Q T F' G' w' (a.put o.dst v) s'/\Ext (Own G s.rg) (Own G' s'.rg) F F' w w':=by
 unfold ef at hs;unfold Av execOp;split at hs
 next t ho=>
  split at hs
  next z hz=>
   obtain⟨zv,mI,ph⟩:=gI (F:=F) hz w;obtain⟨c1,c2,c3⟩:=bG ph;obtain⟨G',d1,d2⟩:=nD h hs (cs:=zv.cells) (by rw[c1];cases z<;>simp[P.cells,D.cells]) (ey ph) (λi v c hv hc=>by
    have: ∃x,c= .d x/\z.cells[i]?=some x:=by
     cases z<;>simp only[P.cells,D.cells] at hc⊢ <;>first
      | (simp only[zap,zaj] at hc;obtain⟨x,hx,rfl⟩:=hc;exact⟨x,rfl,hx⟩)
      | (cases i<;>simp at hc⊢;exact hc.symm)
    obtain⟨x,rfl,hx⟩:=this;exact .d (c3 i v x hv hx))
   refine⟨_,_,F,G',.inl ?_,d1,d2⟩;simp[ho,Instr.alloc,mI,newVar,newRow]
  cases hs
 next t x ho=>
  have hx:=av h hg x;split at hs
  next cY=>obtain⟨c1,c2,c3⟩:=lJ hx cY;obtain⟨G',d1,d2⟩:=nD h hs c1 c3 c2;refine⟨_,_,F,G',.inl ?_,d1,d2⟩;simp[ho,Instr.box,newVar,newRow]
  cases hs
 next t ad x ho=>
  split at hs
  next s1 h1=>obtain⟨w',F',G',aU,d1,d2⟩:=tc h h1 (av h hg ad) (av h hg x);obtain⟨e1,e2⟩:=a7 d1 hs (v:=undef) (bj.of (.bad _));refine⟨undef,w',F',G',.inr ⟨by simp[ho,aU],rfl⟩,e1,?_⟩;rw[e2];exact d2
  cases hs
 next t1 t2 x ho=>
  split at hs
  next e C2 nE=>
   split at hs
   ·rename_i ys he zS;split at hs
    next l hl=>obtain⟨news,mV,hf⟩:=oE h (by omega) zS (av h hg x);have hr:=mW C2 he nE (rn zS C2 (av h hg x)) mV hf hl;obtain⟨e1,e2⟩:=a7 h hs (v:= .string ⟨⟨l⟩⟩) (bj.of (.d (.str l)));refine⟨_,w,F,G,.inl (by simp[ho,hr]),e1,?_⟩;rw[e2];exact Ext.refl _ _ _
    cases hs
   cases hs
  cases hs
 next c ho=>
  split at hs
  next fb=>
   split at hs
   ·rename_i x y t t2 bf lU;obtain⟨v,w',G',aU,d1,d2⟩:=rh (ty:=o.type) h hs (av h hg x) (av h hg y);have ea:c.args= #[x,y]:=by apply zaJ.1;simpa using bf
    have et:c.argTypes= #[t,t2]:=by apply zaJ.1;simpa using lU
    refine⟨v,w',F,G',.inl ?_,d1,d2⟩;simp[ho,resolve,fb,ea,et,invoke,builtin,aU]
   cases hs
  next fb=>
   split at hs
   ·rename_i x y t t2 bf lU;obtain⟨v,w',G',aU,d1,d2⟩:=vD (ty:=o.type) h hs (av h hg x) (av h hg y);have ea:c.args= #[x,y]:=by apply zaJ.1;simpa using bf
    have et:c.argTypes= #[t,t2]:=by apply zaJ.1;simpa using lU
    refine⟨v,w',F,G',.inl ?_,d1,d2⟩;simp[ho,resolve,fb,ea,et,invoke,builtin,aU]
   cases hs
  next fb=>
   split at hs
   ·rename_i x t bf lU;obtain⟨v,w',G',aU,d1,d2⟩:=tn (ty:=o.type) h hs (av h hg x);have ea:c.args= #[x]:=by apply zaJ.1;simpa using bf
    have et:c.argTypes= #[t]:=by apply zaJ.1;simpa using lU
    refine⟨v,w',F,G',.inl ?_,d1,d2⟩;simp[ho,resolve,fb,ea,et,invoke,builtin,aU]
   cases hs
  next fb=>
   split at hs
   ·rename_i x y t ts bf lU;have yH:c.argTypes[0]?=some t:=by rw[<-zaU,lU];rfl
    obtain⟨w',aU,d1,d2⟩:=xl h hs (av h hg x) (av h hg y) c.argTypes yH o.type;have ea:c.args= #[x,y]:=by apply zaJ.1;simpa using bf
    refine⟨_,w',F,G,.inl ?_,d1,d2⟩;simp[ho,resolve,fb,ea,invoke,builtin,aU]
   cases hs
  cases hs
 next t x y ho=>obtain⟨v,w',G',aU,d1,d2⟩:=vA h hs (av h hg x) (av h hg y);exact⟨v,w',F,G',.inl (by simp[ho,aU]),d1,d2⟩
 next t ho=>
  split at hs
  ·obtain⟨v,w',G',aU,d1,d2⟩:=pO h hs;exact⟨v,w',F,G',.inl (by simp[ho,aU]),d1,d2⟩
  obtain⟨v,w',G',aU,d1,d2⟩:=pN h hs;exact⟨v,w',F,G',.inl (by simp[ho,aU]),d1,d2⟩
 next t m k x ho=>
  split at hs
  ·obtain⟨w',aU,d1,d2⟩:=rk h hs (av h hg m) (av h hg k) (av h hg x);exact⟨undef,w',F,G,.inr ⟨by simp[ho,aU],rfl⟩,d1,d2⟩
  obtain⟨w',F',G',aU,d1,d2⟩:=lT h hs (av h hg m) (av h hg k) (av h hg x);exact⟨undef,w',F',G',.inr ⟨by simp[ho,aU],rfl⟩,d1,d2⟩
 next t m k x ho=>obtain⟨w',F',G',aU,d1,d2⟩:=lT h hs (av h hg m) (av h hg k) (av h hg x);exact⟨undef,w',F',G',.inr ⟨by simp[ho,aU],rfl⟩,d1,d2⟩
 next t x ho=>obtain⟨v,w',F',G',aU,d1,d2⟩:=tq h hs (av h hg x);exact⟨v,w',F',G',.inl (by simp[ho,aU]),d1,d2⟩
 next t m k ho=>obtain⟨v,w',F',G',aU,d1,d2⟩:=rl h hs (av h hg m) (av h hg k);exact⟨v,w',F',G',.inl (by simp[ho,aU]),d1,d2⟩
 next t m st x ho=>obtain⟨w',F',G',aU,d1,d2⟩:=tp (t:=t) h hs (av h hg m) (av h hg st) (av h hg x);exact⟨undef,w',F',G',.inr ⟨by simp[ho,aU],rfl⟩,d1,d2⟩
 next t len parts ho=>obtain⟨v,w',F',G',aU,d1,d2⟩:=tj (vs:=parts.map λ(i,x)=>(i,a.eval x)) h hs (by simp) (λi x y hx hy=>by simp only[zbT,zap,zaj] at hx hy;obtain⟨z,hz,rfl⟩:=hx;obtain⟨z',Ax,rfl⟩:=hy;rw[hz] at Ax;cases Ax;exact⟨rfl,av h hg z.2⟩);exact⟨v,w',F',G',.inl (by simp[ho,aU]),d1,d2⟩
 cases hs
theorem vH(h:ar Q T F G w a s){g:Option (Nat×Bool)}(hg:eN a g){o:Oper}{s':S}(hs:dE Q s o g=some s'):
  ∃v w' F' G',Av Q o a w v w'/\ar Q T F' G' w' (a.put o.dst v) s'/\Ext (Own G s.rg) (Own G' s'.rg) F F' w w':=by
 unfold dE at hs;split at hs
 next e wM=>
  split at hs
  next s1 v hn=>
   unfold bb at wM;split at wM
   next ho=>obtain⟨h1,h2,h3,h4⟩:=eE h hn (g1:= .slice none 0 0) (w':=w) (λ_ _=>rfl) (zag _) rfl rfl rfl (λb hb=>by simp[aD,au] at hb) (.inl ⟨ax _ _ _,rfl⟩);obtain⟨c1,c2⟩:=a7 h1 hs (v:= .slice none 0 0) (bj.of (.sl (site o.dst) v 0 _ rfl ⟨_,h4,zag _,λ_ _=>⟨none,0,0,ax _ _ _,rfl,zag _⟩⟩));refine⟨.slice none 0 0,w,F,_,.inl (by simp[execOp,ho,Act.eval]),c1,?_⟩;rw[c2];exact h2
   cases wM
  cases hs
 split at hs
 next p hp=>obtain⟨v,aU,hv⟩:=Ai h hg hp;obtain⟨c1,c2⟩:=a7 h hs (bj.of hv);refine⟨v,w,F,G,.inl aU,c1,?_⟩;rw[c2];exact Ext.refl _ _ _
 exact Aw h hg hs
theorem jV{o:Oper}{t:TypeId}{len:Nat}{parts:List (Nat×Operand)}(h:iL o=some (t,len,parts)): ∃ps,o.op= .buildSlice t len ps/\parts=ps.toList/\o.type=4000000:=by
 unfold iL at h;split at h
 next t' DZ ps ho=>
  split at h
  next hb=>cases h;exact⟨ps,ho,rfl,zac hb⟩
  cases h
 cases h
theorem xr(h:ar Q T F G w a s){g:Option (Nat×Bool)}(hg:eN a g){o:Oper}{s':S}(hs:exec Q s o g=some s'):
  ∃v w' F' G',Av Q o a w v w'/\ar Q T F' G' w' (a.put o.dst v) s'/\Ext (Own G s.rg) (Own G' s'.rg) F F' w w':=by
 unfold exec at hs;split at hs
 next t len parts hm=>
  obtain⟨ps,ho,rfl,_⟩:=jV hm;split at hs
  next p hp=>obtain⟨v,w',F',g1,g2,g3,g4⟩:=vC h hp (vs:=ps.map λx=>(x.1,a.eval x.2)) (by simp) (λi x y hx hy=>by simp only[zbT,zap,zaj] at hx hy;obtain⟨z,hz,rfl⟩:=hx;obtain⟨z',Ax,rfl⟩:=hy;rw[hz] at Ax;cases Ax;exact⟨rfl,av h hg _⟩);obtain⟨c1,c2⟩:=a7 g2 hs (bj.of g3);exact⟨v,w',F',G,.inl (by simp[execOp,ho,g1]),c1,by rw[c2];exact g4⟩
  cases hs
 exact vH h hg hs
end
end Pi
