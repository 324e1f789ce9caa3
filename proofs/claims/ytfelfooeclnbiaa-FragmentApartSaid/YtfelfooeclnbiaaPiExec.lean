/- The text PiExec. -/
import Derived.Test.YtfelfooeclnbiaaPiIter
import Derived.Laws.BytesArg
namespace Pi
open Go
section
variable{Q:Program}{T:Tg}{F:Nat->Prop}{G:Nat->Value}{w:World}{a:Act}{s:S}
theorem lr: ∀(es:List D) (l:List UInt8),dP es=some l-> ∃ns:List Int,es=ns.map (D.int .u8)/\l=ns.map λn=>UInt8.ofNat n.toNat
 | [],l,h=>by simp[dP] at h;subst h;exact⟨[],rfl,rfl⟩
 |x::es,l,h=>by
  cases x<;>try (simp[dP] at h;done)
  rename_i k n;cases k<;>try (simp[dP] at h;done)
  simp only[dP] at h;cases hb:dP es with
  |none=>simp[hb] at h
  |some l'=>simp[hb] at h;subst h;obtain⟨ns,rfl,rfl⟩:=lr es l' hb;exact⟨n::ns,rfl,rfl⟩
theorem uQ{ns:List Int}{xs:List Value}(h:bR F w 1 (ns.map (D.int .u8)) xs):xs=ns.map (Value.int .u8):=by
 have hl:xs.length=ns.length:=by simpa using h.1
 apply za5;intro i;by_cases hi:i<ns.length
 ·obtain⟨h1,h2,h3⟩:=h.2 i (.int .u8 ns[i]) (by simp[hi]);have:=h3 0 (.int .u8 ns[i]) (by simp[D.cells]);simp only[zbY,zbb] at this;have e:xs.getD i undef= .int .u8 ns[i]:=this.cm rfl;have hx:i<xs.length:=by omega
  simp only[zai,zad hx,zbS] at e;rw[zad hx,e];simp[hi]
 rw[List.getElem?_eq_none (by omega),List.getElem?_eq_none (by simp;omega)]
theorem sK{t2:TypeId}{k:Nat}{p:P}{ys:List D}(hs:fm Q s t2 k p=some ys){e':TypeId}(ht:Q.underlying t2=some (.slice e')){v:Value}(hv:ak F w G s.rg v p): ∃ad n c,v= .slice ad n c:=by
 unfold fm at hs;split at hs
 next n aw len=>
  split at hs
  next ty fz es e' ho oC=>
   obtain⟨e,he,bM,aO⟩:=S.aI ho;cases hv with
   |sl _ _ _ _ h1 hr=>obtain⟨a0,N,cap,hG,rfl,hle⟩:=hr.at he bM (by rw[aO];rfl);exact⟨_,_,_,rfl⟩
  cases hs
 next n aw k0 off len=>
  split at hs
  next ty fz es e' ho oC=>
   obtain⟨e,he,bM,aO⟩:=S.aI ho;cases hv with
   |e9 _ _ _ _ _ _ h1 hr=>obtain⟨a0,N,cap,hG,hle,a1,iZ,rfl,_⟩:=hr.at he bM (by rw[aO];rfl);exact⟨_,_,_,rfl⟩
  cases hs
 ·cases hv with
  |d hv=>cases hv<;>exact⟨_,_,_,rfl⟩
 ·cases hv with
  |d hv=>cases hv;exact⟨_,_,_,rfl⟩
 ·rw[ht] at hs;simp at hs
 cases hs
theorem nX{src e dst:TypeId}(hs:Q.underlying src=some (.slice e))(he:Q.underlying e=some (.int .u8))(hd:Q.underlying dst=some .string){v:Value}{ys:List D}{news:List Value}{l:List UInt8}
  (lu: ∃ad n c,v= .slice ad n c) (nW:Src Q 1 src v ys.length news w) (hf:bR F w 1 ys news) (hb:dP ys=some l):(Go.convert src dst v).run Q w= .ok (.string ⟨⟨l⟩⟩) w:=by
 obtain⟨ad,n,c,rfl⟩:=lu;obtain⟨ns,rfl,rfl⟩:=lr ys l hb;have hn:=uQ hf;subst hn;have hlen:n=ns.length:=by have:=nW.len w;simp[Builtin.lenOf] at this;exact this
 subst hlen;have hc:=nW.cells;cases ad with
 |none=>
  simp[Builtin.firstCells] at hc;have:ns=[]:=by simpa using hc.symm
  subst this;rw[run_convert_bytes_nil w src e hs he _ _ dst hd];rfl
 |some ad=>simp only[Builtin.firstCells,zar,zbY] at hc;rw[run_convert_bytes_string w src dst e _ _ c hs he hd,run_bytesToString w _ _ c ns hc,foldl_push_bytes];simp[ByteArray.empty,ByteArray.emptyWithCapacity];rfl
def C1(Q:Program)(o:Oper)(a:Act)(w:World)(v:Value)(w':World):Prop:=
 (execOp a.eval o).run Q w= .ok (.value v) w'\/((execOp a.eval o).run Q w= .ok .skip w'/\v=undef)
theorem C2(h:aq Q T F G w a s){g:Option (Nat×Bool)}(hg:fc a g){o:Oper}{s':S}(hs:ef Q s o g=some s'):
  ∃v w' F' G',C1 Q o a w v w'/\aq Q T F' G' w' (a.put o.dst v) s'/\Ext (Own G s.rg) (Own G' s'.rg) F F' w w':=by
 unfold ef at hs;unfold C1 execOp;split at hs
 next t ho=>
  split at hs
  next z hz=>
   obtain⟨zv,nH,ql⟩:=ib (F:=F) hz w;obtain⟨c1,c2,c3⟩:=bO ql;obtain⟨G',d1,d2⟩:=oB h hs (cs:=zv.cells) (by rw[c1];cases z<;>simp[P.cells,D.cells]) (eM ql) (λi v c hv hc=>by
    have: ∃x,c= .d x/\z.cells[i]?=some x:=by
     cases z<;>simp only[P.cells,D.cells] at hc⊢ <;>first
      | (simp only[zao,zaj] at hc;obtain⟨x,hx,rfl⟩:=hc;exact⟨x,rfl,hx⟩)
      | (cases i<;>simp at hc⊢;exact hc.symm)
    obtain⟨x,rfl,hx⟩:=this;exact .d (c3 i v x hv hx))
   refine⟨_,_,F,G',.inl ?_,d1,d2⟩;simp[ho,Instr.alloc,nH,newVar,newRow]
  cases hs
 next t x ho=>
  have hx:=au h hg x;split at hs
  next dg=>obtain⟨c1,c2,c3⟩:=mA hx dg;obtain⟨G',d1,d2⟩:=oB h hs c1 c3 c2;refine⟨_,_,F,G',.inl ?_,d1,d2⟩;simp[ho,Instr.box,newVar,newRow]
  cases hs
 next t ad x ho=>
  split at hs
  next s1 h1=>obtain⟨w',F',G',aY,d1,d2⟩:=uH h h1 (au h hg ad) (au h hg x);obtain⟨e1,e2⟩:=bg d1 hs (v:=undef) (bt.of (.bad _));refine⟨undef,w',F',G',.inr ⟨by simp[ho,aY],rfl⟩,e1,?_⟩;rw[e2];exact d2
  cases hs
 next t1 t2 x ho=>
  split at hs
  next e GR oC=>
   split at hs
   ·rename_i ys he Cg;split at hs
    next l hl=>obtain⟨news,nW,hf⟩:=pD h (by omega) Cg (au h hg x);have hr:=nX GR he oC (sK Cg GR (au h hg x)) nW hf hl;obtain⟨e1,e2⟩:=bg h hs (v:= .string ⟨⟨l⟩⟩) (bt.of (.d (.str l)));refine⟨_,w,F,G,.inl (by simp[ho,hr]),e1,?_⟩;rw[e2];exact Ext.refl _ _ _
    cases hs
   cases hs
  cases hs
 next c ho=>
  split at hs
  next fx=>
   split at hs
   ·rename_i x y t t2 bq mL;obtain⟨v,w',G',aY,d1,d2⟩:=sE (ty:=o.type) h hs (au h hg x) (au h hg y);have ea:c.args= #[x,y]:=by apply zaL.1;simpa using bq
    have et:c.argTypes= #[t,t2]:=by apply zaL.1;simpa using mL
    refine⟨v,w',F,G',.inl ?_,d1,d2⟩;simp[ho,resolve,fx,ea,et,invoke,builtin,aY]
   cases hs
  next fx=>
   split at hs
   ·rename_i x y t t2 bq mL;obtain⟨v,w',G',aY,d1,d2⟩:=w6 (ty:=o.type) h hs (au h hg x) (au h hg y);have ea:c.args= #[x,y]:=by apply zaL.1;simpa using bq
    have et:c.argTypes= #[t,t2]:=by apply zaL.1;simpa using mL
    refine⟨v,w',F,G',.inl ?_,d1,d2⟩;simp[ho,resolve,fx,ea,et,invoke,builtin,aY]
   cases hs
  next fx=>
   split at hs
   ·rename_i x t bq mL;obtain⟨v,w',G',aY,d1,d2⟩:=uM (ty:=o.type) h hs (au h hg x);have ea:c.args= #[x]:=by apply zaL.1;simpa using bq
    have et:c.argTypes= #[t]:=by apply zaL.1;simpa using mL
    refine⟨v,w',F,G',.inl ?_,d1,d2⟩;simp[ho,resolve,fx,ea,et,invoke,builtin,aY]
   cases hs
  next fx=>
   split at hs
   ·rename_i x y t ts bq mL;have A4:c.argTypes[0]?=some t:=by rw[<-za4,mL];rfl
    obtain⟨w',aY,d1,d2⟩:=zb h hs (au h hg x) (au h hg y) c.argTypes A4 o.type;have ea:c.args= #[x,y]:=by apply zaL.1;simpa using bq
    refine⟨_,w',F,G,.inl ?_,d1,d2⟩;simp[ho,resolve,fx,ea,invoke,builtin,aY]
   cases hs
  cases hs
 next t x y ho=>obtain⟨v,w',G',aY,d1,d2⟩:=wZ h hs (au h hg x) (au h hg y);exact⟨v,w',F,G',.inl (by simp[ho,aY]),d1,d2⟩
 next t ho=>
  split at hs
  ·obtain⟨v,w',G',aY,d1,d2⟩:=qU h hs;exact⟨v,w',F,G',.inl (by simp[ho,aY]),d1,d2⟩
  obtain⟨v,w',G',aY,d1,d2⟩:=qT h hs;exact⟨v,w',F,G',.inl (by simp[ho,aY]),d1,d2⟩
 next t m k x ho=>
  split at hs
  ·obtain⟨w',aY,d1,d2⟩:=sH h hs (au h hg m) (au h hg k) (au h hg x);exact⟨undef,w',F,G,.inr ⟨by simp[ho,aY],rfl⟩,d1,d2⟩
  obtain⟨w',F',G',aY,d1,d2⟩:=mK h hs (au h hg m) (au h hg k) (au h hg x);exact⟨undef,w',F',G',.inr ⟨by simp[ho,aY],rfl⟩,d1,d2⟩
 next t m k x ho=>obtain⟨w',F',G',aY,d1,d2⟩:=mK h hs (au h hg m) (au h hg k) (au h hg x);exact⟨undef,w',F',G',.inr ⟨by simp[ho,aY],rfl⟩,d1,d2⟩
 next t x ho=>obtain⟨v,w',F',G',aY,d1,d2⟩:=uO h hs (au h hg x);exact⟨v,w',F',G',.inl (by simp[ho,aY]),d1,d2⟩
 next t m k ho=>obtain⟨v,w',F',G',aY,d1,d2⟩:=sI h hs (au h hg m) (au h hg k);exact⟨v,w',F',G',.inl (by simp[ho,aY]),d1,d2⟩
 next t m st x ho=>obtain⟨w',F',G',aY,d1,d2⟩:=uN (t:=t) h hs (au h hg m) (au h hg st) (au h hg x);exact⟨undef,w',F',G',.inr ⟨by simp[ho,aY],rfl⟩,d1,d2⟩
 next t len parts ho=>obtain⟨v,w',F',G',aY,d1,d2⟩:=uK (vs:=parts.map λ(i,x)=>(i,a.eval x)) h hs (by simp) (λi x y hx hy=>by simp only[zbR,zao,zaj] at hx hy;obtain⟨z,hz,rfl⟩:=hx;obtain⟨z',C3,rfl⟩:=hy;rw[hz] at C3;cases C3;exact⟨rfl,au h hg z.2⟩);exact⟨v,w',F',G',.inl (by simp[ho,aY]),d1,d2⟩
 cases hs
theorem w9(h:aq Q T F G w a s){g:Option (Nat×Bool)}(hg:fc a g){o:Oper}{s':S}(hs:dI Q s o g=some s'):
  ∃v w' F' G',C1 Q o a w v w'/\aq Q T F' G' w' (a.put o.dst v) s'/\Ext (Own G s.rg) (Own G' s'.rg) F F' w w':=by
 unfold dI at hs;split at hs
 next e yj=>
  split at hs
  next s1 v hn=>
   unfold bj at yj;split at yj
   next ho=>obtain⟨h1,h2,h3,h4⟩:=eS h hn (g1:= .slice none 0 0) (w':=w) (λ_ _=>rfl) (zaf _) rfl rfl rfl (λb hb=>by simp[aG,ar] at hb) (.inl ⟨av _ _ _,rfl⟩);obtain⟨c1,c2⟩:=bg h1 hs (v:= .slice none 0 0) (bt.of (.sl (site o.dst) v 0 _ rfl ⟨_,h4,zaf _,λ_ _=>⟨none,0,0,av _ _ _,rfl,zaf _⟩⟩));refine⟨.slice none 0 0,w,F,_,.inl (by simp[execOp,ho,Act.eval]),c1,?_⟩;rw[c2];exact h2
   cases yj
  cases hs
 split at hs
 next p hp=>obtain⟨v,aY,hv⟩:=CR h hg hp;obtain⟨c1,c2⟩:=bg h hs (bt.of hv);refine⟨v,w,F,G,.inl aY,c1,?_⟩;rw[c2];exact Ext.refl _ _ _
 exact C2 h hg hs
theorem kQ{o:Oper}{t:TypeId}{len:Nat}{parts:List (Nat×Operand)}(h:jy o=some (t,len,parts)): ∃ps,o.op= .buildSlice t len ps/\parts=ps.toList/\o.type=4000000:=by
 unfold jy at h;split at h
 next t' HU ps ho=>
  split at h
  next hb=>cases h;exact⟨ps,ho,rfl,zab hb⟩
  cases h
 cases h
theorem zi(h:aq Q T F G w a s){g:Option (Nat×Bool)}(hg:fc a g){o:Oper}{s':S}(hs:exec Q s o g=some s'):
  ∃v w' F' G',C1 Q o a w v w'/\aq Q T F' G' w' (a.put o.dst v) s'/\Ext (Own G s.rg) (Own G' s'.rg) F F' w w':=by
 unfold exec at hs;split at hs
 next t len parts hm=>
  obtain⟨ps,ho,rfl,_⟩:=kQ hm;split at hs
  next p hp=>obtain⟨v,w',F',g1,g2,g3,g4⟩:=w5 h hp (vs:=ps.map λx=>(x.1,a.eval x.2)) (by simp) (λi x y hx hy=>by simp only[zbR,zao,zaj] at hx hy;obtain⟨z,hz,rfl⟩:=hx;obtain⟨z',C3,rfl⟩:=hy;rw[hz] at C3;cases C3;exact⟨rfl,au h hg _⟩);obtain⟨c1,c2⟩:=bg g2 hs (bt.of g3);exact⟨v,w',F',G,.inl (by simp[execOp,ho,g1]),c1,by rw[c2];exact g4⟩
  cases hs
 exact w9 h hg hs
end
end Pi
