/- The text PiExec. -/
import Derived.Test.YtpiohccneeblhaaPiIter
import Derived.Laws.BytesArg
namespace Pi
open Go
section
variable{Q:Program}{T:Tg}{F:Nat->Prop}{G:Nat->Value}{w:World}{a:Act}{s:S}
theorem nL: ∀(es:List D) (l:List UInt8),fM es=some l-> ∃ns:List Int,es=ns.map (D.int .u8)/\l=ns.map λn=>UInt8.ofNat n.toNat
 | [],l,h=>by simp[fM] at h;subst h;exact⟨[],rfl,rfl⟩
 |x::es,l,h=>by
  cases x<;>try (simp[fM] at h;done)
  rename_i k n;cases k<;>try (simp[fM] at h;done)
  simp only[fM] at h;cases hb:fM es with
  |none=>simp[hb] at h
  |some l'=>simp[hb] at h;subst h;obtain⟨ns,rfl,rfl⟩:=nL es l' hb;exact⟨n::ns,rfl,rfl⟩
theorem Aw{ns:List Int}{xs:List Value}(h:cy F w 1 (ns.map (D.int .u8)) xs):xs=ns.map (Value.int .u8):=by
 have hl:xs.length=ns.length:=by simpa using h.1
 apply za7;intro i;by_cases hi:i<ns.length
 ·obtain⟨h1,h2,h3⟩:=h.2 i (.int .u8 ns[i]) (by simp[hi]);have:=h3 0 (.int .u8 ns[i]) (by simp[D.cells]);simp only[Nat.mul_one,zbJ] at this;have e:xs.getD i undef= .int .u8 ns[i]:=this.dK rfl;have hx:i<xs.length:=by omega
  simp only[zaq,zac hx,zbM] at e;rw[zac hx,e];simp[hi]
 rw[zbL (by omega),zbL (by simp;omega)]
theorem xZ{t2:TypeId}{k:Nat}{p:P}{ys:List D}(hs:iz Q s t2 k p=some ys){e':TypeId}(ht:Q.underlying t2=some (.slice e')){v:Value}(hv:ao F w G s.rg v p): ∃ad n c,v= .slice ad n c:=by
 unfold iz at hs;split at hs
 next n az len=>
  split at hs
  next ty fz es e' ho sm=>
   obtain⟨e,he,bN,aP⟩:=S.aJ ho;cases hv with
   |sl _ _ _ _ h1 hr=>obtain⟨a0,N,cap,hG,rfl,hle⟩:=hr.at he bN (by rw[aP];rfl);exact⟨_,_,_,rfl⟩
  cases hs
 next n az k0 off len=>
  split at hs
  next ty fz es e' ho sm=>
   obtain⟨e,he,bN,aP⟩:=S.aJ ho;cases hv with
   |hZ _ _ _ _ _ _ h1 hr=>obtain⟨a0,N,cap,hG,hle,a1,ll,rfl,_⟩:=hr.at he bN (by rw[aP];rfl);exact⟨_,_,_,rfl⟩
  cases hs
 ·cases hv with
  |d hv=>cases hv<;>exact⟨_,_,_,rfl⟩
 ·cases hv with
  |d hv=>cases hv;exact⟨_,_,_,rfl⟩
 ·rw[ht] at hs;simp at hs
 cases hs
theorem rE{src e dst:TypeId}(hs:Q.underlying src=some (.slice e))(he:Q.underlying e=some (.int .u8))(hd:Q.underlying dst=some .string){v:Value}{ys:List D}{news:List Value}{l:List UInt8}
  (xe: ∃ad n c,v= .slice ad n c) (pT:Src Q 1 src v ys.length news w) (hf:cy F w 1 ys news) (hb:fM ys=some l):(Go.convert src dst v).run Q w= .ok (.string ⟨⟨l⟩⟩) w:=by
 obtain⟨ad,n,c,rfl⟩:=xe;obtain⟨ns,rfl,rfl⟩:=nL ys l hb;have hn:=Aw hf;subst hn;have hlen:n=ns.length:=by have:=pT.len w;simp[Builtin.lenOf] at this;exact this
 subst hlen;have hc:=pT.cells;cases ad with
 |none=>
  simp[Builtin.firstCells] at hc;have:ns=[]:=by simpa using hc.symm
  subst this;rw[run_convert_bytes_nil w src e hs he _ _ dst hd];rfl
 |some ad=>simp only[Builtin.firstCells,zag,Nat.mul_one] at hc;rw[run_convert_bytes_string w src dst e _ _ c hs he hd,run_bytesToString w _ _ c ns hc,foldl_push_bytes];simp[ByteArray.empty,ByteArray.emptyWithCapacity];rfl
def JR(Q:Program)(o:Oper)(a:Act)(w:World)(v:Value)(w':World):Prop:=
 (execOp a.eval o).run Q w= .ok (.value v) w'\/((execOp a.eval o).run Q w= .ok .skip w'/\v=undef)
theorem JS(h:aq Q T F G w a s){g:Option (Nat×Bool)}(hg:ig a g){o:Oper}{s':S}(hs:ef Q s o g=some s'):
  ∃v w' F' G',JR Q o a w v w'/\aq Q T F' G' w' (a.put o.dst v) s'/\Ext (Own G s.rg) (Own G' s'.rg) F F' w w':=by
 unfold ef at hs;unfold JR execOp;split at hs
 next t ho=>
  split at hs
  next z hz=>
   obtain⟨zv,qW,uU⟩:=kq (F:=F) hz w;obtain⟨c1,c2,c3⟩:=cH uU;obtain⟨G',d1,d2⟩:=sk h hs (cs:=zv.cells) (by rw[c1];cases z<;>simp[P.cells,D.cells]) (gI uU) (λi v c hv hc=>by
    have: ∃x,c= .d x/\z.cells[i]?=some x:=by
     cases z<;>simp only[P.cells,D.cells] at hc⊢ <;>first
      | (simp only[zai,zaj] at hc;obtain⟨x,hx,rfl⟩:=hc;exact⟨x,rfl,hx⟩)
      | (cases i<;>simp at hc⊢;exact hc.symm)
    obtain⟨x,rfl,hx⟩:=this;exact .d (c3 i v x hv hx))
   refine⟨_,_,F,G',.inl ?_,d1,d2⟩;simp[ho,Instr.alloc,qW,newVar,newRow]
  cases hs
 next t x ho=>
  have hx:=aB h hg x;split at hs
  next eW=>obtain⟨c1,c2,c3⟩:=pL hx eW;obtain⟨G',d1,d2⟩:=sk h hs c1 c3 c2;refine⟨_,_,F,G',.inl ?_,d1,d2⟩;simp[ho,Instr.box,newVar,newRow]
  cases hs
 next t ad x ho=>
  split at hs
  next s1 h1=>obtain⟨w',F',G',aX,d1,d2⟩:=Al h h1 (aB h hg ad) (aB h hg x);obtain⟨e1,e2⟩:=bc d1 hs (v:=undef) (bt.of (.bad _));refine⟨undef,w',F',G',.inr ⟨by simp[ho,aX],rfl⟩,e1,?_⟩;rw[e2];exact d2
  cases hs
 next t1 t2 x ho=>
  split at hs
  next e Ow sm=>
   split at hs
   ·rename_i ys he Ix;split at hs
    next l hl=>obtain⟨news,pT,hf⟩:=tS h (by omega) Ix (aB h hg x);have hr:=rE Ow he sm (xZ Ix Ow (aB h hg x)) pT hf hl;obtain⟨e1,e2⟩:=bc h hs (v:= .string ⟨⟨l⟩⟩) (bt.of (.d (.str l)));refine⟨_,w,F,G,.inl (by simp[ho,hr]),e1,?_⟩;rw[e2];exact Ext.refl _ _ _
    cases hs
   cases hs
  cases hs
 next c ho=>
  split at hs
  next fR=>
   split at hs
   ·rename_i x y t t2 bq pY;obtain⟨v,w',G',aX,d1,d2⟩:=xU (ty:=o.type) h hs (aB h hg x) (aB h hg y);have ea:c.args= #[x,y]:=by apply za1.1;simpa using bq
    have et:c.argTypes= #[t,t2]:=by apply za1.1;simpa using pY
    refine⟨v,w',F,G',.inl ?_,d1,d2⟩;simp[ho,resolve,fR,ea,et,invoke,builtin,aX]
   cases hs
  next fR=>
   split at hs
   ·rename_i x y t t2 bq pY;obtain⟨v,w',G',aX,d1,d2⟩:=CH (ty:=o.type) h hs (aB h hg x) (aB h hg y);have ea:c.args= #[x,y]:=by apply za1.1;simpa using bq
    have et:c.argTypes= #[t,t2]:=by apply za1.1;simpa using pY
    refine⟨v,w',F,G',.inl ?_,d1,d2⟩;simp[ho,resolve,fR,ea,et,invoke,builtin,aX]
   cases hs
  next fR=>
   split at hs
   ·rename_i x t bq pY;obtain⟨v,w',G',aX,d1,d2⟩:=As (ty:=o.type) h hs (aB h hg x);have ea:c.args= #[x]:=by apply za1.1;simpa using bq
    have et:c.argTypes= #[t]:=by apply za1.1;simpa using pY
    refine⟨v,w',F,G',.inl ?_,d1,d2⟩;simp[ho,resolve,fR,ea,et,invoke,builtin,aX]
   cases hs
  next fR=>
   split at hs
   ·rename_i x y t ts bq pY;have G8:c.argTypes[0]?=some t:=by rw[<-zbI,pY];rfl
    obtain⟨w',aX,d1,d2⟩:=EW h hs (aB h hg x) (aB h hg y) c.argTypes G8 o.type;have ea:c.args= #[x,y]:=by apply za1.1;simpa using bq
    refine⟨_,w',F,G,.inl ?_,d1,d2⟩;simp[ho,resolve,fR,ea,invoke,builtin,aX]
   cases hs
  cases hs
 next t x y ho=>obtain⟨v,w',G',aX,d1,d2⟩:=CC h hs (aB h hg x) (aB h hg y);exact⟨v,w',F,G',.inl (by simp[ho,aX]),d1,d2⟩
 next t ho=>
  split at hs
  ·obtain⟨v,w',G',aX,d1,d2⟩:=vN h hs;exact⟨v,w',F,G',.inl (by simp[ho,aX]),d1,d2⟩
  obtain⟨v,w',G',aX,d1,d2⟩:=vM h hs;exact⟨v,w',F,G',.inl (by simp[ho,aX]),d1,d2⟩
 next t m k x ho=>
  split at hs
  ·obtain⟨w',aX,d1,d2⟩:=xX h hs (aB h hg m) (aB h hg k) (aB h hg x);exact⟨undef,w',F,G,.inr ⟨by simp[ho,aX],rfl⟩,d1,d2⟩
  obtain⟨w',F',G',aX,d1,d2⟩:=pX h hs (aB h hg m) (aB h hg k) (aB h hg x);exact⟨undef,w',F',G',.inr ⟨by simp[ho,aX],rfl⟩,d1,d2⟩
 next t m k x ho=>obtain⟨w',F',G',aX,d1,d2⟩:=pX h hs (aB h hg m) (aB h hg k) (aB h hg x);exact⟨undef,w',F',G',.inr ⟨by simp[ho,aX],rfl⟩,d1,d2⟩
 next t x ho=>obtain⟨v,w',F',G',aX,d1,d2⟩:=Au h hs (aB h hg x);exact⟨v,w',F',G',.inl (by simp[ho,aX]),d1,d2⟩
 next t m k ho=>obtain⟨v,w',F',G',aX,d1,d2⟩:=xY h hs (aB h hg m) (aB h hg k);exact⟨v,w',F',G',.inl (by simp[ho,aX]),d1,d2⟩
 next t m st x ho=>obtain⟨w',F',G',aX,d1,d2⟩:=At (t:=t) h hs (aB h hg m) (aB h hg st) (aB h hg x);exact⟨undef,w',F',G',.inr ⟨by simp[ho,aX],rfl⟩,d1,d2⟩
 next t len parts ho=>obtain⟨v,w',F',G',aX,d1,d2⟩:=Aq (vs:=parts.map λ(i,x)=>(i,a.eval x)) h hs (by simp) (λi x y hx hy=>by simp only[zcr,zai,zaj] at hx hy;obtain⟨z,hz,rfl⟩:=hx;obtain⟨z',Hk,rfl⟩:=hy;rw[hz] at Hk;cases Hk;exact⟨rfl,aB h hg z.2⟩);exact⟨v,w',F',G',.inl (by simp[ho,aX]),d1,d2⟩
 cases hs
theorem CK(h:aq Q T F G w a s){g:Option (Nat×Bool)}(hg:ig a g){o:Oper}{s':S}(hs:fA Q s o g=some s'):
  ∃v w' F' G',JR Q o a w v w'/\aq Q T F' G' w' (a.put o.dst v) s'/\Ext (Own G s.rg) (Own G' s'.rg) F F' w w':=by
 unfold fA at hs;split at hs
 next e Ec=>
  split at hs
  next s1 v hn=>
   unfold bT at Ec;split at Ec
   next ho=>obtain⟨h1,h2,h3,h4⟩:=gP h hn (g1:= .slice none 0 0) (w':=w) (λ_ _=>rfl) (zae _) rfl rfl rfl (λb hb=>by simp[ay,aj] at hb) (.inl ⟨aC _ _ _,rfl⟩);obtain⟨c1,c2⟩:=bc h1 hs (v:= .slice none 0 0) (bt.of (.sl (site o.dst) v 0 _ rfl ⟨_,h4,zae _,λ_ _=>⟨none,0,0,aC _ _ _,rfl,zae _⟩⟩));refine⟨.slice none 0 0,w,F,_,.inl (by simp[execOp,ho,Act.eval]),c1,?_⟩;rw[c2];exact h2
   cases Ec
  cases hs
 split at hs
 next p hp=>obtain⟨v,aX,hv⟩:=JC h hg hp;obtain⟨c1,c2⟩:=bc h hs (bt.of hv);refine⟨v,w,F,G,.inl aX,c1,?_⟩;rw[c2];exact Ext.refl _ _ _
 exact JS h hg hs
theorem nv{o:Oper}{t:TypeId}{len:Nat}{parts:List (Nat×Operand)}(h:lN o=some (t,len,parts)): ∃ps,o.op= .buildSlice t len ps/\parts=ps.toList/\o.type=4000000:=by
 unfold lN at h;split at h
 next t' Px ps ho=>
  split at h
  next hb=>cases h;exact⟨ps,ho,rfl,zab hb⟩
  cases h
 cases h
theorem E0(h:aq Q T F G w a s){g:Option (Nat×Bool)}(hg:ig a g){o:Oper}{s':S}(hs:exec Q s o g=some s'):
  ∃v w' F' G',JR Q o a w v w'/\aq Q T F' G' w' (a.put o.dst v) s'/\Ext (Own G s.rg) (Own G' s'.rg) F F' w w':=by
 unfold exec at hs;split at hs
 next t len parts hm=>
  obtain⟨ps,ho,rfl,_⟩:=nv hm;split at hs
  next p hp=>obtain⟨v,w',F',g1,g2,g3,g4⟩:=CG h hp (vs:=ps.map λx=>(x.1,a.eval x.2)) (by simp) (λi x y hx hy=>by simp only[zcr,zai,zaj] at hx hy;obtain⟨z,hz,rfl⟩:=hx;obtain⟨z',Hk,rfl⟩:=hy;rw[hz] at Hk;cases Hk;exact⟨rfl,aB h hg _⟩);obtain⟨c1,c2⟩:=bc g2 hs (bt.of g3);exact⟨v,w',F',G,.inl (by simp[execOp,ho,g1]),c1,by rw[c2];exact g4⟩
  cases hs
 exact CK h hg hs
end
end Pi
