/- The text PiExec. -/
import Derived.Test.YtngoddkencoalaaGreatDoorPiIter
import Derived.Laws.BytesArg
namespace Pi
open Go
section
variable{Q:Program}{T:Tg}{F:Nat->Prop}{G:Nat->Value}{w:World}{a:Act}{s:S}
theorem wv: ∀(es:List D) (l:List UInt8),jX es=some l-> ∃ns:List Int,es=ns.map (D.int .u8)/\l=ns.map λn=>UInt8.ofNat n.toNat
 | [],l,h=>by simp[jX] at h;subst h;exact⟨[],rfl,rfl⟩
 |x::es,l,h=>by
  cases x<;>try (simp[jX] at h;done)
  rename_i k n;cases k<;>try (simp[jX] at h;done)
  simp only[jX] at h;cases hb:jX es with
  |none=>simp[hb] at h
  |some l'=>simp[hb] at h;subst h;obtain⟨ns,rfl,rfl⟩:=wv es l' hb;exact⟨n::ns,rfl,rfl⟩
theorem OS{ns:List Int}{xs:List Value}(h:eu F w 1 (ns.map (D.int .u8)) xs):xs=ns.map (Value.int .u8):=by
 have hl:xs.length=ns.length:=by simpa using h.1
 apply zcC;intro i;by_cases hi:i<ns.length
 ·obtain⟨h1,h2,h3⟩:=h.2 i (.int .u8 ns[i]) (by simp[hi]);have:=h3 0 (.int .u8 ns[i]) (by simp[D.cells]);simp only[zdn,zb0] at this;have e:xs.getD i undef= .int .u8 ns[i]:=this.gj rfl;have hx:i<xs.length:=by omega
  simp only[zad,zac hx,zb9] at e;rw[zac hx,e];simp[hi]
 rw[zbp (by omega),zbp (by simp;omega)]
theorem Kh{t2:TypeId}{k:Nat}{p:P}{ys:List D}(hs:mR Q s t2 k p=some ys){e':TypeId}(ht:Q.underlying t2=some (.slice e')){v:Value}(hv:aH F w G s.rg v p): ∃ad n c,v= .slice ad n c:=by
 unfold mR at hs;split at hs
 next n aV len=>
  split at hs
  next ty fz es e' ho BE=>
   obtain⟨e,he,dT,b9⟩:=S.bI ho;cases hv with
   |sl _ _ _ _ h1 hr=>obtain⟨a0,N,cap,hG,rfl,hle⟩:=hr.at he dT (by rw[b9];rfl);exact⟨_,_,_,rfl⟩
  cases hs
 next n aV k0 off len=>
  split at hs
  next ty fz es e' ho BE=>
   obtain⟨e,he,dT,b9⟩:=S.bI ho;cases hv with
   |mb _ _ _ _ _ _ h1 hr=>obtain⟨a0,N,cap,hG,hle,a1,rr,rfl,_⟩:=hr.at he dT (by rw[b9];rfl);exact⟨_,_,_,rfl⟩
  cases hs
 ·cases hv with
  |d hv=>cases hv<;>exact⟨_,_,_,rfl⟩
 ·cases hv with
  |d hv=>cases hv;exact⟨_,_,_,rfl⟩
 ·rw[ht] at hs;simp at hs
 cases hs
theorem BG{src e dst:TypeId}(hs:Q.underlying src=some (.slice e))(he:Q.underlying e=some (.int .u8))(hd:Q.underlying dst=some .string){v:Value}{ys:List D}{news:List Value}{l:List UInt8}
  (Mz: ∃ad n c,v= .slice ad n c) (BF:Src Q 1 src v ys.length news w) (hf:eu F w 1 ys news) (hb:jX ys=some l):(Go.convert src dst v).run Q w= .ok (.string ⟨⟨l⟩⟩) w:=by
 obtain⟨ad,n,c,rfl⟩:=Mz;obtain⟨ns,rfl,rfl⟩:=wv ys l hb;have hn:=OS hf;subst hn;have hlen:n=ns.length:=by have:=BF.len w;simp[Builtin.lenOf] at this;exact this
 subst hlen;have hc:=BF.cells;cases ad with
 |none=>
  simp[Builtin.firstCells] at hc;have:ns=[]:=by simpa using hc.symm
  subst this;rw[run_convert_bytes_nil w src e hs he _ _ dst hd];rfl
 |some ad=>simp only[Builtin.firstCells,zaa,zdn] at hc;rw[run_convert_bytes_string w src dst e _ _ c hs he hd,run_bytesToString w _ _ c ns hc,foldl_push_bytes];simp[ByteArray.empty,ByteArray.emptyWithCapacity];rfl
def Ran(Q:Program)(o:Oper)(a:Act)(w:World)(v:Value)(w':World):Prop:=
 (execOp a.eval o).run Q w= .ok (.value v) w'\/((execOp a.eval o).run Q w= .ok .skip w'/\v=undef)
theorem qib(h:aG Q T F G w a s){g:Option (Nat×Bool)}(hg:mx a g){o:Oper}{s':S}(hs:ef Q s o g=some s'):
  ∃v w' F' G',Ran Q o a w v w'/\aG Q T F' G' w' (a.put o.dst v) s'/\Ext (Own G s.rg) (Own G' s'.rg) F F' w w':=by
 unfold ef at hs;unfold Ran execOp;split at hs
 next t ho=>
  split at hs
  next z hz=>
   obtain⟨zv,Cr,Jq⟩:=qk (F:=F) hz w;obtain⟨c1,c2,c3⟩:=ec Jq;obtain⟨G',d1,d2⟩:=Cv h hs (cs:=zv.cells) (by rw[c1];cases z<;>simp[P.cells,D.cells]) (ly Jq) (λi v c hv hc=>by
    have: ∃x,c= .d x/\z.cells[i]?=some x:=by
     cases z<;>simp only[P.cells,D.cells] at hc⊢ <;>first
      | (simp only[zaD,zax] at hc;obtain⟨x,hx,rfl⟩:=hc;exact⟨x,rfl,hx⟩)
      | (cases i<;>simp at hc⊢;exact hc.symm)
    obtain⟨x,rfl,hx⟩:=this;exact .d (c3 i v x hv hx))
   refine⟨_,_,F,G',.inl ?_,d1,d2⟩;simp[ho,Instr.alloc,Cr,newVar,newRow]
  cases hs
 next t x ho=>
  have hx:=aW h hg x;split at hs
  next gU=>obtain⟨c1,c2,c3⟩:=yK hx gU;obtain⟨G',d1,d2⟩:=Cv h hs c1 c3 c2;refine⟨_,_,F,G',.inl ?_,d1,d2⟩;simp[ho,Instr.box,newVar,newRow]
  cases hs
 next t ad x ho=>
  split at hs
  next s1 h1=>obtain⟨w',F',G',cb,d1,d2⟩:=OH h h1 (aW h hg ad) (aW h hg x);obtain⟨e1,e2⟩:=cC d1 hs (v:=undef) (cA.of (.bad _));refine⟨undef,w',F',G',.inr ⟨by simp[ho,cb],rfl⟩,e1,?_⟩;rw[e2];exact d2
  cases hs
 next t1 t2 x ho=>
  split at hs
  next e ht1 BE=>
   split at hs
   ·rename_i ys he hys;split at hs
    next l hl=>obtain⟨news,BF,hf⟩:=D6 h (by omega) hys (aW h hg x);have hr:=BG ht1 he BE (Kh hys ht1 (aW h hg x)) BF hf hl;obtain⟨e1,e2⟩:=cC h hs (v:= .string ⟨⟨l⟩⟩) (cA.of (.d (.str l)));refine⟨_,w,F,G,.inl (by simp[ho,hr]),e1,?_⟩;rw[e2];exact Ext.refl _ _ _
    cases hs
   cases hs
  cases hs
 next c ho=>
  split at hs
  next lB=>
   split at hs
   ·rename_i x y t t2 cW GU;obtain⟨v,w',G',cb,d1,d2⟩:=Ke (ty:=o.type) h hs (aW h hg x) (aW h hg y);have ea:c.args= #[x,y]:=by apply zby.1;simpa using cW
    have et:c.argTypes= #[t,t2]:=by apply zby.1;simpa using GU
    refine⟨v,w',F,G',.inl ?_,d1,d2⟩;simp[ho,resolve,lB,ea,et,invoke,builtin,cb]
   cases hs
  next lB=>
   split at hs
   ·rename_i x y t t2 cW GU;obtain⟨v,w',G',cb,d1,d2⟩:=Sq (ty:=o.type) h hs (aW h hg x) (aW h hg y);have ea:c.args= #[x,y]:=by apply zby.1;simpa using cW
    have et:c.argTypes= #[t,t2]:=by apply zby.1;simpa using GU
    refine⟨v,w',F,G',.inl ?_,d1,d2⟩;simp[ho,resolve,lB,ea,et,invoke,builtin,cb]
   cases hs
  next lB=>
   split at hs
   ·rename_i x t cW GU;obtain⟨v,w',G',cb,d1,d2⟩:=OO (ty:=o.type) h hs (aW h hg x);have ea:c.args= #[x]:=by apply zby.1;simpa using cW
    have et:c.argTypes= #[t]:=by apply zby.1;simpa using GU
    refine⟨v,w',F,G',.inl ?_,d1,d2⟩;simp[ho,resolve,lB,ea,et,invoke,builtin,cb]
   cases hs
  cases hs
 next t x y ho=>obtain⟨v,w',G',cb,d1,d2⟩:=Sm h hs (aW h hg x) (aW h hg y);exact⟨v,w',F,G',.inl (by simp[ho,cb]),d1,d2⟩
 next t ho=>obtain⟨v,w',G',cb,d1,d2⟩:=GS h hs;exact⟨v,w',F,G',.inl (by simp[ho,cb]),d1,d2⟩
 next t m k x ho=>obtain⟨w',F',G',cb,d1,d2⟩:=yU h hs (aW h hg m) (aW h hg k) (aW h hg x);exact⟨undef,w',F',G',.inr ⟨by simp[ho,cb],rfl⟩,d1,d2⟩
 next t m k x ho=>obtain⟨w',F',G',cb,d1,d2⟩:=yU h hs (aW h hg m) (aW h hg k) (aW h hg x);exact⟨undef,w',F',G',.inr ⟨by simp[ho,cb],rfl⟩,d1,d2⟩
 next t x ho=>obtain⟨v,w',F',G',cb,d1,d2⟩:=OQ h hs (aW h hg x);exact⟨v,w',F',G',.inl (by simp[ho,cb]),d1,d2⟩
 next t m k ho=>obtain⟨v,w',F',G',cb,d1,d2⟩:=Kg h hs (aW h hg m) (aW h hg k);exact⟨v,w',F',G',.inl (by simp[ho,cb]),d1,d2⟩
 next t m st x ho=>obtain⟨w',F',G',cb,d1,d2⟩:=OP (t:=t) h hs (aW h hg m) (aW h hg st) (aW h hg x);exact⟨undef,w',F',G',.inr ⟨by simp[ho,cb],rfl⟩,d1,d2⟩
 next t len parts ho=>obtain⟨v,w',F',G',cb,d1,d2⟩:=OL (vs:=parts.map λ(i,x)=>(i,a.eval x)) h hs (by simp) (λi x y hx hy=>by simp only[zde,zaD,zax] at hx hy;obtain⟨z,hz,rfl⟩:=hx;obtain⟨z',hz',rfl⟩:=hy;rw[hz] at hz';cases hz';exact⟨rfl,aW h hg z.2⟩);exact⟨v,w',F',G',.inl (by simp[ho,cb]),d1,d2⟩
 cases hs
theorem Sr(h:aG Q T F G w a s){g:Option (Nat×Bool)}(hg:mx a g){o:Oper}{s':S}(hs:jC Q s o g=some s'):
  ∃v w' F' G',Ran Q o a w v w'/\aG Q T F' G' w' (a.put o.dst v) s'/\Ext (Own G s.rg) (Own G' s'.rg) F F' w w':=by
 unfold jC at hs;split at hs
 next e Yb=>
  split at hs
  next s1 v hn=>
   unfold db at Yb;split at Yb
   next ho=>obtain⟨h1,h2,h3,h4⟩:=mV h hn (g1:= .slice none 0 0) (w':=w) (λ_ _=>rfl) (zak _) rfl rfl rfl (λb hb=>by simp[bF,aM] at hb) (.inl ⟨a7 _ _ _,rfl⟩);obtain⟨c1,c2⟩:=cC h1 hs (v:= .slice none 0 0) (cA.of (.sl (site o.dst) v 0 _ rfl ⟨_,h4,zak _,λ_ _=>⟨none,0,0,a7 _ _ _,rfl,zak _⟩⟩));refine⟨.slice none 0 0,w,F,_,.inl (by simp[execOp,ho,Act.eval]),c1,?_⟩;rw[c2];exact h2
   cases Yb
  cases hs
 split at hs
 next p hp=>obtain⟨v,cb,hv⟩:=qh5 h hg hp;obtain⟨c1,c2⟩:=cC h hs (cA.of hv);refine⟨v,w,F,G,.inl cb,c1,?_⟩;rw[c2];exact Ext.refl _ _ _
 exact qib h hg hs
theorem vu{o:Oper}{t:TypeId}{len:Nat}{parts:List (Nat×Operand)}(h:se o=some (t,len,parts)): ∃ps,o.op= .buildSlice t len ps/\parts=ps.toList/\o.type=4000000:=by
 unfold se at h;split at h
 next t' qmt ps ho=>
  split at h
  next hb=>cases h;exact⟨ps,ho,rfl,zag hb⟩
  cases h
 cases h
theorem Z5(h:aG Q T F G w a s){g:Option (Nat×Bool)}(hg:mx a g){o:Oper}{s':S}(hs:exec Q s o g=some s'):
  ∃v w' F' G',Ran Q o a w v w'/\aG Q T F' G' w' (a.put o.dst v) s'/\Ext (Own G s.rg) (Own G' s'.rg) F F' w w':=by
 unfold exec at hs;split at hs
 next t len parts hm=>
  obtain⟨ps,ho,rfl,_⟩:=vu hm;split at hs
  next p hp=>obtain⟨v,w',F',g1,g2,g3,g4⟩:=Sp h hp (vs:=ps.map λx=>(x.1,a.eval x.2)) (by simp) (λi x y hx hy=>by simp only[zde,zaD,zax] at hx hy;obtain⟨z,hz,rfl⟩:=hx;obtain⟨z',hz',rfl⟩:=hy;rw[hz] at hz';cases hz';exact⟨rfl,aW h hg _⟩);obtain⟨c1,c2⟩:=cC g2 hs (cA.of g3);exact⟨v,w',F',G,.inl (by simp[execOp,ho,g1]),c1,by rw[c2];exact g4⟩
  cases hs
 exact Sr h hg hs
end
end Pi
