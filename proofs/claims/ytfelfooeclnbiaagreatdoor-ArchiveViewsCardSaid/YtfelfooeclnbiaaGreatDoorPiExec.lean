/- The text PiExec. -/
import Derived.Test.YtfelfooeclnbiaaGreatDoorPiIter
import Derived.Laws.BytesArg
namespace Pi
open Go
section
variable{Q:Program}{T:Tg}{F:Nat->Prop}{G:Nat->Value}{w:World}{a:Act}{s:S}
theorem vp: ∀(es:List D) (l:List UInt8),jD es=some l-> ∃ns:List Int,es=ns.map (D.int .u8)/\l=ns.map λn=>UInt8.ofNat n.toNat
 | [],l,h=>by simp[jD] at h;subst h;exact⟨[],rfl,rfl⟩
 |x::es,l,h=>by
  cases x<;>try (simp[jD] at h;done)
  rename_i k n;cases k<;>try (simp[jD] at h;done)
  simp only[jD] at h;cases hb:jD es with
  |none=>simp[hb] at h
  |some l'=>simp[hb] at h;subst h;obtain⟨ns,rfl,rfl⟩:=vp es l' hb;exact⟨n::ns,rfl,rfl⟩
theorem Mr{ns:List Int}{xs:List Value}(h:dT F w 1 (ns.map (D.int .u8)) xs):xs=ns.map (Value.int .u8):=by
 have hl:xs.length=ns.length:=by simpa using h.1
 apply zct;intro i;by_cases hi:i<ns.length
 ·obtain⟨h1,h2,h3⟩:=h.2 i (.int .u8 ns[i]) (by simp[hi]);have:=h3 0 (.int .u8 ns[i]) (by simp[D.cells]);simp only[zcS,zbV] at this;have e:xs.getD i undef= .int .u8 ns[i]:=this.fE rfl;have hx:i<xs.length:=by omega
  simp only[zab,zac hx,zby] at e;rw[zac hx,e];simp[hi]
 rw[zbj (by omega),zbj (by simp;omega)]
theorem Ic{t2:TypeId}{k:Nat}{p:P}{ys:List D}(hs:lW Q s t2 k p=some ys){e':TypeId}(ht:Q.underlying t2=some (.slice e')){v:Value}(hv:aF F w G s.rg v p): ∃ad n c,v= .slice ad n c:=by
 unfold lW at hs;split at hs
 next n aR len=>
  split at hs
  next ty fz es e' ho AO=>
   obtain⟨e,he,dw,bH⟩:=S.bw ho;cases hv with
   |sl _ _ _ _ h1 hr=>obtain⟨a0,N,cap,hG,rfl,hle⟩:=hr.at he dw (by rw[bH];rfl);exact⟨_,_,_,rfl⟩
  cases hs
 next n aR k0 off len=>
  split at hs
  next ty fz es e' ho AO=>
   obtain⟨e,he,dw,bH⟩:=S.bw ho;cases hv with
   |lu _ _ _ _ _ _ h1 hr=>obtain⟨a0,N,cap,hG,hle,a1,qo,rfl,_⟩:=hr.at he dw (by rw[bH];rfl);exact⟨_,_,_,rfl⟩
  cases hs
 ·cases hv with
  |d hv=>cases hv<;>exact⟨_,_,_,rfl⟩
 ·cases hv with
  |d hv=>cases hv;exact⟨_,_,_,rfl⟩
 ·rw[ht] at hs;simp at hs
 cases hs
theorem zO{src e dst:TypeId}(hs:Q.underlying src=some (.slice e))(he:Q.underlying e=some (.int .u8))(hd:Q.underlying dst=some .string){v:Value}{ys:List D}{news:List Value}{l:List UInt8}
  (Hm: ∃ad n c,v= .slice ad n c) (zN:Src Q 1 src v ys.length news w) (hf:dT F w 1 ys news) (hb:jD ys=some l):(Go.convert src dst v).run Q w= .ok (.string ⟨⟨l⟩⟩) w:=by
 obtain⟨ad,n,c,rfl⟩:=Hm;obtain⟨ns,rfl,rfl⟩:=vp ys l hb;have hn:=Mr hf;subst hn;have hlen:n=ns.length:=by have:=zN.len w;simp[Builtin.lenOf] at this;exact this
 subst hlen;have hc:=zN.cells;cases ad with
 |none=>
  simp[Builtin.firstCells] at hc;have:ns=[]:=by simpa using hc.symm
  subst this;rw[run_convert_bytes_nil w src e hs he _ _ dst hd];rfl
 |some ad=>simp only[Builtin.firstCells,zaa,zcS] at hc;rw[run_convert_bytes_string w src dst e _ _ c hs he hd,run_bytesToString w _ _ c ns hc,foldl_push_bytes];simp[ByteArray.empty,ByteArray.emptyWithCapacity];rfl
def Ran(Q:Program)(o:Oper)(a:Act)(w:World)(v:Value)(w':World):Prop:=
 (execOp a.eval o).run Q w= .ok (.value v) w'\/((execOp a.eval o).run Q w= .ok .skip w'/\v=undef)
theorem qfn(h:aB Q T F G w a s){g:Option (Nat×Bool)}(hg:lG a g){o:Oper}{s':S}(hs:ef Q s o g=some s'):
  ∃v w' F' G',Ran Q o a w v w'/\aB Q T F' G' w' (a.put o.dst v) s'/\Ext (Own G s.rg) (Own G' s'.rg) F F' w w':=by
 unfold ef at hs;unfold Ran execOp;split at hs
 next t ho=>
  split at hs
  next z hz=>
   obtain⟨zv,AH,Hi⟩:=ph (F:=F) hz w;obtain⟨c1,c2,c3⟩:=dL Hi;obtain⟨G',d1,d2⟩:=AN h hs (cs:=zv.cells) (by rw[c1];cases z<;>simp[P.cells,D.cells]) (kL Hi) (λi v c hv hc=>by
    have: ∃x,c= .d x/\z.cells[i]?=some x:=by
     cases z<;>simp only[P.cells,D.cells] at hc⊢ <;>first
      | (simp only[zaD,zav] at hc;obtain⟨x,hx,rfl⟩:=hc;exact⟨x,rfl,hx⟩)
      | (cases i<;>simp at hc⊢;exact hc.symm)
    obtain⟨x,rfl,hx⟩:=this;exact .d (c3 i v x hv hx))
   refine⟨_,_,F,G',.inl ?_,d1,d2⟩;simp[ho,Instr.alloc,AH,newVar,newRow]
  cases hs
 next t x ho=>
  have hx:=aS h hg x;split at hs
  next gy=>obtain⟨c1,c2,c3⟩:=xi hx gy;obtain⟨G',d1,d2⟩:=AN h hs c1 c3 c2;refine⟨_,_,F,G',.inl ?_,d1,d2⟩;simp[ho,Instr.box,newVar,newRow]
  cases hs
 next t ad x ho=>
  split at hs
  next s1 h1=>obtain⟨w',F',G',bX,d1,d2⟩:=Mg h h1 (aS h hg ad) (aS h hg x);obtain⟨e1,e2⟩:=cr d1 hs (v:=undef) (cy.of (.bad _));refine⟨undef,w',F',G',.inr ⟨by simp[ho,bX],rfl⟩,e1,?_⟩;rw[e2];exact d2
  cases hs
 next t1 t2 x ho=>
  split at hs
  next e ht1 AO=>
   split at hs
   ·rename_i ys he hys;split at hs
    next l hl=>obtain⟨news,zN,hf⟩:=Cj h (by omega) hys (aS h hg x);have hr:=zO ht1 he AO (Ic hys ht1 (aS h hg x)) zN hf hl;obtain⟨e1,e2⟩:=cr h hs (v:= .string ⟨⟨l⟩⟩) (cy.of (.d (.str l)));refine⟨_,w,F,G,.inl (by simp[ho,hr]),e1,?_⟩;rw[e2];exact Ext.refl _ _ _
    cases hs
   cases hs
  cases hs
 next c ho=>
  split at hs
  next kO=>
   split at hs
   ·rename_i x y t t2 cN EI;obtain⟨v,w',G',bX,d1,d2⟩:=H8 (ty:=o.type) h hs (aS h hg x) (aS h hg y);have ea:c.args= #[x,y]:=by apply zbx.1;simpa using cN
    have et:c.argTypes= #[t,t2]:=by apply zbx.1;simpa using EI
    refine⟨v,w',F,G',.inl ?_,d1,d2⟩;simp[ho,resolve,kO,ea,et,invoke,builtin,bX]
   cases hs
  next kO=>
   split at hs
   ·rename_i x y t t2 cN EI;obtain⟨v,w',G',bX,d1,d2⟩:=PL (ty:=o.type) h hs (aS h hg x) (aS h hg y);have ea:c.args= #[x,y]:=by apply zbx.1;simpa using cN
    have et:c.argTypes= #[t,t2]:=by apply zbx.1;simpa using EI
    refine⟨v,w',F,G',.inl ?_,d1,d2⟩;simp[ho,resolve,kO,ea,et,invoke,builtin,bX]
   cases hs
  next kO=>
   split at hs
   ·rename_i x t cN EI;obtain⟨v,w',G',bX,d1,d2⟩:=Mm (ty:=o.type) h hs (aS h hg x);have ea:c.args= #[x]:=by apply zbx.1;simpa using cN
    have et:c.argTypes= #[t]:=by apply zbx.1;simpa using EI
    refine⟨v,w',F,G',.inl ?_,d1,d2⟩;simp[ho,resolve,kO,ea,et,invoke,builtin,bX]
   cases hs
  cases hs
 next t x y ho=>obtain⟨v,w',G',bX,d1,d2⟩:=PJ h hs (aS h hg x) (aS h hg y);exact⟨v,w',F,G',.inl (by simp[ho,bX]),d1,d2⟩
 next t ho=>obtain⟨v,w',G',bX,d1,d2⟩:=EH h hs;exact⟨v,w',F,G',.inl (by simp[ho,bX]),d1,d2⟩
 next t m k x ho=>obtain⟨w',F',G',bX,d1,d2⟩:=xt h hs (aS h hg m) (aS h hg k) (aS h hg x);exact⟨undef,w',F',G',.inr ⟨by simp[ho,bX],rfl⟩,d1,d2⟩
 next t m k x ho=>obtain⟨w',F',G',bX,d1,d2⟩:=xt h hs (aS h hg m) (aS h hg k) (aS h hg x);exact⟨undef,w',F',G',.inr ⟨by simp[ho,bX],rfl⟩,d1,d2⟩
 next t x ho=>obtain⟨v,w',F',G',bX,d1,d2⟩:=Mp h hs (aS h hg x);exact⟨v,w',F',G',.inl (by simp[ho,bX]),d1,d2⟩
 next t m k ho=>obtain⟨v,w',F',G',bX,d1,d2⟩:=Ib h hs (aS h hg m) (aS h hg k);exact⟨v,w',F',G',.inl (by simp[ho,bX]),d1,d2⟩
 next t m st x ho=>obtain⟨w',F',G',bX,d1,d2⟩:=Mn (t:=t) h hs (aS h hg m) (aS h hg st) (aS h hg x);exact⟨undef,w',F',G',.inr ⟨by simp[ho,bX],rfl⟩,d1,d2⟩
 next t len parts ho=>obtain⟨v,w',F',G',bX,d1,d2⟩:=Mk (vs:=parts.map λ(i,x)=>(i,a.eval x)) h hs (by simp) (λi x y hx hy=>by simp only[zc8,zaD,zav] at hx hy;obtain⟨z,hz,rfl⟩:=hx;obtain⟨z',hz',rfl⟩:=hy;rw[hz] at hz';cases hz';exact⟨rfl,aS h hg z.2⟩);exact⟨v,w',F',G',.inl (by simp[ho,bX]),d1,d2⟩
 cases hs
theorem PN(h:aB Q T F G w a s){g:Option (Nat×Bool)}(hg:lG a g){o:Oper}{s':S}(hs:jg Q s o g=some s'):
  ∃v w' F' G',Ran Q o a w v w'/\aB Q T F' G' w' (a.put o.dst v) s'/\Ext (Own G s.rg) (Own G' s'.rg) F F' w w':=by
 unfold jg at hs;split at hs
 next e Vp=>
  split at hs
  next s1 v hn=>
   unfold cS at Vp;split at Vp
   next ho=>obtain⟨h1,h2,h3,h4⟩:=l5 h hn (g1:= .slice none 0 0) (w':=w) (λ_ _=>rfl) (zai _) rfl rfl rfl (λb hb=>by simp[bm,aI] at hb) (.inl ⟨aV _ _ _,rfl⟩);obtain⟨c1,c2⟩:=cr h1 hs (v:= .slice none 0 0) (cy.of (.sl (site o.dst) v 0 _ rfl ⟨_,h4,zai _,λ_ _=>⟨none,0,0,aV _ _ _,rfl,zai _⟩⟩));refine⟨.slice none 0 0,w,F,_,.inl (by simp[execOp,ho,Act.eval]),c1,?_⟩;rw[c2];exact h2
   cases Vp
  cases hs
 split at hs
 next p hp=>obtain⟨v,bX,hv⟩:=qfh h hg hp;obtain⟨c1,c2⟩:=cr h hs (cy.of hv);refine⟨v,w,F,G,.inl bX,c1,?_⟩;rw[c2];exact Ext.refl _ _ _
 exact qfn h hg hs
theorem uj{o:Oper}{t:TypeId}{len:Nat}{parts:List (Nat×Operand)}(h:re o=some (t,len,parts)): ∃ps,o.op= .buildSlice t len ps/\parts=ps.toList/\o.type=4000000:=by
 unfold re at h;split at h
 next t' qiU ps ho=>
  split at h
  next hb=>cases h;exact⟨ps,ho,rfl,zah hb⟩
  cases h
 cases h
theorem Wj(h:aB Q T F G w a s){g:Option (Nat×Bool)}(hg:lG a g){o:Oper}{s':S}(hs:exec Q s o g=some s'):
  ∃v w' F' G',Ran Q o a w v w'/\aB Q T F' G' w' (a.put o.dst v) s'/\Ext (Own G s.rg) (Own G' s'.rg) F F' w w':=by
 unfold exec at hs;split at hs
 next t len parts hm=>
  obtain⟨ps,ho,rfl,_⟩:=uj hm;split at hs
  next p hp=>obtain⟨v,w',F',g1,g2,g3,g4⟩:=PK h hp (vs:=ps.map λx=>(x.1,a.eval x.2)) (by simp) (λi x y hx hy=>by simp only[zc8,zaD,zav] at hx hy;obtain⟨z,hz,rfl⟩:=hx;obtain⟨z',hz',rfl⟩:=hy;rw[hz] at hz';cases hz';exact⟨rfl,aS h hg _⟩);obtain⟨c1,c2⟩:=cr g2 hs (cy.of g3);exact⟨v,w',F',G,.inl (by simp[execOp,ho,g1]),c1,by rw[c2];exact g4⟩
  cases hs
 exact PN h hg hs
end
end Pi
