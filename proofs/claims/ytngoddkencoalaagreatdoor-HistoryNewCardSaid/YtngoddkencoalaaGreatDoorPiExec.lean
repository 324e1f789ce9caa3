/- The text PiExec. -/
import Derived.Test.YtngoddkencoalaaGreatDoorPiIter
import Derived.Laws.BytesArg
namespace Pi
open Go
section
variable{Q:Program}{T:Tg}{F:Nat->Prop}{G:Nat->Value}{w:World}{a:Act}{s:S}
theorem uP: ∀(es:List D) (l:List UInt8),jG es=some l-> ∃ns:List Int,es=ns.map (D.int .u8)/\l=ns.map λn=>UInt8.ofNat n.toNat
 | [],l,h=>by simp[jG] at h;subst h;exact⟨[],rfl,rfl⟩
 |x::es,l,h=>by
  cases x<;>try (simp[jG] at h;done)
  rename_i k n;cases k<;>try (simp[jG] at h;done)
  simp only[jG] at h;cases hb:jG es with
  |none=>simp[hb] at h
  |some l'=>simp[hb] at h;subst h;obtain⟨ns,rfl,rfl⟩:=uP es l' hb;exact⟨n::ns,rfl,rfl⟩
theorem Mn{ns:List Int}{xs:List Value}(h:er F w 1 (ns.map (D.int .u8)) xs):xs=ns.map (Value.int .u8):=by
 have hl:xs.length=ns.length:=by simpa using h.1
 apply zcp;intro i;by_cases hi:i<ns.length
 ·obtain⟨h1,h2,h3⟩:=h.2 i (.int .u8 ns[i]) (by simp[hi]);have:=h3 0 (.int .u8 ns[i]) (by simp[D.cells]);simp only[Nat.mul_one,zbQ] at this;have e:xs.getD i undef= .int .u8 ns[i]:=this.gw rfl;have hx:i<xs.length:=by omega
  simp only[zac,zae hx,zcb] at e;rw[zae hx,e];simp[hi]
 rw[zbn (by omega),zbn (by simp;omega)]
theorem H4{t2:TypeId}{k:Nat}{p:P}{ys:List D}(hs:l8 Q s t2 k p=some ys){e':TypeId}(ht:Q.underlying t2=some (.slice e')){v:Value}(hv:aF F w G s.rg v p): ∃ad n c,v= .slice ad n c:=by
 unfold l8 at hs;split at hs
 next n aY len=>
  split at hs
  next ty fz es e' ho zT=>
   obtain⟨e,he,dR,bV⟩:=S.bJ ho;cases hv with
   |sl _ _ _ _ h1 hr=>obtain⟨a0,N,cap,hG,rfl,hle⟩:=hr.at he dR (by rw[bV];rfl);exact⟨_,_,_,rfl⟩
  cases hs
 next n aY k0 off len=>
  split at hs
  next ty fz es e' ho zT=>
   obtain⟨e,he,dR,bV⟩:=S.bJ ho;cases hv with
   |lG _ _ _ _ _ _ h1 hr=>obtain⟨a0,N,cap,hG,hle,a1,qt,rfl,_⟩:=hr.at he dR (by rw[bV];rfl);exact⟨_,_,_,rfl⟩
  cases hs
 ·cases hv with
  |d hv=>cases hv<;>exact⟨_,_,_,rfl⟩
 ·cases hv with
  |d hv=>cases hv;exact⟨_,_,_,rfl⟩
 ·rw[ht] at hs;simp at hs
 cases hs
theorem zV{src e dst:TypeId}(hs:Q.underlying src=some (.slice e))(he:Q.underlying e=some (.int .u8))(hd:Q.underlying dst=some .string){v:Value}{ys:List D}{news:List Value}{l:List UInt8}
  (Ko: ∃ad n c,v= .slice ad n c) (zU:Src Q 1 src v ys.length news w) (hf:er F w 1 ys news) (hb:jG ys=some l):(Go.convert src dst v).run Q w= .ok (.string ⟨⟨l⟩⟩) w:=by
 obtain⟨ad,n,c,rfl⟩:=Ko;obtain⟨ns,rfl,rfl⟩:=uP ys l hb;have hn:=Mn hf;subst hn;have hlen:n=ns.length:=by have:=zU.len w;simp[Builtin.lenOf] at this;exact this
 subst hlen;have hc:=zU.cells;cases ad with
 |none=>
  simp[Builtin.firstCells] at hc;have:ns=[]:=by simpa using hc.symm
  subst this;rw[run_convert_bytes_nil w src e hs he _ _ dst hd];rfl
 |some ad=>simp only[Builtin.firstCells,zaa,Nat.mul_one] at hc;rw[run_convert_bytes_string w src dst e _ _ c hs he hd,run_bytesToString w _ _ c ns hc,foldl_push_bytes];simp[ByteArray.empty,ByteArray.emptyWithCapacity];rfl
def Ran(Q:Program)(o:Oper)(a:Act)(w:World)(v:Value)(w':World):Prop:=
 (execOp a.eval o).run Q w= .ok (.value v) w'\/((execOp a.eval o).run Q w= .ok .skip w'/\v=undef)
theorem qe9(h:aD Q T F G w a s){g:Option (Nat×Bool)}(hg:lP a g){o:Oper}{s':S}(hs:ef Q s o g=some s'):
  ∃v w' F' G',Ran Q o a w v w'/\aD Q T F' G' w' (a.put o.dst v) s'/\Ext (Own G s.rg) (Own G' s'.rg) F F' w w':=by
 unfold ef at hs;unfold Ran execOp;split at hs
 next t ho=>
  split at hs
  next z hz=>
   obtain⟨zv,AP,GY⟩:=o8 (F:=F) hz w;obtain⟨c1,c2,c3⟩:=dY GY;obtain⟨G',d1,d2⟩:=AT h hs (cs:=zv.cells) (by rw[c1];cases z<;>simp[P.cells,D.cells]) (kP GY) (λi v c hv hc=>by
    have: ∃x,c= .d x/\z.cells[i]?=some x:=by
     cases z<;>simp only[P.cells,D.cells] at hc⊢ <;>first
      | (simp only[zaJ,zaw] at hc;obtain⟨x,hx,rfl⟩:=hc;exact⟨x,rfl,hx⟩)
      | (cases i<;>simp at hc⊢;exact hc.symm)
    obtain⟨x,rfl,hx⟩:=this;exact .d (c3 i v x hv hx))
   refine⟨_,_,F,G',.inl ?_,d1,d2⟩;simp[ho,Instr.alloc,AP,newVar,newRow]
  cases hs
 next t x ho=>
  have hx:=a7 h hg x;split at hs
  next iq=>obtain⟨c1,c2,c3⟩:=xh hx iq;obtain⟨G',d1,d2⟩:=AT h hs c1 c3 c2;refine⟨_,_,F,G',.inl ?_,d1,d2⟩;simp[ho,Instr.box,newVar,newRow]
  cases hs
 next t ad x ho=>
  split at hs
  next s1 h1=>obtain⟨w',F',G',bX,d1,d2⟩:=Md h h1 (a7 h hg ad) (a7 h hg x);obtain⟨e1,e2⟩:=cz d1 hs (v:=undef) (cx.of (.bad _));refine⟨undef,w',F',G',.inr ⟨by simp[ho,bX],rfl⟩,e1,?_⟩;rw[e2];exact d2
  cases hs
 next t1 t2 x ho=>
  split at hs
  next e ht1 zT=>
   split at hs
   ·rename_i ys he hys;split at hs
    next l hl=>obtain⟨news,zU,hf⟩:=Cq h (by omega) hys (a7 h hg x);have hr:=zV ht1 he zT (H4 hys ht1 (a7 h hg x)) zU hf hl;obtain⟨e1,e2⟩:=cz h hs (v:= .string ⟨⟨l⟩⟩) (cx.of (.d (.str l)));refine⟨_,w,F,G,.inl (by simp[ho,hr]),e1,?_⟩;rw[e2];exact Ext.refl _ _ _
    cases hs
   cases hs
  cases hs
 next c ho=>
  split at hs
  next kS=>
   split at hs
   ·rename_i x y t t2 cP EO;obtain⟨v,w',G',bX,d1,d2⟩:=H0 (ty:=o.type) h hs (a7 h hg x) (a7 h hg y);have ea:c.args= #[x,y]:=by apply zbs.1;simpa using cP
    have et:c.argTypes= #[t,t2]:=by apply zbs.1;simpa using EO
    refine⟨v,w',F,G',.inl ?_,d1,d2⟩;simp[ho,resolve,kS,ea,et,invoke,builtin,bX]
   cases hs
  next kS=>
   split at hs
   ·rename_i x y t t2 cP EO;obtain⟨v,w',G',bX,d1,d2⟩:=PH (ty:=o.type) h hs (a7 h hg x) (a7 h hg y);have ea:c.args= #[x,y]:=by apply zbs.1;simpa using cP
    have et:c.argTypes= #[t,t2]:=by apply zbs.1;simpa using EO
    refine⟨v,w',F,G',.inl ?_,d1,d2⟩;simp[ho,resolve,kS,ea,et,invoke,builtin,bX]
   cases hs
  next kS=>
   split at hs
   ·rename_i x t cP EO;obtain⟨v,w',G',bX,d1,d2⟩:=Mj (ty:=o.type) h hs (a7 h hg x);have ea:c.args= #[x]:=by apply zbs.1;simpa using cP
    have et:c.argTypes= #[t]:=by apply zbs.1;simpa using EO
    refine⟨v,w',F,G',.inl ?_,d1,d2⟩;simp[ho,resolve,kS,ea,et,invoke,builtin,bX]
   cases hs
  cases hs
 next t x y ho=>obtain⟨v,w',G',bX,d1,d2⟩:=PE h hs (a7 h hg x) (a7 h hg y);exact⟨v,w',F,G',.inl (by simp[ho,bX]),d1,d2⟩
 next t ho=>obtain⟨v,w',G',bX,d1,d2⟩:=EN h hs;exact⟨v,w',F,G',.inl (by simp[ho,bX]),d1,d2⟩
 next t m k x ho=>obtain⟨w',F',G',bX,d1,d2⟩:=xt h hs (a7 h hg m) (a7 h hg k) (a7 h hg x);exact⟨undef,w',F',G',.inr ⟨by simp[ho,bX],rfl⟩,d1,d2⟩
 next t m k x ho=>obtain⟨w',F',G',bX,d1,d2⟩:=xt h hs (a7 h hg m) (a7 h hg k) (a7 h hg x);exact⟨undef,w',F',G',.inr ⟨by simp[ho,bX],rfl⟩,d1,d2⟩
 next t x ho=>obtain⟨v,w',F',G',bX,d1,d2⟩:=Ml h hs (a7 h hg x);exact⟨v,w',F',G',.inl (by simp[ho,bX]),d1,d2⟩
 next t m k ho=>obtain⟨v,w',F',G',bX,d1,d2⟩:=H3 h hs (a7 h hg m) (a7 h hg k);exact⟨v,w',F',G',.inl (by simp[ho,bX]),d1,d2⟩
 next t m st x ho=>obtain⟨w',F',G',bX,d1,d2⟩:=Mk (t:=t) h hs (a7 h hg m) (a7 h hg st) (a7 h hg x);exact⟨undef,w',F',G',.inr ⟨by simp[ho,bX],rfl⟩,d1,d2⟩
 next t len parts ho=>obtain⟨v,w',F',G',bX,d1,d2⟩:=Mg (vs:=parts.map λ(i,x)=>(i,a.eval x)) h hs (by simp) (λi x y hx hy=>by simp only[zcZ,zaJ,zaw] at hx hy;obtain⟨z,hz,rfl⟩:=hx;obtain⟨z',hz',rfl⟩:=hy;rw[hz] at hz';cases hz';exact⟨rfl,a7 h hg z.2⟩);exact⟨v,w',F',G',.inl (by simp[ho,bX]),d1,d2⟩
 cases hs
theorem PI(h:aD Q T F G w a s){g:Option (Nat×Bool)}(hg:lP a g){o:Oper}{s':S}(hs:jg Q s o g=some s'):
  ∃v w' F' G',Ran Q o a w v w'/\aD Q T F' G' w' (a.put o.dst v) s'/\Ext (Own G s.rg) (Own G' s'.rg) F F' w w':=by
 unfold jg at hs;split at hs
 next e Vd=>
  split at hs
  next s1 v hn=>
   unfold c7 at Vd;split at Vd
   next ho=>obtain⟨h1,h2,h3,h4⟩:=mc h hn (g1:= .slice none 0 0) (w':=w) (λ_ _=>rfl) (zaj _) rfl rfl rfl (λb hb=>by simp[bH,aR] at hb) (.inl ⟨bb _ _ _,rfl⟩);obtain⟨c1,c2⟩:=cz h1 hs (v:= .slice none 0 0) (cx.of (.sl (site o.dst) v 0 _ rfl ⟨_,h4,zaj _,λ_ _=>⟨none,0,0,bb _ _ _,rfl,zaj _⟩⟩));refine⟨.slice none 0 0,w,F,_,.inl (by simp[execOp,ho,Act.eval]),c1,?_⟩;rw[c2];exact h2
   cases Vd
  cases hs
 split at hs
 next p hp=>obtain⟨v,bX,hv⟩:=qe3 h hg hp;obtain⟨c1,c2⟩:=cz h hs (cx.of hv);refine⟨v,w,F,G,.inl bX,c1,?_⟩;rw[c2];exact Ext.refl _ _ _
 exact qe9 h hg hs
theorem tT{o:Oper}{t:TypeId}{len:Nat}{parts:List (Nat×Operand)}(h:rl o=some (t,len,parts)): ∃ps,o.op= .buildSlice t len ps/\parts=ps.toList/\o.type=4000000:=by
 unfold rl at h;split at h
 next t' qjh ps ho=>
  split at h
  next hb=>cases h;exact⟨ps,ho,rfl,zaf hb⟩
  cases h
 cases h
theorem Wj(h:aD Q T F G w a s){g:Option (Nat×Bool)}(hg:lP a g){o:Oper}{s':S}(hs:exec Q s o g=some s'):
  ∃v w' F' G',Ran Q o a w v w'/\aD Q T F' G' w' (a.put o.dst v) s'/\Ext (Own G s.rg) (Own G' s'.rg) F F' w w':=by
 unfold exec at hs;split at hs
 next t len parts hm=>
  obtain⟨ps,ho,rfl,_⟩:=tT hm;split at hs
  next p hp=>obtain⟨v,w',F',g1,g2,g3,g4⟩:=PG h hp (vs:=ps.map λx=>(x.1,a.eval x.2)) (by simp) (λi x y hx hy=>by simp only[zcZ,zaJ,zaw] at hx hy;obtain⟨z,hz,rfl⟩:=hx;obtain⟨z',hz',rfl⟩:=hy;rw[hz] at hz';cases hz';exact⟨rfl,a7 h hg _⟩);obtain⟨c1,c2⟩:=cz g2 hs (cx.of g3);exact⟨v,w',F',G,.inl (by simp[execOp,ho,g1]),c1,by rw[c2];exact g4⟩
  cases hs
 exact PI h hg hs
end
end Pi
