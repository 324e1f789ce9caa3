/- The text PiExec. -/
import Derived.Test.YtdgkdigdflkjhaaGreatDoorPiIter
import Derived.Laws.BytesArg
namespace Pi
open Go
section
variable{Q:Program}{T:Tg}{F:Nat->Prop}{G:Nat->Value}{w:World}{a:Act}{s:S}
theorem xa: ∀es l,kh es=some l-> ∃ns:List Int,es=ns.map (D.int .u8)/\l=ns.map λn=>UInt8.ofNat n.toNat
 | [],l,h=>by simp[kh] at h;subst h;exact⟨[],rfl,rfl⟩
 |x::es,l,h=>by
  cases x<;>try (simp[kh] at h;done)
  rename_i k n;cases k<;>try (simp[kh] at h;done)
  simp only[kh] at h;cases hb:kh es with
  |none=>simp[hb] at h
  |some l'=>simp[hb] at h;subst h;obtain⟨ns,rfl,rfl⟩:=xa es l' hb;exact⟨n::ns,rfl,rfl⟩
theorem QB{ns:List Int}{xs}(h:eG F w 1 (ns.map (D.int .u8)) xs):xs=ns.map (Value.int .u8):=by
 have hl:xs.length=ns.length:=by simpa using h.1
 apply zcG;intro i;by_cases hi:i<ns.length
 ·obtain⟨h1,h2,h3⟩:=h.2 i (.int .u8 ns[i]) (by simp[hi]);have:=h3 0 (.int .u8 ns[i]) (by simp[D.cells]);simp only[Nat.mul_one,zb1] at this;have e:xs.getD i undef= .int .u8 ns[i]:=this.gG rfl;have hx:i<xs.length:=by omega
  simp only[zab,zad hx,zca] at e;rw[zad hx,e];simp[hi]
 rw[zbw (by omega),zbw (by simp;omega)]
theorem LL{t2 k p ys}(hs:nv Q s t2 k p=some ys){e'}(ht:Q.underlying t2=some (.slice e')){v}(hv:aH F w G s.rg v p): ∃ad n c,v= .slice ad n c:=by
 unfold nv at hs;split at hs
 next n aV len=>
  split at hs
  next ty fz es e' ho Dx=>
   obtain⟨e,he,eb,b8⟩:=S.bM ho;cases hv with
   |sl _ _ _ _ h1 hr=>obtain⟨a0,N,cap,hG,rfl,hle⟩:=hr.at he eb (by rw[b8];rfl);exact⟨_,_,_,rfl⟩
  cases hs
 next n aV k0 off len=>
  split at hs
  next ty fz es e' ho Dx=>
   obtain⟨e,he,eb,b8⟩:=S.bM ho;cases hv with
   |mG _ _ _ _ _ _ h1 hr=>obtain⟨a0,N,cap,hG,hle,a1,rW,rfl,_⟩:=hr.at he eb (by rw[b8];rfl);exact⟨_,_,_,rfl⟩
  cases hs
 ·cases hv with
  |d hv=>cases hv<;>exact⟨_,_,_,rfl⟩
 ·cases hv with
  |d hv=>cases hv;exact⟨_,_,_,rfl⟩
 ·rw[ht] at hs;simp at hs
 cases hs
theorem Cw{src e dst}(hs:Q.underlying src=some (.slice e))(he:Q.underlying e=some (.int .u8))(hd:Q.underlying dst=some .string){v ys news l}
  (Dz: ∃ad n c,v= .slice ad n c) (Cv:Src Q 1 src v ys.length news w) (hf:eG F w 1 ys news) (hb:kh ys=some l):(Go.convert src dst v).run Q w= .ok (.string ⟨⟨l⟩⟩) w:=by
 obtain⟨ad,n,c,rfl⟩:=Dz;obtain⟨ns,rfl,rfl⟩:=xa ys l hb;have hn:=QB hf;subst hn;have hlen:n=ns.length:=by have:=Cv.len w;simp[Builtin.lenOf] at this;exact this
 subst hlen;have hc:=Cv.cells;cases ad with
 |none=>
  simp[Builtin.firstCells] at hc;have:ns=[]:=by simpa using hc.symm
  subst this;rw[run_convert_bytes_nil w src e hs he _ _ dst hd];rfl
 |some ad=>simp only[Builtin.firstCells,zaa,Nat.mul_one] at hc;rw[run_convert_bytes_string w src dst e _ _ c hs he hd,run_bytesToString w _ _ c ns hc,foldl_push_bytes];simp[ByteArray.empty,ByteArray.emptyWithCapacity];rfl
def Ran Q o (a:Act) w v w':=
 (execOp a.eval o).run Q w= .ok (.value v) w'\/((execOp a.eval o).run Q w= .ok .skip w'/\v=undef)
theorem qiz(h:aC Q T F G w a s){g}(hg:mR a g){o s'}(hs:ef Q s o g=some s'):
  ∃v w' F' G',Ran Q o a w v w'/\aC Q T F' G' w' (a.put o.dst v) s'/\Ext (Own G s.rg) (Own G' s'.rg) F F' w w':=by
 unfold ef at hs;unfold Ran execOp;split at hs
 next t ho=>
  split at hs
  next z hz=>
   obtain⟨zv,Dt,E5⟩:=qC (F:=F) hz w;obtain⟨c1,c2,c3⟩:=eB E5;obtain⟨G',d1,d2⟩:=Dw h hs (cs:=zv.cells) (by rw[c1];cases z<;>simp[P.cells,D.cells]) (lK E5) (λi v c hv hc=>by
    have: ∃x,c= .d x/\z.cells[i]?=some x:=by
     cases z<;>simp only[P.cells,D.cells] at hc⊢ <;>first
      | (simp only[zaN,zay] at hc;obtain⟨x,hx,rfl⟩:=hc;exact⟨x,rfl,hx⟩)
      | (cases i<;>simp at hc⊢;exact hc.symm)
    obtain⟨x,rfl,hx⟩:=this;exact .d (c3 i v x hv hx))
   refine⟨_,_,F,G',.inl ?_,d1,d2⟩;simp[ho,Instr.alloc,Dt,newVar,newRow]
  cases hs
 next t x ho=>
  have hx:=aU h hg x;split at hs
  next ix=>obtain⟨c1,c2,c3⟩:=zI hx ix;obtain⟨G',d1,d2⟩:=Dw h hs c1 c3 c2;refine⟨_,_,F,G',.inl ?_,d1,d2⟩;simp[ho,Instr.box,newVar,newRow]
  cases hs
 next t ad x ho=>
  split at hs
  next s1 h1=>obtain⟨w',F',G',ca,d1,d2⟩:=Qt h h1 (aU h hg ad) (aU h hg x);obtain⟨e1,e2⟩:=cy d1 hs (v:=undef) (cE.of (.bad _));refine⟨undef,w',F',G',.inr ⟨by simp[ho,ca],rfl⟩,e1,?_⟩;rw[e2];exact d2
  cases hs
 next t1 t2 x ho=>
  split at hs
  next e ht1 Dx=>
   split at hs
   ·rename_i ys he hys;split at hs
    next l hl=>obtain⟨news,Cv,hf⟩:=Fg h (by omega) hys (aU h hg x);have hr:=Cw ht1 he Dx (LL hys ht1 (aU h hg x)) Cv hf hl;obtain⟨e1,e2⟩:=cy h hs (v:= .string ⟨⟨l⟩⟩) (cE.of (.d (.str l)));refine⟨_,w,F,G,.inl (by simp[ho,hr]),e1,?_⟩;rw[e2];exact Ext.refl _ _ _
    cases hs
   cases hs
  cases hs
 next c ho=>
  split at hs
  next ko=>
   split at hs
   ·rename_i x y t t2 cx zT;obtain⟨v,w',G',ca,d1,d2⟩:=LI (ty:=o.type) h hs (aU h hg x) (aU h hg y);have ea:c.args= #[x,y]:=by apply zbs.1;simpa using cx
    have et:c.argTypes= #[t,t2]:=by apply zbs.1;simpa using zT
    refine⟨v,w',F,G',.inl ?_,d1,d2⟩;simp[ho,resolve,ko,ea,et,invoke,builtin,ca]
   cases hs
  next ko=>
   split at hs
   ·rename_i x y t t2 cx zT;obtain⟨v,w',G',ca,d1,d2⟩:=Ug (ty:=o.type) h hs (aU h hg x) (aU h hg y);have ea:c.args= #[x,y]:=by apply zbs.1;simpa using cx
    have et:c.argTypes= #[t,t2]:=by apply zbs.1;simpa using zT
    refine⟨v,w',F,G',.inl ?_,d1,d2⟩;simp[ho,resolve,ko,ea,et,invoke,builtin,ca]
   cases hs
  next ko=>
   split at hs
   ·rename_i x t cx zT;obtain⟨v,w',G',ca,d1,d2⟩:=Qy (ty:=o.type) h hs (aU h hg x);have ea:c.args= #[x]:=by apply zbs.1;simpa using cx
    have et:c.argTypes= #[t]:=by apply zbs.1;simpa using zT
    refine⟨v,w',F,G',.inl ?_,d1,d2⟩;simp[ho,resolve,ko,ea,et,invoke,builtin,ca]
   cases hs
  next ko=>
   split at hs
   ·rename_i x y t ts cx zT;have ht0:c.argTypes[0]?=some t:=by rw[<-zcn,zT];rfl
    obtain⟨w',ca,d1,d2⟩:=qap h hs (aU h hg x) (aU h hg y) c.argTypes ht0 o.type;have ea:c.args= #[x,y]:=by apply zbs.1;simpa using cx
    refine⟨_,w',F,G,.inl ?_,d1,d2⟩;simp[ho,resolve,ko,ea,invoke,builtin,ca]
   cases hs
  cases hs
 next t x y ho=>obtain⟨v,w',G',ca,d1,d2⟩:=Ud h hs (aU h hg x) (aU h hg y);exact⟨v,w',F,G',.inl (by simp[ho,ca]),d1,d2⟩
 next t ho=>obtain⟨v,w',G',ca,d1,d2⟩:=Ic h hs;exact⟨v,w',F,G',.inl (by simp[ho,ca]),d1,d2⟩
 next t m k x ho=>obtain⟨w',F',G',ca,d1,d2⟩:=zS h hs (aU h hg m) (aU h hg k) (aU h hg x);exact⟨undef,w',F',G',.inr ⟨by simp[ho,ca],rfl⟩,d1,d2⟩
 next t m k x ho=>obtain⟨w',F',G',ca,d1,d2⟩:=zS h hs (aU h hg m) (aU h hg k) (aU h hg x);exact⟨undef,w',F',G',.inr ⟨by simp[ho,ca],rfl⟩,d1,d2⟩
 next t x ho=>obtain⟨v,w',F',G',ca,d1,d2⟩:=QA h hs (aU h hg x);exact⟨v,w',F',G',.inl (by simp[ho,ca]),d1,d2⟩
 next t m k ho=>obtain⟨v,w',F',G',ca,d1,d2⟩:=LK h hs (aU h hg m) (aU h hg k);exact⟨v,w',F',G',.inl (by simp[ho,ca]),d1,d2⟩
 next t m st x ho=>obtain⟨w',F',G',ca,d1,d2⟩:=Qz (t:=t) h hs (aU h hg m) (aU h hg st) (aU h hg x);exact⟨undef,w',F',G',.inr ⟨by simp[ho,ca],rfl⟩,d1,d2⟩
 next t len parts ho=>obtain⟨v,w',F',G',ca,d1,d2⟩:=Qw (vs:=parts.map λ(i,x)=>(i,a.eval x)) h hs (by simp) (λi x y hx hy=>by simp only[zdq,zaN,zay] at hx hy;obtain⟨z,hz,rfl⟩:=hx;obtain⟨z',hz',rfl⟩:=hy;rw[hz] at hz';cases hz';exact⟨rfl,aU h hg z.2⟩);exact⟨v,w',F',G',.inl (by simp[ho,ca]),d1,d2⟩
 cases hs
theorem Uj(h:aC Q T F G w a s){g}(hg:mR a g){o s'}(hs:jK Q s o g=some s'):
  ∃v w' F' G',Ran Q o a w v w'/\aC Q T F' G' w' (a.put o.dst v) s'/\Ext (Own G s.rg) (Own G' s'.rg) F F' w w':=by
 unfold jK at hs;split at hs
 next e hna=>
  split at hs
  next s1 v hn=>
   unfold dn at hna;split at hna
   next ho=>obtain⟨h1,h2,h3,h4⟩:=nE h hn (g1:= .slice none 0 0) (w':=w) (λ_ _=>rfl) (zal _) rfl rfl rfl (λb hb=>by simp[bB,aO] at hb) (.inl ⟨bc _ _ _,rfl⟩);obtain⟨c1,c2⟩:=cy h1 hs (v:= .slice none 0 0) (cE.of (.sl (site o.dst) v 0 _ rfl ⟨_,h4,zal _,λ_ _=>⟨none,0,0,bc _ _ _,rfl,zal _⟩⟩));refine⟨.slice none 0 0,w,F,_,.inl (by simp[execOp,ho,Act.eval]),c1,?_⟩;rw[c2];exact h2
   cases hna
  cases hs
 split at hs
 next p hp=>obtain⟨v,ca,hv⟩:=qit h hg hp;obtain⟨c1,c2⟩:=cy h hs (cE.of hv);refine⟨v,w,F,G,.inl ca,c1,?_⟩;rw[c2];exact Ext.refl _ _ _
 exact qiz h hg hs
theorem v7{o t len parts}(h:sZ o=some (t,len,parts)): ∃ps,o.op= .buildSlice t len ps/\parts=ps.toList/\o.type=4000000:=by
 unfold sZ at h;split at h
 next t' qoU ps ho=>
  split at h
  next hb=>cases h;exact⟨ps,ho,rfl,zag hb⟩
  cases h
 cases h
theorem qar(h:aC Q T F G w a s){g}(hg:mR a g){o s'}(hs:exec Q s o g=some s'):
  ∃v w' F' G',Ran Q o a w v w'/\aC Q T F' G' w' (a.put o.dst v) s'/\Ext (Own G s.rg) (Own G' s'.rg) F F' w w':=by
 unfold exec at hs;split at hs
 next t len parts hm=>
  obtain⟨ps,ho,rfl,_⟩:=v7 hm;split at hs
  next p hp=>obtain⟨v,w',F',g1,g2,g3,g4⟩:=Uf h hp (vs:=ps.map λx=>(x.1,a.eval x.2)) (by simp) (λi x y hx hy=>by simp only[zdq,zaN,zay] at hx hy;obtain⟨z,hz,rfl⟩:=hx;obtain⟨z',hz',rfl⟩:=hy;rw[hz] at hz';cases hz';exact⟨rfl,aU h hg _⟩);obtain⟨c1,c2⟩:=cy g2 hs (cE.of g3);exact⟨v,w',F',G,.inl (by simp[execOp,ho,g1]),c1,by rw[c2];exact g4⟩
  cases hs
 exact Uj h hg hs
end
end Pi
