/- The text PiExec. -/
import Derived.Test.YtngoddkencoalaaGreatDoorPiIter
import Derived.Laws.BytesArg
namespace Pi
open Go
section
variable{Q:Program}{T:Tg}{F:Nat->Prop}{G:Nat->Value}{w:World}{a:Act}{s:S}
theorem vT: ∀(es:List D) (l:List UInt8),jS es=some l-> ∃ns:List Int,es=ns.map (D.int .u8)/\l=ns.map λn=>UInt8.ofNat n.toNat
 | [],l,h=>by simp[jS] at h;subst h;exact⟨[],rfl,rfl⟩
 |x::es,l,h=>by
  cases x<;>try (simp[jS] at h;done)
  rename_i k n;cases k<;>try (simp[jS] at h;done)
  simp only[jS] at h;cases hb:jS es with
  |none=>simp[hb] at h
  |some l'=>simp[hb] at h;subst h;obtain⟨ns,rfl,rfl⟩:=vT es l' hb;exact⟨n::ns,rfl,rfl⟩
theorem MX{ns:List Int}{xs:List Value}(h:eC F w 1 (ns.map (D.int .u8)) xs):xs=ns.map (Value.int .u8):=by
 have hl:xs.length=ns.length:=by simpa using h.1
 apply zcr;intro i;by_cases hi:i<ns.length
 ·obtain⟨h1,h2,h3⟩:=h.2 i (.int .u8 ns[i]) (by simp[hi]);have:=h3 0 (.int .u8 ns[i]) (by simp[D.cells]);simp only[Nat.mul_one,zbR] at this;have e:xs.getD i undef= .int .u8 ns[i]:=this.gE rfl;have hx:i<xs.length:=by omega
  simp only[zac,zae hx,zcf] at e;rw[zae hx,e];simp[hi]
 rw[zbc (by omega),zbc (by simp;omega)]
theorem IK{t2:TypeId}{k:Nat}{p:P}{ys:List D}(hs:mF Q s t2 k p=some ys){e':TypeId}(ht:Q.underlying t2=some (.slice e')){v:Value}(hv:aH F w G s.rg v p): ∃ad n c,v= .slice ad n c:=by
 unfold mF at hs;split at hs
 next n aZ len=>
  split at hs
  next ty fz es e' ho z6=>
   obtain⟨e,he,dY,ca⟩:=S.bM ho;cases hv with
   |sl _ _ _ _ h1 hr=>obtain⟨a0,N,cap,hG,rfl,hle⟩:=hr.at he dY (by rw[ca];rfl);exact⟨_,_,_,rfl⟩
  cases hs
 next n aZ k0 off len=>
  split at hs
  next ty fz es e' ho z6=>
   obtain⟨e,he,dY,ca⟩:=S.bM ho;cases hv with
   |l0 _ _ _ _ _ _ h1 hr=>obtain⟨a0,N,cap,hG,hle,a1,qZ,rfl,_⟩:=hr.at he dY (by rw[ca];rfl);exact⟨_,_,_,rfl⟩
  cases hs
 ·cases hv with
  |d hv=>cases hv<;>exact⟨_,_,_,rfl⟩
 ·cases hv with
  |d hv=>cases hv;exact⟨_,_,_,rfl⟩
 ·rw[ht] at hs;simp at hs
 cases hs
theorem AG{src e dst:TypeId}(hs:Q.underlying src=some (.slice e))(he:Q.underlying e=some (.int .u8))(hd:Q.underlying dst=some .string){v:Value}{ys:List D}{news:List Value}{l:List UInt8}
  (KY: ∃ad n c,v= .slice ad n c) (AF:Src Q 1 src v ys.length news w) (hf:eC F w 1 ys news) (hb:jS ys=some l):(Go.convert src dst v).run Q w= .ok (.string ⟨⟨l⟩⟩) w:=by
 obtain⟨ad,n,c,rfl⟩:=KY;obtain⟨ns,rfl,rfl⟩:=vT ys l hb;have hn:=MX hf;subst hn;have hlen:n=ns.length:=by have:=AF.len w;simp[Builtin.lenOf] at this;exact this
 subst hlen;have hc:=AF.cells;cases ad with
 |none=>
  simp[Builtin.firstCells] at hc;have:ns=[]:=by simpa using hc.symm
  subst this;rw[run_convert_bytes_nil w src e hs he _ _ dst hd];rfl
 |some ad=>simp only[Builtin.firstCells,zaa,Nat.mul_one] at hc;rw[run_convert_bytes_string w src dst e _ _ c hs he hd,run_bytesToString w _ _ c ns hc,foldl_push_bytes];simp[ByteArray.empty,ByteArray.emptyWithCapacity];rfl
def Ran(Q:Program)(o:Oper)(a:Act)(w:World)(v:Value)(w':World):Prop:=
 (execOp a.eval o).run Q w= .ok (.value v) w'\/((execOp a.eval o).run Q w= .ok .skip w'/\v=undef)
theorem qf3(h:aG Q T F G w a s){g:Option (Nat×Bool)}(hg:mf a g){o:Oper}{s':S}(hs:ef Q s o g=some s'):
  ∃v w' F' G',Ran Q o a w v w'/\aG Q T F' G' w' (a.put o.dst v) s'/\Ext (Own G s.rg) (Own G' s'.rg) F F' w w':=by
 unfold ef at hs;unfold Ran execOp;split at hs
 next t ho=>
  split at hs
  next z hz=>
   obtain⟨zv,Bu,HI⟩:=pI (F:=F) hz w;obtain⟨c1,c2,c3⟩:=eu HI;obtain⟨G',d1,d2⟩:=By h hs (cs:=zv.cells) (by rw[c1];cases z<;>simp[P.cells,D.cells]) (lq HI) (λi v c hv hc=>by
    have: ∃x,c= .d x/\z.cells[i]?=some x:=by
     cases z<;>simp only[P.cells,D.cells] at hc⊢ <;>first
      | (simp only[zaK,zax] at hc;obtain⟨x,hx,rfl⟩:=hc;exact⟨x,rfl,hx⟩)
      | (cases i<;>simp at hc⊢;exact hc.symm)
    obtain⟨x,rfl,hx⟩:=this;exact .d (c3 i v x hv hx))
   refine⟨_,_,F,G',.inl ?_,d1,d2⟩;simp[ho,Instr.alloc,Bu,newVar,newRow]
  cases hs
 next t x ho=>
  have hx:=a7 h hg x;split at hs
  next iF=>obtain⟨c1,c2,c3⟩:=xY hx iF;obtain⟨G',d1,d2⟩:=By h hs c1 c3 c2;refine⟨_,_,F,G',.inl ?_,d1,d2⟩;simp[ho,Instr.box,newVar,newRow]
  cases hs
 next t ad x ho=>
  split at hs
  next s1 h1=>obtain⟨w',F',G',cc,d1,d2⟩:=MN h h1 (a7 h hg ad) (a7 h hg x);obtain⟨e1,e2⟩:=cD d1 hs (v:=undef) (cB.of (.bad _));refine⟨undef,w',F',G',.inr ⟨by simp[ho,cc],rfl⟩,e1,?_⟩;rw[e2];exact d2
  cases hs
 next t1 t2 x ho=>
  split at hs
  next e ht1 z6=>
   split at hs
   ·rename_i ys he hys;split at hs
    next l hl=>obtain⟨news,AF,hf⟩:=C1 h (by omega) hys (a7 h hg x);have hr:=AG ht1 he z6 (IK hys ht1 (a7 h hg x)) AF hf hl;obtain⟨e1,e2⟩:=cD h hs (v:= .string ⟨⟨l⟩⟩) (cB.of (.d (.str l)));refine⟨_,w,F,G,.inl (by simp[ho,hr]),e1,?_⟩;rw[e2];exact Ext.refl _ _ _
    cases hs
   cases hs
  cases hs
 next c ho=>
  split at hs
  next lv=>
   split at hs
   ·rename_i x y t t2 cW Fu;obtain⟨v,w',G',cc,d1,d2⟩:=IG (ty:=o.type) h hs (a7 h hg x) (a7 h hg y);have ea:c.args= #[x,y]:=by apply zbr.1;simpa using cW
    have et:c.argTypes= #[t,t2]:=by apply zbr.1;simpa using Fu
    refine⟨v,w',F,G',.inl ?_,d1,d2⟩;simp[ho,resolve,lv,ea,et,invoke,builtin,cc]
   cases hs
  next lv=>
   split at hs
   ·rename_i x y t t2 cW Fu;obtain⟨v,w',G',cc,d1,d2⟩:=QC (ty:=o.type) h hs (a7 h hg x) (a7 h hg y);have ea:c.args= #[x,y]:=by apply zbr.1;simpa using cW
    have et:c.argTypes= #[t,t2]:=by apply zbr.1;simpa using Fu
    refine⟨v,w',F,G',.inl ?_,d1,d2⟩;simp[ho,resolve,lv,ea,et,invoke,builtin,cc]
   cases hs
  next lv=>
   split at hs
   ·rename_i x t cW Fu;obtain⟨v,w',G',cc,d1,d2⟩:=MT (ty:=o.type) h hs (a7 h hg x);have ea:c.args= #[x]:=by apply zbr.1;simpa using cW
    have et:c.argTypes= #[t]:=by apply zbr.1;simpa using Fu
    refine⟨v,w',F,G',.inl ?_,d1,d2⟩;simp[ho,resolve,lv,ea,et,invoke,builtin,cc]
   cases hs
  cases hs
 next t x y ho=>obtain⟨v,w',G',cc,d1,d2⟩:=Qz h hs (a7 h hg x) (a7 h hg y);exact⟨v,w',F,G',.inl (by simp[ho,cc]),d1,d2⟩
 next t ho=>obtain⟨v,w',G',cc,d1,d2⟩:=Ft h hs;exact⟨v,w',F,G',.inl (by simp[ho,cc]),d1,d2⟩
 next t m k x ho=>obtain⟨w',F',G',cc,d1,d2⟩:=yd h hs (a7 h hg m) (a7 h hg k) (a7 h hg x);exact⟨undef,w',F',G',.inr ⟨by simp[ho,cc],rfl⟩,d1,d2⟩
 next t m k x ho=>obtain⟨w',F',G',cc,d1,d2⟩:=yd h hs (a7 h hg m) (a7 h hg k) (a7 h hg x);exact⟨undef,w',F',G',.inr ⟨by simp[ho,cc],rfl⟩,d1,d2⟩
 next t x ho=>obtain⟨v,w',F',G',cc,d1,d2⟩:=MV h hs (a7 h hg x);exact⟨v,w',F',G',.inl (by simp[ho,cc]),d1,d2⟩
 next t m k ho=>obtain⟨v,w',F',G',cc,d1,d2⟩:=IJ h hs (a7 h hg m) (a7 h hg k);exact⟨v,w',F',G',.inl (by simp[ho,cc]),d1,d2⟩
 next t m st x ho=>obtain⟨w',F',G',cc,d1,d2⟩:=MU (t:=t) h hs (a7 h hg m) (a7 h hg st) (a7 h hg x);exact⟨undef,w',F',G',.inr ⟨by simp[ho,cc],rfl⟩,d1,d2⟩
 next t len parts ho=>obtain⟨v,w',F',G',cc,d1,d2⟩:=MQ (vs:=parts.map λ(i,x)=>(i,a.eval x)) h hs (by simp) (λi x y hx hy=>by simp only[zc1,zaK,zax] at hx hy;obtain⟨z,hz,rfl⟩:=hx;obtain⟨z',hz',rfl⟩:=hy;rw[hz] at hz';cases hz';exact⟨rfl,a7 h hg z.2⟩);exact⟨v,w',F',G',.inl (by simp[ho,cc]),d1,d2⟩
 cases hs
theorem QD(h:aG Q T F G w a s){g:Option (Nat×Bool)}(hg:mf a g){o:Oper}{s':S}(hs:jx Q s o g=some s'):
  ∃v w' F' G',Ran Q o a w v w'/\aG Q T F' G' w' (a.put o.dst v) s'/\Ext (Own G s.rg) (Own G' s'.rg) F F' w w':=by
 unfold jx at hs;split at hs
 next e VQ=>
  split at hs
  next s1 v hn=>
   unfold dh at VQ;split at VQ
   next ho=>obtain⟨h1,h2,h3,h4⟩:=mJ h hn (g1:= .slice none 0 0) (w':=w) (λ_ _=>rfl) (zak _) rfl rfl rfl (λb hb=>by simp[bL,aR] at hb) (.inl ⟨bf _ _ _,rfl⟩);obtain⟨c1,c2⟩:=cD h1 hs (v:= .slice none 0 0) (cB.of (.sl (site o.dst) v 0 _ rfl ⟨_,h4,zak _,λ_ _=>⟨none,0,0,bf _ _ _,rfl,zak _⟩⟩));refine⟨.slice none 0 0,w,F,_,.inl (by simp[execOp,ho,Act.eval]),c1,?_⟩;rw[c2];exact h2
   cases VQ
  cases hs
 split at hs
 next p hp=>obtain⟨v,cc,hv⟩:=qfX h hg hp;obtain⟨c1,c2⟩:=cD h hs (cB.of hv);refine⟨v,w,F,G,.inl cc,c1,?_⟩;rw[c2];exact Ext.refl _ _ _
 exact qf3 h hg hs
theorem uR{o:Oper}{t:TypeId}{len:Nat}{parts:List (Nat×Operand)}(h:r7 o=some (t,len,parts)): ∃ps,o.op= .buildSlice t len ps/\parts=ps.toList/\o.type=4000000:=by
 unfold r7 at h;split at h
 next t' qko ps ho=>
  split at h
  next hb=>cases h;exact⟨ps,ho,rfl,zaf hb⟩
  cases h
 cases h
theorem W3(h:aG Q T F G w a s){g:Option (Nat×Bool)}(hg:mf a g){o:Oper}{s':S}(hs:exec Q s o g=some s'):
  ∃v w' F' G',Ran Q o a w v w'/\aG Q T F' G' w' (a.put o.dst v) s'/\Ext (Own G s.rg) (Own G' s'.rg) F F' w w':=by
 unfold exec at hs;split at hs
 next t len parts hm=>
  obtain⟨ps,ho,rfl,_⟩:=uR hm;split at hs
  next p hp=>obtain⟨v,w',F',g1,g2,g3,g4⟩:=QB h hp (vs:=ps.map λx=>(x.1,a.eval x.2)) (by simp) (λi x y hx hy=>by simp only[zc1,zaK,zax] at hx hy;obtain⟨z,hz,rfl⟩:=hx;obtain⟨z',hz',rfl⟩:=hy;rw[hz] at hz';cases hz';exact⟨rfl,a7 h hg _⟩);obtain⟨c1,c2⟩:=cD g2 hs (cB.of g3);exact⟨v,w',F',G,.inl (by simp[execOp,ho,g1]),c1,by rw[c2];exact g4⟩
  cases hs
 exact QD h hg hs
end
end Pi
