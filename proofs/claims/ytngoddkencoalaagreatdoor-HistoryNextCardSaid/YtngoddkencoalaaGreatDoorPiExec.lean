/- The text PiExec. -/
import Derived.Test.YtngoddkencoalaaGreatDoorPiIter
import Derived.Laws.BytesArg
namespace Pi
open Go
section
variable {Q:Program} {T:Tg} {F:Nat->Prop} {G:Nat->Value} {w:World} {a:Act} {s:S}
theorem uK: ∀(es:List D) (l:List UInt8),jE es=some l-> ∃ns:List Int,es=ns.map (D.int .u8)/\l=ns.map fun n=>UInt8.ofNat n.toNat
 | [],l,h=>by simp[jE] at h;subst h;exact⟨[],rfl,rfl⟩
 |x::es,l,h=>by
  cases x<;>try (simp[jE] at h;done)
  rename_i k n
  cases k<;>try (simp[jE] at h;done)
  simp only[jE] at h
  cases hb:jE es with
  |none=>simp[hb] at h
  |some l'=>
   simp[hb] at h
   subst h
   obtain⟨ns,rfl,rfl⟩:=uK es l' hb
   exact⟨n::ns,rfl,rfl⟩
theorem Md {ns:List Int} {xs:List Value} (h:er F w 1 (ns.map (D.int .u8)) xs):xs=ns.map (Value.int .u8):=by
 have hl:xs.length=ns.length:=by simpa using h.1
 apply zco
 intro i
 by_cases hi:i<ns.length
 ·obtain⟨h1,h2,h3⟩:=h.2 i (.int .u8 ns[i]) (by simp[hi])
  have:=h3 0 (.int .u8 ns[i]) (by simp[D.cells])
  simp only[Nat.mul_one,zbQ] at this
  have e:xs.getD i undef= .int .u8 ns[i]:=this.gu rfl
  have hx:i<xs.length:=by omega
  simp only[zac,zae hx,zca] at e
  rw[zae hx,e]
  simp[hi]
 ·rw[zbm (by omega),zbm (by simp;omega)]
theorem HU {t2:TypeId} {k:Nat} {p:P} {ys:List D} (hs:l7 Q s t2 k p=some ys) {e':TypeId} (ht:Q.underlying t2=some (.slice e')) {v:Value} (hv:aF F w G s.rg v p): ∃ad n c,v= .slice ad n c:=by
 unfold l7 at hs
 split at hs
 ·rename_i n aX len
  split at hs
  ·rename_i ty fz es e' ho zK
   obtain⟨e,he,dP,bV⟩:=S.bH ho
   cases hv with
   |sl _ _ _ _ h1 hr=>
    obtain⟨a0,N,cap,hG,rfl,hle⟩:=hr.at he dP (by rw[bV];rfl)
    exact⟨_,_,_,rfl⟩
  ·cases hs
 ·rename_i n aX k0 off len
  split at hs
  ·rename_i ty fz es e' ho zK
   obtain⟨e,he,dP,bV⟩:=S.bH ho
   cases hv with
   |lC _ _ _ _ _ _ h1 hr=>
    obtain⟨a0,N,cap,hG,hle,a1,qn,rfl,_⟩:=hr.at he dP (by rw[bV];rfl)
    exact⟨_,_,_,rfl⟩
  ·cases hs
 ·cases hv with
  |d hv=>cases hv<;>exact⟨_,_,_,rfl⟩
 ·cases hv with
  |d hv=>cases hv;exact⟨_,_,_,rfl⟩
 ·rw[ht] at hs;simp at hs
 ·cases hs
theorem zM {src e dst:TypeId} (hs:Q.underlying src=some (.slice e)) (he:Q.underlying e=some (.int .u8)) (hd:Q.underlying dst=some .string) {v:Value} {ys:List D} {news:List Value} {l:List UInt8}
  (Kj: ∃ad n c,v= .slice ad n c) (zL:Src Q 1 src v ys.length news w) (hf:er F w 1 ys news) (hb:jE ys=some l):(Go.convert src dst v).run Q w= .ok (.string ⟨⟨l⟩⟩) w:=by
 obtain⟨ad,n,c,rfl⟩:=Kj
 obtain⟨ns,rfl,rfl⟩:=uK ys l hb
 have hn:=Md hf
 subst hn
 have hlen:n=ns.length:=by
  have:=zL.len w
  simp[Builtin.lenOf] at this
  exact this
 subst hlen
 have hc:=zL.cells
 cases ad with
 |none=>
  simp[Builtin.firstCells] at hc
  have:ns=[]:=by simpa using hc.symm
  subst this
  rw[run_convert_bytes_nil w src e hs he _ _ dst hd]
  rfl
 |some ad=>
  simp only[Builtin.firstCells,zaa,Nat.mul_one] at hc
  rw[run_convert_bytes_string w src dst e _ _ c hs he hd,run_bytesToString w _ _ c ns hc,foldl_push_bytes]
  simp[ByteArray.empty,ByteArray.emptyWithCapacity]
  rfl
def Ran (Q:Program) (o:Oper) (a:Act) (w:World) (v:Value) (w':World):Prop:=
 (execOp a.eval o).run Q w= .ok (.value v) w'\/((execOp a.eval o).run Q w= .ok .skip w'/\v=undef)
theorem qe4 (h:aC Q T F G w a s) {g:Option (Nat×Bool)} (hg:lO a g) {o:Oper} {s':S} (hs:ef Q s o g=some s'):
  ∃v w' F' G',Ran Q o a w v w'/\aC Q T F' G' w' (a.put o.dst v) s'/\Ext (Own G s.rg) (Own G' s'.rg) F F' w w':=by
 unfold ef at hs
 unfold Ran execOp
 split at hs
 ·rename_i t ho
  split at hs
  ·rename_i z hz
   obtain⟨zv,AI,GQ⟩:=o9 (F:=F) hz w
   obtain⟨c1,c2,c3⟩:=dW GQ
   obtain⟨G',d1,d2⟩:=AL h hs (cs:=zv.cells) (by rw[c1];cases z<;>simp[P.cells,D.cells]) (kP GQ) (fun i v c hv hc=>by
    have: ∃x,c= .d x/\z.cells[i]?=some x:=by
     cases z<;>simp only[P.cells,D.cells] at hc⊢ <;>first
      | (simp only[zaJ,zaw] at hc;obtain⟨x,hx,rfl⟩:=hc;exact⟨x,rfl,hx⟩)
      | (cases i<;>simp at hc⊢;exact hc.symm)
    obtain⟨x,rfl,hx⟩:=this
    exact .d (c3 i v x hv hx))
   refine⟨_,_,F,G',.inl ?_,d1,d2⟩
   simp[ho,Instr.alloc,AI,newVar,newRow]
  ·cases hs
 ·rename_i t x ho
  have hx:=aY h hg x
  split at hs
  ·rename_i il
   obtain⟨c1,c2,c3⟩:=w9 hx il
   obtain⟨G',d1,d2⟩:=AL h hs c1 c3 c2
   refine⟨_,_,F,G',.inl ?_,d1,d2⟩
   simp[ho,Instr.box,newVar,newRow]
  ·cases hs
 ·rename_i t ad x ho
  split at hs
  ·rename_i s1 h1
   obtain⟨w',F',G',bX,d1,d2⟩:=L3 h h1 (aY h hg ad) (aY h hg x)
   obtain⟨e1,e2⟩:=cv d1 hs (v:=undef) (ct.of (.bad _))
   refine⟨undef,w',F',G',.inr ⟨by simp[ho,bX],rfl⟩,e1,?_⟩
   rw[e2]
   exact d2
  ·cases hs
 ·rename_i t1 t2 x ho
  split at hs
  ·rename_i e ht1 zK
   split at hs
   ·rename_i ys he hys
    split at hs
    ·rename_i l hl
     obtain⟨news,zL,hf⟩:=Cn h (by omega) hys (aY h hg x)
     have hr:=zM ht1 he zK (HU hys ht1 (aY h hg x)) zL hf hl
     obtain⟨e1,e2⟩:=cv h hs (v:= .string ⟨⟨l⟩⟩) (ct.of (.d (.str l)))
     refine⟨_,w,F,G,.inl (by simp[ho,hr]),e1,?_⟩
     rw[e2]
     exact Ext.refl _ _ _
    ·cases hs
   ·cases hs
  ·cases hs
 ·rename_i c ho
  split at hs
  ·rename_i kS
   split at hs
   ·rename_i x y t t2 cN EJ
    obtain⟨v,w',G',bX,d1,d2⟩:=HR (ty:=o.type) h hs (aY h hg x) (aY h hg y)
    have ea:c.args= #[x,y]:=by apply zbq.1;simpa using cN
    have et:c.argTypes= #[t,t2]:=by apply zbq.1;simpa using EJ
    refine⟨v,w',F,G',.inl ?_,d1,d2⟩
    simp[ho,resolve,kS,ea,et,invoke,builtin,bX]
   ·cases hs
  ·rename_i kS
   split at hs
   ·rename_i x y t t2 cN EJ
    obtain⟨v,w',G',bX,d1,d2⟩:=Pz (ty:=o.type) h hs (aY h hg x) (aY h hg y)
    have ea:c.args= #[x,y]:=by apply zbq.1;simpa using cN
    have et:c.argTypes= #[t,t2]:=by apply zbq.1;simpa using EJ
    refine⟨v,w',F,G',.inl ?_,d1,d2⟩
    simp[ho,resolve,kS,ea,et,invoke,builtin,bX]
   ·cases hs
  ·rename_i kS
   split at hs
   ·rename_i x t cN EJ
    obtain⟨v,w',G',bX,d1,d2⟩:=L9 (ty:=o.type) h hs (aY h hg x)
    have ea:c.args= #[x]:=by apply zbq.1;simpa using cN
    have et:c.argTypes= #[t]:=by apply zbq.1;simpa using EJ
    refine⟨v,w',F,G',.inl ?_,d1,d2⟩
    simp[ho,resolve,kS,ea,et,invoke,builtin,bX]
   ·cases hs
  ·cases hs
 ·rename_i t x y ho
  obtain⟨v,w',G',bX,d1,d2⟩:=Pw h hs (aY h hg x) (aY h hg y)
  exact⟨v,w',F,G',.inl (by simp[ho,bX]),d1,d2⟩
 ·rename_i t ho
  obtain⟨v,w',G',bX,d1,d2⟩:=EI h hs
  exact⟨v,w',F,G',.inl (by simp[ho,bX]),d1,d2⟩
 ·rename_i t m k x ho
  obtain⟨w',F',G',bX,d1,d2⟩:=xi h hs (aY h hg m) (aY h hg k) (aY h hg x)
  exact⟨undef,w',F',G',.inr ⟨by simp[ho,bX],rfl⟩,d1,d2⟩
 ·rename_i t m k x ho
  obtain⟨w',F',G',bX,d1,d2⟩:=xi h hs (aY h hg m) (aY h hg k) (aY h hg x)
  exact⟨undef,w',F',G',.inr ⟨by simp[ho,bX],rfl⟩,d1,d2⟩
 ·rename_i t x ho
  obtain⟨v,w',F',G',bX,d1,d2⟩:=Mb h hs (aY h hg x)
  exact⟨v,w',F',G',.inl (by simp[ho,bX]),d1,d2⟩
 ·rename_i t m k ho
  obtain⟨v,w',F',G',bX,d1,d2⟩:=HT h hs (aY h hg m) (aY h hg k)
  exact⟨v,w',F',G',.inl (by simp[ho,bX]),d1,d2⟩
 ·rename_i t m st x ho
  obtain⟨w',F',G',bX,d1,d2⟩:=Ma (t:=t) h hs (aY h hg m) (aY h hg st) (aY h hg x)
  exact⟨undef,w',F',G',.inr ⟨by simp[ho,bX],rfl⟩,d1,d2⟩
 ·rename_i t len parts ho
  obtain⟨v,w',F',G',bX,d1,d2⟩:=L6 (vs:=parts.map fun(i,x)=>(i,a.eval x)) h hs (by simp) (fun i x y hx hy=>by
   simp only[zcX,zaJ,zaw] at hx hy
   obtain⟨z,hz,rfl⟩:=hx
   obtain⟨z',hz',rfl⟩:=hy
   rw[hz] at hz'
   cases hz'
   exact⟨rfl,aY h hg z.2⟩)
  exact⟨v,w',F',G',.inl (by simp[ho,bX]),d1,d2⟩
 ·cases hs
theorem PA (h:aC Q T F G w a s) {g:Option (Nat×Bool)} (hg:lO a g) {o:Oper} {s':S} (hs:jk Q s o g=some s'):
  ∃v w' F' G',Ran Q o a w v w'/\aC Q T F' G' w' (a.put o.dst v) s'/\Ext (Own G s.rg) (Own G' s'.rg) F F' w w':=by
 unfold jk at hs
 split at hs
 ·rename_i e UZ
  split at hs
  ·rename_i s1 v hn
   unfold cZ at UZ
   split at UZ
   ·rename_i ho
    obtain⟨h1,h2,h3,h4⟩:=mb h hn (g1:= .slice none 0 0) (w':=w) (fun _ _=>rfl) (zaj _) rfl rfl rfl (fun b hb=>by simp[bF,aQ] at hb) (.inl ⟨a8 _ _ _,rfl⟩)
    obtain⟨c1,c2⟩:=cv h1 hs (v:= .slice none 0 0) (ct.of (.sl (site o.dst) v 0 _ rfl ⟨_,h4,zaj _,fun _ _=>⟨none,0,0,a8 _ _ _,rfl,zaj _⟩⟩))
    refine⟨.slice none 0 0,w,F,_,.inl (by simp[execOp,ho,Act.eval]),c1,?_⟩
    rw[c2]
    exact h2
   ·cases UZ
  ·cases hs
 ·split at hs
  ·rename_i p hp
   obtain⟨v,bX,hv⟩:=qeY h hg hp
   obtain⟨c1,c2⟩:=cv h hs (ct.of hv)
   refine⟨v,w,F,G,.inl bX,c1,?_⟩
   rw[c2]
   exact Ext.refl _ _ _
  ·exact qe4 h hg hs
theorem tM {o:Oper} {t:TypeId} {len:Nat} {parts:List (Nat×Operand)} (h:rb o=some (t,len,parts)): ∃ps,o.op= .buildSlice t len ps/\parts=ps.toList/\o.type=4000000:=by
 unfold rb at h
 split at h
 ·rename_i t' qjc ps ho
  split at h
  ·rename_i hb
   cases h
   exact⟨ps,ho,rfl,zaf hb⟩
  ·cases h
 ·cases h
theorem V5 (h:aC Q T F G w a s) {g:Option (Nat×Bool)} (hg:lO a g) {o:Oper} {s':S} (hs:exec Q s o g=some s'):
  ∃v w' F' G',Ran Q o a w v w'/\aC Q T F' G' w' (a.put o.dst v) s'/\Ext (Own G s.rg) (Own G' s'.rg) F F' w w':=by
 unfold exec at hs
 split at hs
 ·rename_i t len parts hm
  obtain⟨ps,ho,rfl,_⟩:=tM hm
  split at hs
  ·rename_i p hp
   obtain⟨v,w',F',g1,g2,g3,g4⟩:=Py h hp (vs:=ps.map fun x=>(x.1,a.eval x.2)) (by simp) (fun i x y hx hy=>by
    simp only[zcX,zaJ,zaw] at hx hy
    obtain⟨z,hz,rfl⟩:=hx
    obtain⟨z',hz',rfl⟩:=hy
    rw[hz] at hz'
    cases hz'
    exact⟨rfl,aY h hg _⟩)
   obtain⟨c1,c2⟩:=cv g2 hs (ct.of g3)
   exact⟨v,w',F',G,.inl (by simp[execOp,ho,g1]),c1,by rw[c2];exact g4⟩
  ·cases hs
 ·exact PA h hg hs
end
end Pi
