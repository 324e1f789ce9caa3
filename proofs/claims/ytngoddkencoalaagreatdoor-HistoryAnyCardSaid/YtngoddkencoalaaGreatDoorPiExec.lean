/- The text PiExec. -/
import Derived.Test.YtngoddkencoalaaGreatDoorPiIter
import Derived.Laws.BytesArg
namespace Pi
open Go
section
variable {Q:Program} {T:Tg} {F:Nat->Prop} {G:Nat->Value} {w:World} {a:Act} {s:S}
theorem tV: ∀(es:List D) (l:List UInt8),je es=some l-> ∃ns:List Int,es=ns.map (D.int .u8)/\l=ns.map fun n=>UInt8.ofNat n.toNat
 | [],l,h=>by simp[je] at h;subst h;exact⟨[],rfl,rfl⟩
 |x::es,l,h=>by
  cases x<;>try (simp[je] at h;done)
  rename_i k n
  cases k<;>try (simp[je] at h;done)
  simp only[je] at h
  cases hb:je es with
  |none=>simp[hb] at h
  |some l'=>
   simp[hb] at h
   subst h
   obtain⟨ns,rfl,rfl⟩:=tV es l' hb
   exact⟨n::ns,rfl,rfl⟩
theorem Ks {ns:List Int} {xs:List Value} (h:dW F w 1 (ns.map (D.int .u8)) xs):xs=ns.map (Value.int .u8):=by
 have hl:xs.length=ns.length:=by simpa using h.1
 apply List.ext_getElem?
 intro i
 by_cases hi:i<ns.length
 ·obtain⟨h1,h2,h3⟩:=h.2 i (.int .u8 ns[i]) (by simp[hi])
  have:=h3 0 (.int .u8 ns[i]) (by simp[D.cells])
  simp only[Nat.mul_one,Nat.add_zero] at this
  have e:xs.getD i undef= .int .u8 ns[i]:=this.fW rfl
  have hx:i<xs.length:=by omega
  simp only[List.getD_eq_getElem?_getD,List.getElem?_eq_getElem hx,Option.getD_some] at e
  rw[List.getElem?_eq_getElem hx,e]
  simp[hi]
 ·rw[List.getElem?_eq_none (by omega),List.getElem?_eq_none (by simp;omega)]
theorem Gn {t2:TypeId} {k:Nat} {p:P} {ys:List D} (hs:ln Q s t2 k p=some ys) {e':TypeId} (ht:Q.underlying t2=some (.slice e')) {v:Value} (hv:aD F w G s.rg v p): ∃ad n c,v= .slice ad n c:=by
 unfold ln at hs
 split at hs
 ·rename_i n aU len
  split at hs
  ·rename_i ty fz es e' ho yr
   obtain⟨e,he,dI,bR⟩:=S.bF ho
   cases hv with
   |sl _ _ _ _ h1 hr=>
    obtain⟨a0,N,cap,hG,rfl,hle⟩:=hr.at he dI (by rw[bR];rfl)
    exact⟨_,_,_,rfl⟩
  ·cases hs
 ·rename_i n aU k0 off len
  split at hs
  ·rename_i ty fz es e' ho yr
   obtain⟨e,he,dI,bR⟩:=S.bF ho
   cases hv with
   |kT _ _ _ _ _ _ h1 hr=>
    obtain⟨a0,N,cap,hG,hle,a1,pV,rfl,_⟩:=hr.at he dI (by rw[bR];rfl)
    exact⟨_,_,_,rfl⟩
  ·cases hs
 ·cases hv with
  |d hv=>cases hv<;>exact⟨_,_,_,rfl⟩
 ·cases hv with
  |d hv=>cases hv;exact⟨_,_,_,rfl⟩
 ·rw[ht] at hs;simp at hs
 ·cases hs
theorem yR {src e dst:TypeId} (hs:Q.underlying src=some (.slice e)) (he:Q.underlying e=some (.int .u8)) (hd:Q.underlying dst=some .string) {v:Value} {ys:List D} {news:List Value} {l:List UInt8}
  (Gp: ∃ad n c,v= .slice ad n c) (yP:Src Q 1 src v ys.length news w) (hf:dW F w 1 ys news) (hb:je ys=some l):(Go.convert src dst v).run Q w= .ok (.string ⟨⟨l⟩⟩) w:=by
 obtain⟨ad,n,c,rfl⟩:=Gp
 obtain⟨ns,rfl,rfl⟩:=tV ys l hb
 have hn:=Ks hf
 subst hn
 have hlen:n=ns.length:=by
  have:=yP.len w
  simp[Builtin.lenOf] at this
  exact this
 subst hlen
 have hc:=yP.cells
 cases ad with
 |none=>
  simp[Builtin.firstCells] at hc
  have:ns=[]:=by simpa using hc.symm
  subst this
  rw[run_convert_bytes_nil w src e hs he _ _ dst hd]
  rfl
 |some ad=>
  simp only[Builtin.firstCells,List.length_map,Nat.mul_one] at hc
  rw[run_convert_bytes_string w src dst e _ _ c hs he hd,run_bytesToString w _ _ c ns hc,foldl_push_bytes]
  simp[ByteArray.empty,ByteArray.emptyWithCapacity]
  rfl
def Ran (Q:Program) (o:Oper) (a:Act) (w:World) (v:Value) (w':World):Prop:=
 (execOp a.eval o).run Q w= .ok (.value v) w'\/((execOp a.eval o).run Q w= .ok .skip w'/\v=undef)
theorem qdg (h:aB Q T F G w a s) {g:Option (Nat×Bool)} (hg:kZ a g) {o:Oper} {s':S} (hs:ef Q s o g=some s'):
  ∃v w' F' G',Ran Q o a w v w'/\aB Q T F' G' w' (a.put o.dst v) s'/\Ext (Own G s.rg) (Own G' s'.rg) F F' w w':=by
 unfold ef at hs
 unfold Ran execOp
 split at hs
 ·rename_i t ho
  split at hs
  ·rename_i z hz
   obtain⟨zv,zI,Ft⟩:=oz (F:=F) hz w
   obtain⟨c1,c2,c3⟩:=dP Ft
   obtain⟨G',d1,d2⟩:=zN h hs (cs:=zv.cells) (by rw[c1];cases z<;>simp[P.cells,D.cells]) (j9 Ft) (fun i v c hv hc=>by
    have: ∃x,c= .d x/\z.cells[i]?=some x:=by
     cases z<;>simp only[P.cells,D.cells] at hc⊢ <;>first
      | (simp only[List.getElem?_map,Option.map_eq_some_iff] at hc;obtain⟨x,hx,rfl⟩:=hc;exact⟨x,rfl,hx⟩)
      | (cases i<;>simp at hc⊢;exact hc.symm)
    obtain⟨x,rfl,hx⟩:=this
    exact .d (c3 i v x hv hx))
   refine⟨_,_,F,G',.inl ?_,d1,d2⟩
   simp[ho,Instr.alloc,zI,newVar,newRow]
  ·cases hs
 ·rename_i t x ho
  have hx:=aV h hg x
  split at hs
  ·rename_i gB
   obtain⟨c1,c2,c3⟩:=wg hx gB
   obtain⟨G',d1,d2⟩:=zN h hs c1 c3 c2
   refine⟨_,_,F,G',.inl ?_,d1,d2⟩
   simp[ho,Instr.box,newVar,newRow]
  ·cases hs
 ·rename_i t ad x ho
  split at hs
  ·rename_i s1 h1
   obtain⟨w',F',G',bE,d1,d2⟩:=Kg h h1 (aV h hg ad) (aV h hg x)
   obtain⟨e1,e2⟩:=ct d1 hs (v:=undef) (cr.of (.bad _))
   refine⟨undef,w',F',G',.inr ⟨by simp[ho,bE],rfl⟩,e1,?_⟩
   rw[e2]
   exact d2
  ·cases hs
 ·rename_i t1 t2 x ho
  split at hs
  ·rename_i e ht1 yr
   split at hs
   ·rename_i ys he hys
    split at hs
    ·rename_i l hl
     obtain⟨news,yP,hf⟩:=Bs h (by omega) hys (aV h hg x)
     have hr:=yR ht1 he yr (Gn hys ht1 (aV h hg x)) yP hf hl
     obtain⟨e1,e2⟩:=ct h hs (v:= .string ⟨⟨l⟩⟩) (cr.of (.d (.str l)))
     refine⟨_,w,F,G,.inl (by simp[ho,hr]),e1,?_⟩
     rw[e2]
     exact Ext.refl _ _ _
    ·cases hs
   ·cases hs
  ·cases hs
 ·rename_i c ho
  split at hs
  ·rename_i gD
   split at hs
   ·rename_i x y t t2 b8 wA
    obtain⟨v,w',G',bE,d1,d2⟩:=Gk (ty:=o.type) h hs (aV h hg x) (aV h hg y)
    have ea:c.args= #[x,y]:=by apply Array.toList_inj.1;simpa using b8
    have et:c.argTypes= #[t,t2]:=by apply Array.toList_inj.1;simpa using wA
    refine⟨v,w',F,G',.inl ?_,d1,d2⟩
    simp[ho,resolve,gD,ea,et,invoke,builtin,bE]
   ·cases hs
  ·rename_i gD
   split at hs
   ·rename_i x y t t2 b8 wA
    obtain⟨v,w',G',bE,d1,d2⟩:=NM (ty:=o.type) h hs (aV h hg x) (aV h hg y)
    have ea:c.args= #[x,y]:=by apply Array.toList_inj.1;simpa using b8
    have et:c.argTypes= #[t,t2]:=by apply Array.toList_inj.1;simpa using wA
    refine⟨v,w',F,G',.inl ?_,d1,d2⟩
    simp[ho,resolve,gD,ea,et,invoke,builtin,bE]
   ·cases hs
  ·rename_i gD
   split at hs
   ·rename_i x t b8 wA
    obtain⟨v,w',G',bE,d1,d2⟩:=Ko (ty:=o.type) h hs (aV h hg x)
    have ea:c.args= #[x]:=by apply Array.toList_inj.1;simpa using b8
    have et:c.argTypes= #[t]:=by apply Array.toList_inj.1;simpa using wA
    refine⟨v,w',F,G',.inl ?_,d1,d2⟩
    simp[ho,resolve,gD,ea,et,invoke,builtin,bE]
   ·cases hs
  ·cases hs
 ·rename_i t x y ho
  obtain⟨v,w',G',bE,d1,d2⟩:=NJ h hs (aV h hg x) (aV h hg y)
  exact⟨v,w',F,G',.inl (by simp[ho,bE]),d1,d2⟩
 ·rename_i t ho
  obtain⟨v,w',G',bE,d1,d2⟩:=DG h hs
  exact⟨v,w',F,G',.inl (by simp[ho,bE]),d1,d2⟩
 ·rename_i t m k x ho
  obtain⟨w',F',G',bE,d1,d2⟩:=wx h hs (aV h hg m) (aV h hg k) (aV h hg x)
  exact⟨undef,w',F',G',.inr ⟨by simp[ho,bE],rfl⟩,d1,d2⟩
 ·rename_i t m k x ho
  obtain⟨w',F',G',bE,d1,d2⟩:=wx h hs (aV h hg m) (aV h hg k) (aV h hg x)
  exact⟨undef,w',F',G',.inr ⟨by simp[ho,bE],rfl⟩,d1,d2⟩
 ·rename_i t x ho
  obtain⟨v,w',F',G',bE,d1,d2⟩:=Kq h hs (aV h hg x)
  exact⟨v,w',F',G',.inl (by simp[ho,bE]),d1,d2⟩
 ·rename_i t m k ho
  obtain⟨v,w',F',G',bE,d1,d2⟩:=Gm h hs (aV h hg m) (aV h hg k)
  exact⟨v,w',F',G',.inl (by simp[ho,bE]),d1,d2⟩
 ·rename_i t m st x ho
  obtain⟨w',F',G',bE,d1,d2⟩:=Kp (t:=t) h hs (aV h hg m) (aV h hg st) (aV h hg x)
  exact⟨undef,w',F',G',.inr ⟨by simp[ho,bE],rfl⟩,d1,d2⟩
 ·rename_i t len parts ho
  obtain⟨v,w',F',G',bE,d1,d2⟩:=Kl (vs:=parts.map fun(i,x)=>(i,a.eval x)) h hs (by simp) (fun i x y hx hy=>by
   simp only[Array.toList_map,List.getElem?_map,Option.map_eq_some_iff] at hx hy
   obtain⟨z,hz,rfl⟩:=hx
   obtain⟨z',hz',rfl⟩:=hy
   rw[hz] at hz'
   cases hz'
   exact⟨rfl,aV h hg z.2⟩)
  exact⟨v,w',F',G',.inl (by simp[ho,bE]),d1,d2⟩
 ·cases hs
theorem NP (h:aB Q T F G w a s) {g:Option (Nat×Bool)} (hg:kZ a g) {o:Oper} {s':S} (hs:iO Q s o g=some s'):
  ∃v w' F' G',Ran Q o a w v w'/\aB Q T F' G' w' (a.put o.dst v) s'/\Ext (Own G s.rg) (Own G' s'.rg) F F' w w':=by
 unfold iO at hs
 split at hs
 ·rename_i e Mn
  split at hs
  ·rename_i s1 v hn
   unfold cP at Mn
   split at Mn
   ·rename_i ho
    obtain⟨h1,h2,h3,h4⟩:=lv h hn (g1:= .slice none 0 0) (w':=w) (fun _ _=>rfl) (Nat.le_refl _) rfl rfl rfl (fun b hb=>by simp[bu,aL] at hb) (.inl ⟨aZ _ _ _,rfl⟩)
    obtain⟨c1,c2⟩:=ct h1 hs (v:= .slice none 0 0) (cr.of (.sl (site o.dst) v 0 _ rfl ⟨_,h4,Nat.le_refl _,fun _ _=>⟨none,0,0,aZ _ _ _,rfl,Nat.le_refl _⟩⟩))
    refine⟨.slice none 0 0,w,F,_,.inl (by simp[execOp,ho,Act.eval]),c1,?_⟩
    rw[c2]
    exact h2
   ·cases Mn
  ·cases hs
 ·split at hs
  ·rename_i p hp
   obtain⟨v,bE,hv⟩:=qda h hg hp
   obtain⟨c1,c2⟩:=ct h hs (cr.of hv)
   refine⟨v,w,F,G,.inl bE,c1,?_⟩
   rw[c2]
   exact Ext.refl _ _ _
  ·exact qdg h hg hs
theorem sY {o:Oper} {t:TypeId} {len:Nat} {parts:List (Nat×Operand)} (h:qS o=some (t,len,parts)): ∃ps,o.op= .buildSlice t len ps/\parts=ps.toList/\o.type=4000000:=by
 unfold qS at h
 split at h
 ·rename_i t' qhf ps ho
  split at h
  ·rename_i hb
   cases h
   exact⟨ps,ho,rfl,Nat.eq_of_beq_eq_true hb⟩
  ·cases h
 ·cases h
theorem Tv (h:aB Q T F G w a s) {g:Option (Nat×Bool)} (hg:kZ a g) {o:Oper} {s':S} (hs:exec Q s o g=some s'):
  ∃v w' F' G',Ran Q o a w v w'/\aB Q T F' G' w' (a.put o.dst v) s'/\Ext (Own G s.rg) (Own G' s'.rg) F F' w w':=by
 unfold exec at hs
 split at hs
 ·rename_i t len parts hm
  obtain⟨ps,ho,rfl,_⟩:=sY hm
  split at hs
  ·rename_i p hp
   obtain⟨v,w',F',g1,g2,g3,g4⟩:=NL h hp (vs:=ps.map fun x=>(x.1,a.eval x.2)) (by simp) (fun i x y hx hy=>by
    simp only[Array.toList_map,List.getElem?_map,Option.map_eq_some_iff] at hx hy
    obtain⟨z,hz,rfl⟩:=hx
    obtain⟨z',hz',rfl⟩:=hy
    rw[hz] at hz'
    cases hz'
    exact⟨rfl,aV h hg _⟩)
   obtain⟨c1,c2⟩:=ct g2 hs (cr.of g3)
   exact⟨v,w',F',G,.inl (by simp[execOp,ho,g1]),c1,by rw[c2];exact g4⟩
  ·cases hs
 ·exact NP h hg hs
end
end Pi
