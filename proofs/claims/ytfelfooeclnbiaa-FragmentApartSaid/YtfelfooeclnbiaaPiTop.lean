/- The text PiTop. -/
import Derived.Test.YtfelfooeclnbiaaPiCodeOk
import Derived.ProofKit
namespace Pi
open Go
def eV(Q:Program):Nat->TypeId->Bool
 |0,_=>false
 |n+1,t=>match Q.underlying t with
  |some .bool |some (.int _)|some .string=>true
  |some (.slice e)=>eV Q n e&&Nat.blt 0 (Q.cellsOf e)
  |some (.struct fs)=>gv Q 0 fs.toList (Q.cellsOf t)&&fs.toList.all λf=>eV Q n f.type
  |_=>false
def Fit(Q:Program):Nat->TypeId->List D->Prop
 |0,_,_=>False
 |n+1,t,xs=>match Q.underlying t with
  |some .bool=> ∃b,xs=[.bool b]
  |some (.int k)=> ∃m,xs=[.int k m]/\(Lit.int k m).wf=true
  |some .string=> ∃l,xs=[.str l]/\l.length<=maxLen
  |some (.slice e)=> ∃es,xs=[.sl (Q.cellsOf e) es]/\es.length<=maxLen/\ ∀y∈es,Fit Q n e y.cells/\((bF Q e=true/\ ∃cs,y= .agg cs)\/(bF Q e=false/\y.aF=true))
  |some (.struct fs)=>xs.length=Q.cellsOf t/\ ∀f∈fs.toList,Fit Q n f.type ((xs.drop f.offset).take (Q.cellsOf f.type))
  |_=>False
section
variable{H:Type}{enc:TypeId×Value->H}{Q:Program}{w:World}
def rB(w:World)(cs:List Value)(xs:List D):Prop:=
 xs.length=cs.length/\(∀c∈xs,c.aF=true)/\ ∀(i:Nat) (v:Value) (c:D),cs[i]?=some v->xs[i]?=some c->ax (· <w.heap.size) w v c
theorem lJ{n:Nat}(nL:Nat)(cs:List Value)(hcs:cs.length=nL): ∀(fs:List Field) (off:Nat),gv Q off fs nL=true->off<=nL->
  (∀f∈fs,∃xs,rB w ((cs.drop f.offset).take (Q.cellsOf f.type)) xs/\Fit Q n f.type xs)->
  ∃xs,rB w (cs.drop off) xs/\ ∀f∈fs,off<=f.offset/\Fit Q n f.type ((xs.drop (f.offset-off)).take (Q.cellsOf f.type))
 | [],off,ht,hle,_=>by have:off=nL:=zab ht;refine⟨[],⟨by simp;omega,by simp,λi v c h1 h2=>by simp at h2⟩,by simp⟩
 |f::r,off,ht,hle,hf=>by
  simp only[gv,zac] at ht;have ho:f.offset=off:=zab ht.1;have yR:off+Q.cellsOf f.type<=nL:=by
   have: ∀(fs:List Field) (o:Nat),gv Q o fs nL=true->o<=nL:=by
    intro fs
    induction fs with
    |nil=>intro o h;exact Nat.le_of_eq (zab h)
    |cons g gs ih=>intro o h;simp only[gv,zac] at h;have:=ih _ h.2;omega
   exact this r _ ht.2
  obtain⟨xs,⟨h1,h2,h3⟩,h4⟩:=hf f (by simp);obtain⟨ys,⟨g1,g2,g3⟩,g4⟩:=lJ nL cs hcs r _ ht.2 yR (λg hg=>hf g (by simp[hg]));rw[ho] at h1 h3;have hl:xs.length=Q.cellsOf f.type:=by rw[h1];simp;omega
  refine⟨xs++ys,⟨?_,?_,?_⟩,?_⟩
  ·simp[g1,hl];omega
  ·intro c hc;rcases zaX.1 hc with h |h
   ·exact h2 c h
   exact g2 c h
  ·intro i v c hv hc;by_cases hi:i<xs.length
   ·rw[zaD hi] at hc;refine h3 i v c ?_ hc;rw[List.getElem?_take_of_lt (by omega)];exact hv
   rw[zaF (by omega)] at hc;refine g3 (i-xs.length) v c ?_ hc;rw[zbg] at hv⊢;rw[<-hv];congr 1;omega
  intro g hg;rcases zaw.1 hg with rfl |hg
  ·refine⟨by omega,?_⟩;rw[ho];simp only[Nat.sub_self,zb2];rw[<-hl,List.take_left']
   ·exact h4
   rfl
  obtain⟨k1,k2⟩:=g4 g hg;refine⟨by omega,?_⟩;have e:(xs++ys).drop (g.offset-off)=ys.drop (g.offset-(off+Q.cellsOf f.type)):=by rw[List.drop_append,zaM (by omega),zbX];congr 1;omega
  rw[e];exact k2
theorem p5{t:TypeId}:bF Q t=match Q.underlying t with |some (.struct _)|some (.array _ _)=>true |_=>false:=rfl
theorem rC{m:Nat}{t:TypeId}{xs:List D}(h:Fit Q m t xs)(ha:bF Q t=false): ∃c,xs=[c]:=by
 cases m with
 |zero=>exact h.elim
 |succ m=>
  unfold Fit at h;rw[p5] at ha;split at h
  ·obtain⟨b,rfl⟩:=h;exact⟨_,rfl⟩
  ·obtain⟨b,rfl,_⟩:=h;exact⟨_,rfl⟩
  ·obtain⟨b,rfl,_⟩:=h;exact⟨_,rfl⟩
  ·obtain⟨es,rfl,_⟩:=h;exact⟨_,rfl⟩
  next hu=>rw[hu] at ha;simp at ha
  exact h.elim
theorem xJ: ∀(m:Nat) (n:Nat) (t:TypeId) (cs:List Value) (x:DataW H×List MemPlace),DataW.trod enc Q w 0 (λ_=>true) true n t cs=some x->eV Q m t=true-> ∃xs,rB w cs xs/\Fit Q m t xs:=by
 intro m
 induction m with
 |zero=>intro n t cs x _ h;simp[eV] at h
 |succ m ih=>
  intro n t cs x hx hp;have one: ∀(v:Value) (c:D),c.aF=true->ax (· <w.heap.size) w v c->rB w [v] [c]:=λv c hc hr=>⟨rfl,by simpa using hc,λi v' c' h1 h2=>by
   cases i with
   |zero=>simp at h1 h2;subst h1;subst h2;exact hr
   |succ i=>simp at h1⟩
  unfold eV at hp;split at hp
  next hu=>obtain⟨b,rfl,_⟩:=DataW.trod_bool hu hx;exact⟨[.bool b],one _ _ rfl (.bool b),by unfold Fit;rw[hu];exact⟨b,rfl⟩⟩
  next k hu=>obtain⟨b,rfl,_,hw⟩:=DataW.trod_int hu hx;exact⟨[.int k b],one _ _ rfl (.int k b),by unfold Fit;rw[hu];exact⟨b,rfl,hw⟩⟩
  next hu=>obtain⟨b,rfl,_,hw⟩:=DataW.trod_string hu hx;exact⟨[.str b.data.toList],one _ _ rfl (.str b.data.toList),by unfold Fit;rw[hu];exact⟨_,rfl,hw⟩⟩
  next e hu=>
   simp only[zac] at hp;have hk:0<Q.cellsOf e:=by have:=hp.2;simp[Nat.blt] at this;omega
   rcases DataW.trod_slice hu hx with⟨rfl,_⟩| ⟨a,len,cap,elems,rest,n',rfl,rfl,_,hb,rT,nI,wE,kK,_,_⟩
   ·exact⟨[.sl (Q.cellsOf e) []],one _ _ rfl (.uu none _ 0),by unfold Fit;rw[hu];exact⟨[],rfl,by simp,by simp⟩⟩
   have each: ∀i,i<len-> ∃(fS:List Value) (xs:List D),w.cells? 0 (a.add (i*Q.cellsOf e)) (Q.cellsOf e)=some fS/\rB w fS xs/\Fit Q m e xs:=λi hi=>by
    have h1:=kK i hi;have bu:i<elems.length:=by omega
    rw[zad bu,zaZ] at h1;obtain⟨fS,h2,h3⟩:=h1;obtain⟨xs,h4,h5⟩:=ih _ _ _ _ h3 hp.1;exact⟨fS,xs,h2,h4,h5⟩
   have mk: ∀l,l<=len-> ∃es:List D,es.length=l/\ ∀i,i<l-> ∃(fS:List Value) (y:D),es[i]?=some y/\w.cells? 0 (a.add (i*Q.cellsOf e)) (Q.cellsOf e)=some fS/\rB w fS y.cells/\Fit Q m e y.cells/\
     ((bF Q e=true/\ ∃cs,y= .agg cs)\/(bF Q e=false/\y.aF=true)):=by
    intro l
    induction l with
    |zero=>intro _;exact⟨[],rfl,λi hi=>by omega⟩
    |succ l Ik=>
     intro hl;obtain⟨es,h1,h2⟩:=Ik (by omega);obtain⟨fS,xs,h3,h4,h5⟩:=each l (by omega);have hy: ∃y:D,y.cells=xs/\((bF Q e=true/\ ∃cs,y= .agg cs)\/(bF Q e=false/\y.aF=true)):=by
      cases ha:bF Q e with
      |true=>exact⟨.agg xs,rfl,.inl ⟨rfl,_,rfl⟩⟩
      |false=>obtain⟨c,rfl⟩:=rC h5 ha;have hc:=h4.2.1 c (by simp);refine⟨c,?_,.inr ⟨rfl,hc⟩⟩;cases c<;>first |rfl |simp[D.aF] at hc
     obtain⟨y,uE,Il⟩:=hy;refine⟨es++[y],by simp[h1],λi hi=> ?_⟩;by_cases zd:i<l
     ·obtain⟨FO,y',k1,k2⟩:=h2 i zd;exact⟨FO,y',by rw[zaD (by omega)];exact k1,k2⟩
     have e1:i=l:=by omega
     subst e1;exact⟨fS,y,by rw[zaF (by omega)];simp[h1],h3,by rw[uE];exact h4,by rw[uE];exact h5,Il⟩
   obtain⟨es,vM,dg⟩:=mk len (zaf _);have qS:Fit Q (m+1) t [.sl (Q.cellsOf e) es]:=by unfold Fit;rw[hu];refine⟨es,rfl,by omega,λy hy=> ?_⟩;obtain⟨i,hi,rfl⟩:=zaO hy;obtain⟨fS,y',k1,_,_,k4,k5⟩:=dg i (by omega);rw[zad hi] at k1;cases k1;exact⟨k4,k5⟩
   refine⟨[.sl (Q.cellsOf e) es],one _ _ rfl ?_,qS⟩;by_cases h0:len=0
   ·subst h0;have:es=[]:=zap vM;subst this;exact .uu _ _ _
   obtain⟨sF,y0,_,G4,GA,I5,_⟩:=dg 0 (by omega);obtain⟨_,Dl,By⟩:=World.cells?_some G4;have kM:a.block<w.heap.size:=by have:=World.cells?_block G4 hk;simpa [Addr.add] using this
   have As:a.spot=none:=by
    have h1:=By 0 hk;have h2:w.cell? ((a.add (0*Q.cellsOf e)).add 0)=some sF[0]:=by rw[h1];simp[Dl,hk]
    have:=World.cell?_spot h2;simpa [Addr.add] using this
   obtain⟨b,off,spot⟩:=a;simp only at As kM;subst As;have bK: ∀i,i<es.length-> ∀x,es[i]?=some x->x.cells.length=Q.cellsOf e:=λi hi x hx=>by obtain⟨fS,y',k1,k2,k3,_,_⟩:=dg i (by omega);rw[hx] at k1;cases k1;rw[k3.1];exact(World.cells?_some k2).2.1
   have Dm: ∀q,q<es.length*Q.cellsOf e-> ∃fS y,es[q/Q.cellsOf e]?=some y/\w.cells? 0 ((⟨b,off,none⟩:Addr).add (q/Q.cellsOf e*Q.cellsOf e)) (Q.cellsOf e)=some fS/\rB w fS y.cells/\w.cell? ⟨b,off+q,none⟩=fS[q%Q.cellsOf e]?/\fS.length=Q.cellsOf e:=λq hq=>by
    have hdiv:q/Q.cellsOf e<es.length:=by rw[Nat.div_lt_iff_lt_mul hk];exact hq
    obtain⟨fS,y',k1,k2,k3,_,_⟩:=dg (q/Q.cellsOf e) (by omega);obtain⟨_,Im,Io⟩:=World.cells?_some k2;refine⟨fS,y',k1,k2,k3,?_,Im⟩;have:=Io (q%Q.cellsOf e) (Nat.mod_lt _ hk);rw[<-this];have e:=Nat.div_add_mod q (Q.cellsOf e);rw[zbD] at e;rw[bp,bp,zaU,e]
   rw[<-vM];refine .vG b off (Q.cellsOf e) cap es (λq=>(w.cell? ⟨b,off+q,none⟩).getD undef) (by omega) kM (λx hx=> ?_) (λx hx=> ?_) (λq hq=> ?_) (λi j x c hx hc=> ?_)
   ·obtain⟨i,hi,rfl⟩:=zaO hx;exact bK i hi _ (zad hi)
   ·obtain⟨i,hi,rfl⟩:=zaO hx;obtain⟨fS,y',k1,_,k3,_,_⟩:=dg i (by omega);rw[zad hi] at k1;cases k1;exact k3.2.1
   ·obtain⟨fS,y,_,_,_,k4,k5⟩:=Dm q hq;have hm:=Nat.mod_lt q hk;rw[k4];simp[k5,hm]
   have hi:i<es.length:=(zaa.1 hx).1;have hj:j<Q.cellsOf e:=by have h1:=bK i hi x hx;have h2:=(zaa.1 hc).1;omega
   have hq:i*Q.cellsOf e+j<es.length*Q.cellsOf e:=by
    calc i*Q.cellsOf e+j<i*Q.cellsOf e+Q.cellsOf e:=by omega
     _=(i+1)*Q.cellsOf e:=by rw[zau,zaN]
     _<=es.length*Q.cellsOf e:=zag _ hi
   obtain⟨fS,y,k1,_,k3,k4,k5⟩:=Dm _ hq;have e1:(i*Q.cellsOf e+j)/Q.cellsOf e=i:=by rw[zbD,Nat.mul_add_div hk,Nat.div_eq_of_lt hj,zbb]
   have e2:(i*Q.cellsOf e+j)%Q.cellsOf e=j:=by rw[zbD,Nat.mul_add_mod,Nat.mod_eq_of_lt hj]
   rw[e1,hx] at k1;cases k1;rw[e2] at k4;show ax _ w ((w.cell? ⟨b,off+(i*Q.cellsOf e+j),none⟩).getD undef) c;rw[k4];have y9:j<fS.length:=by omega
   refine k3.2.2 j _ c ?_ hc;simp[y9]
  next fs hu=>
   simp only[zac] at hp;obtain⟨xs,n',rfl,rfl,hl,hn,hf⟩:=DataW.trod_struct hu hx;have key: ∀f∈fs.toList,∃ys,rB w ((cs.drop f.offset).take (Q.cellsOf f.type)) ys/\Fit Q m f.type ys:=λf Et=>by
    obtain⟨i,hi,rfl⟩:=zaO Et;have kB:i<fs.size:=by simpa using hi
    have h1:=hf i fs[i] (za8 kB);have bu:i<xs.length:=by omega
    rw[zad bu] at h1;have A0:=zaI.1 hp.2 _ Et;simp only[Array.getElem_toList] at A0⊢;exact ih _ _ _ _ h1 A0
   obtain⟨ys,h1,h2⟩:=lJ (Q:=Q) (n:=m) (Q.cellsOf t) cs hl fs.toList 0 hp.1 (zaR _) key;simp only[zb2] at h1;refine⟨ys,h1,?_⟩;unfold Fit;rw[hu];exact⟨by rw[h1.1,hl],λf Et=>by simpa using(h2 f Et).2⟩
  cases hp
end
end Pi
