/- The text PiTop. -/
import Derived.Test.YtfelfooeclnbiaaPiCodeOk
import Derived.ProofKit
namespace Pi
open Go
def eI(Q:Program):Nat->TypeId->Bool
 |0,_=>false
 |n+1,t=>match Q.underlying t with
  |some .bool |some (.int _)|some .string=>true
  |some (.slice e)=>eI Q n e&&Nat.blt 0 (Q.cellsOf e)
  |some (.struct fs)=>fW Q 0 fs.toList (Q.cellsOf t)&&fs.toList.all λf=>eI Q n f.type
  |_=>false
def Fit(Q:Program):Nat->TypeId->List D->Prop
 |0,_,_=>False
 |n+1,t,xs=>match Q.underlying t with
  |some .bool=> ∃b,xs=[.bool b]
  |some (.int k)=> ∃m,xs=[.int k m]/\(Lit.int k m).wf=true
  |some .string=> ∃l,xs=[.str l]/\l.length<=maxLen
  |some (.slice e)=> ∃es,xs=[.sl (Q.cellsOf e) es]/\es.length<=maxLen/\ ∀y∈es,Fit Q n e y.cells/\((bt Q e=true/\ ∃cs,y= .agg cs)\/(bt Q e=false/\y.aG=true))
  |some (.struct fs)=>xs.length=Q.cellsOf t/\ ∀f∈fs.toList,Fit Q n f.type ((xs.drop f.offset).take (Q.cellsOf f.type))
  |_=>False
section
variable{H:Type}{enc:TypeId×Value->H}{Q:Program}{w:World}
def qm(w:World)(cs:List Value)(xs:List D):Prop:=
 xs.length=cs.length/\(∀c∈xs,c.aG=true)/\ ∀(i:Nat) (v:Value) (c:D),cs[i]?=some v->xs[i]?=some c->ay (· <w.heap.size) w v c
theorem kN{n:Nat}(mL:Nat)(cs:List Value)(hcs:cs.length=mL): ∀(fs:List Field) (off:Nat),fW Q off fs mL=true->off<=mL->
  (∀f∈fs,∃xs,qm w ((cs.drop f.offset).take (Q.cellsOf f.type)) xs/\Fit Q n f.type xs)->
  ∃xs,qm w (cs.drop off) xs/\ ∀f∈fs,off<=f.offset/\Fit Q n f.type ((xs.drop (f.offset-off)).take (Q.cellsOf f.type))
 | [],off,ht,hle,_=>by have:off=mL:=zac ht;refine⟨[],⟨by simp;omega,by simp,λi v c h1 h2=>by simp at h2⟩,by simp⟩
 |f::r,off,ht,hle,hf=>by
  simp only[fW,zad] at ht;have ho:f.offset=off:=zac ht.1;have w7:off+Q.cellsOf f.type<=mL:=by
   have: ∀(fs:List Field) (o:Nat),fW Q o fs mL=true->o<=mL:=by
    intro fs
    induction fs with
    |nil=>intro o h;exact Nat.le_of_eq (zac h)
    |cons g gs ih=>intro o h;simp only[fW,zad] at h;have:=ih _ h.2;omega
   exact this r _ ht.2
  obtain⟨xs,⟨h1,h2,h3⟩,h4⟩:=hf f (by simp);obtain⟨ys,⟨g1,g2,g3⟩,g4⟩:=kN mL cs hcs r _ ht.2 w7 (λg hg=>hf g (by simp[hg]));rw[ho] at h1 h3;have hl:xs.length=Q.cellsOf f.type:=by rw[h1];simp;omega
  refine⟨xs++ys,⟨?_,?_,?_⟩,?_⟩
  ·simp[g1,hl];omega
  ·intro c hc;rcases zaY.1 hc with h |h
   ·exact h2 c h
   exact g2 c h
  ·intro i v c hv hc;by_cases hi:i<xs.length
   ·rw[zau hi] at hc;refine h3 i v c ?_ hc;rw[List.getElem?_take_of_lt (by omega)];exact hv
   rw[zay (by omega)] at hc;refine g3 (i-xs.length) v c ?_ hc;rw[zbf] at hv⊢;rw[<-hv];congr 1;omega
  intro g hg;rcases zaz.1 hg with rfl |hg
  ·refine⟨by omega,?_⟩;rw[ho];simp only[Nat.sub_self,zb7];rw[<-hl,zb2]
   ·exact h4
   rfl
  obtain⟨k1,k2⟩:=g4 g hg;refine⟨by omega,?_⟩;have e:(xs++ys).drop (g.offset-off)=ys.drop (g.offset-(off+Q.cellsOf f.type)):=by rw[List.drop_append,zaK (by omega),zbB];congr 1;omega
  rw[e];exact k2
theorem o6{t:TypeId}:bt Q t=match Q.underlying t with |some (.struct _)|some (.array _ _)=>true |_=>false:=rfl
theorem qn{m:Nat}{t:TypeId}{xs:List D}(h:Fit Q m t xs)(ha:bt Q t=false): ∃c,xs=[c]:=by
 cases m with
 |zero=>exact h.elim
 |succ m=>
  unfold Fit at h;rw[o6] at ha;split at h
  ·obtain⟨b,rfl⟩:=h;exact⟨_,rfl⟩
  ·obtain⟨b,rfl,_⟩:=h;exact⟨_,rfl⟩
  ·obtain⟨b,rfl,_⟩:=h;exact⟨_,rfl⟩
  ·obtain⟨es,rfl,_⟩:=h;exact⟨_,rfl⟩
  next hu=>rw[hu] at ha;simp at ha
  exact h.elim
theorem wo: ∀(m:Nat) (n:Nat) (t:TypeId) (cs:List Value) (x:DataW H×List MemPlace),DataW.trod enc Q w 0 (λ_=>true) true n t cs=some x->eI Q m t=true-> ∃xs,qm w cs xs/\Fit Q m t xs:=by
 intro m
 induction m with
 |zero=>intro n t cs x _ h;simp[eI] at h
 |succ m ih=>
  intro n t cs x hx hp;have one: ∀(v:Value) (c:D),c.aG=true->ay (· <w.heap.size) w v c->qm w [v] [c]:=λv c hc hr=>⟨rfl,by simpa using hc,λi v' c' h1 h2=>by
   cases i with
   |zero=>simp at h1 h2;subst h1;subst h2;exact hr
   |succ i=>simp at h1⟩
  unfold eI at hp;split at hp
  next hu=>obtain⟨b,rfl,_⟩:=DataW.trod_bool hu hx;exact⟨[.bool b],one _ _ rfl (.bool b),by unfold Fit;rw[hu];exact⟨b,rfl⟩⟩
  next k hu=>obtain⟨b,rfl,_,hw⟩:=DataW.trod_int hu hx;exact⟨[.int k b],one _ _ rfl (.int k b),by unfold Fit;rw[hu];exact⟨b,rfl,hw⟩⟩
  next hu=>obtain⟨b,rfl,_,hw⟩:=DataW.trod_string hu hx;exact⟨[.str b.data.toList],one _ _ rfl (.str b.data.toList),by unfold Fit;rw[hu];exact⟨_,rfl,hw⟩⟩
  next e hu=>
   simp only[zad] at hp;have hk:0<Q.cellsOf e:=by have:=hp.2;simp[Nat.blt] at this;omega
   rcases DataW.trod_slice hu hx with⟨rfl,_⟩| ⟨a,len,cap,elems,rest,n',rfl,rfl,_,hb,qF,kl,uW,jQ,_,_⟩
   ·exact⟨[.sl (Q.cellsOf e) []],one _ _ rfl (.sS none _ 0),by unfold Fit;rw[hu];exact⟨[],rfl,by simp,by simp⟩⟩
   have each: ∀i,i<len-> ∃(eJ:List Value) (xs:List D),w.cells? 0 (a.add (i*Q.cellsOf e)) (Q.cellsOf e)=some eJ/\qm w eJ xs/\Fit Q m e xs:=λi hi=>by
    have h1:=jQ i hi;have bm:i<elems.length:=by omega
    rw[zab bm,za0] at h1;obtain⟨eJ,h2,h3⟩:=h1;obtain⟨xs,h4,h5⟩:=ih _ _ _ _ h3 hp.1;exact⟨eJ,xs,h2,h4,h5⟩
   have mk: ∀l,l<=len-> ∃es:List D,es.length=l/\ ∀i,i<l-> ∃(eJ:List Value) (y:D),es[i]?=some y/\w.cells? 0 (a.add (i*Q.cellsOf e)) (Q.cellsOf e)=some eJ/\qm w eJ y.cells/\Fit Q m e y.cells/\
     ((bt Q e=true/\ ∃cs,y= .agg cs)\/(bt Q e=false/\y.aG=true)):=by
    intro l
    induction l with
    |zero=>intro _;exact⟨[],rfl,λi hi=>by omega⟩
    |succ l Em=>
     intro hl;obtain⟨es,h1,h2⟩:=Em (by omega);obtain⟨eJ,xs,h3,h4,h5⟩:=each l (by omega);have hy: ∃y:D,y.cells=xs/\((bt Q e=true/\ ∃cs,y= .agg cs)\/(bt Q e=false/\y.aG=true)):=by
      cases ha:bt Q e with
      |true=>exact⟨.agg xs,rfl,.inl ⟨rfl,_,rfl⟩⟩
      |false=>obtain⟨c,rfl⟩:=qn h5 ha;have hc:=h4.2.1 c (by simp);refine⟨c,?_,.inr ⟨rfl,hc⟩⟩;cases c<;>first |rfl |simp[D.aG] at hc
     obtain⟨y,s6,Eo⟩:=hy;refine⟨es++[y],by simp[h1],λi hi=> ?_⟩;by_cases vF:i<l
     ·obtain⟨Cq,y',k1,k2⟩:=h2 i vF;exact⟨Cq,y',by rw[zau (by omega)];exact k1,k2⟩
     have e1:i=l:=by omega
     subst e1;exact⟨eJ,y,by rw[zay (by omega)];simp[h1],h3,by rw[s6];exact h4,by rw[s6];exact h5,Eo⟩
   obtain⟨es,ur,cY⟩:=mk len (zag _);have pL:Fit Q (m+1) t [.sl (Q.cellsOf e) es]:=by unfold Fit;rw[hu];refine⟨es,rfl,by omega,λy hy=> ?_⟩;obtain⟨i,hi,rfl⟩:=zaL hy;obtain⟨eJ,y',k1,_,_,k4,k5⟩:=cY i (by omega);rw[zab hi] at k1;cases k1;exact⟨k4,k5⟩
   refine⟨[.sl (Q.cellsOf e) es],one _ _ rfl ?_,pL⟩;by_cases h0:len=0
   ·subst h0;have:es=[]:=zam ur;subst this;exact .sS _ _ _
   obtain⟨ri,y0,_,Db,CN,E4,_⟩:=cY 0 (by omega);obtain⟨_,AQ,zj⟩:=World.cells?_some Db;have hblk:a.block<w.heap.size:=by have:=World.cells?_block Db hk;simpa [Addr.add] using this
   have yo:a.spot=none:=by
    have h1:=zj 0 hk;have h2:w.cell? ((a.add (0*Q.cellsOf e)).add 0)=some ri[0]:=by rw[h1];simp[AQ,hk]
    have:=World.cell?_spot h2;simpa [Addr.add] using this
   obtain⟨b,off,spot⟩:=a;simp only at yo hblk;subst yo;have bn: ∀i,i<es.length-> ∀x,es[i]?=some x->x.cells.length=Q.cellsOf e:=λi hi x hx=>by obtain⟨eJ,y',k1,k2,k3,_,_⟩:=cY i (by omega);rw[hx] at k1;cases k1;rw[k3.1];exact(World.cells?_some k2).2.1
   have AR: ∀q,q<es.length*Q.cellsOf e-> ∃eJ y,es[q/Q.cellsOf e]?=some y/\w.cells? 0 ((⟨b,off,none⟩:Addr).add (q/Q.cellsOf e*Q.cellsOf e)) (Q.cellsOf e)=some eJ/\qm w eJ y.cells/\w.cell? ⟨b,off+q,none⟩=eJ[q%Q.cellsOf e]?/\eJ.length=Q.cellsOf e:=λq hq=>by
    have hdiv:q/Q.cellsOf e<es.length:=by rw[Nat.div_lt_iff_lt_mul hk];exact hq
    obtain⟨eJ,y',k1,k2,k3,_,_⟩:=cY (q/Q.cellsOf e) (by omega);obtain⟨_,Ep,Er⟩:=World.cells?_some k2;refine⟨eJ,y',k1,k2,k3,?_,Ep⟩;have:=Er (q%Q.cellsOf e) (zb8 _ hk);rw[<-this];have e:=zb0 q (Q.cellsOf e);rw[zbi] at e;rw[addr_add,addr_add,zaT,e]
   rw[<-ur];refine .ui b off (Q.cellsOf e) cap es (λq=>(w.cell? ⟨b,off+q,none⟩).getD undef) (by omega) hblk (λx hx=> ?_) (λx hx=> ?_) (λq hq=> ?_) (λi j x c hx hc=> ?_)
   ·obtain⟨i,hi,rfl⟩:=zaL hx;exact bn i hi _ (zab hi)
   ·obtain⟨i,hi,rfl⟩:=zaL hx;obtain⟨eJ,y',k1,_,k3,_,_⟩:=cY i (by omega);rw[zab hi] at k1;cases k1;exact k3.2.1
   ·obtain⟨eJ,y,_,_,_,k4,k5⟩:=AR q hq;have hm:=zb8 q hk;rw[k4];simp[k5,hm]
   have hi:i<es.length:=(zaa.1 hx).1;have hj:j<Q.cellsOf e:=by have h1:=bn i hi x hx;have h2:=(zaa.1 hc).1;omega
   have hq:i*Q.cellsOf e+j<es.length*Q.cellsOf e:=by
    calc i*Q.cellsOf e+j<i*Q.cellsOf e+Q.cellsOf e:=by omega
     _=(i+1)*Q.cellsOf e:=by rw[zas,zaI]
     _<=es.length*Q.cellsOf e:=zaf _ hi
   obtain⟨eJ,y,k1,_,k3,k4,k5⟩:=AR _ hq;have e1:(i*Q.cellsOf e+j)/Q.cellsOf e=i:=by rw[zbi,Nat.mul_add_div hk,Nat.div_eq_of_lt hj,zbb]
   have e2:(i*Q.cellsOf e+j)%Q.cellsOf e=j:=by rw[zbi,Nat.mul_add_mod,Nat.mod_eq_of_lt hj]
   rw[e1,hx] at k1;cases k1;rw[e2] at k4;show ay _ w ((w.cell? ⟨b,off+(i*Q.cellsOf e+j),none⟩).getD undef) c;rw[k4];have xi:j<eJ.length:=by omega
   refine k3.2.2 j _ c ?_ hc;simp[xi]
  next fs hu=>
   simp only[zad] at hp;obtain⟨xs,n',rfl,rfl,hl,hn,hf⟩:=DataW.trod_struct hu hx;have key: ∀f∈fs.toList,∃ys,qm w ((cs.drop f.offset).take (Q.cellsOf f.type)) ys/\Fit Q m f.type ys:=λf By=>by
    obtain⟨i,hi,rfl⟩:=zaL By;have lq:i<fs.size:=by simpa using hi
    have h1:=hf i fs[i] (zaW lq);have bm:i<xs.length:=by omega
    rw[zab bm] at h1;have yE:=zaE.1 hp.2 _ By;simp only[Array.getElem_toList] at yE⊢;exact ih _ _ _ _ h1 yE
   obtain⟨ys,h1,h2⟩:=kN (Q:=Q) (n:=m) (Q.cellsOf t) cs hl fs.toList 0 hp.1 (zaF _) key;simp only[zb7] at h1;refine⟨ys,h1,?_⟩;unfold Fit;rw[hu];exact⟨by rw[h1.1,hl],λf By=>by simpa using(h2 f By).2⟩
  cases hp
end
end Pi
