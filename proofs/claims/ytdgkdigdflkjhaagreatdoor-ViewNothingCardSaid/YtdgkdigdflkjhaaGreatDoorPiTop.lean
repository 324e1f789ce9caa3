/- The text PiTop. -/
import Derived.Test.YtdgkdigdflkjhaaGreatDoorPiCodeOk
import Derived.ProofKit
namespace Pi
open Go
def lV(Q:Program):Nat->TypeId->Bool
 |0,_=>false
 |n+1,t=>match Q.underlying t with
  |some .bool |some (.int _)|some .string=>true
  |some (.slice e)=>lV Q n e&&Nat.blt 0 (Q.cellsOf e)
  |some (.struct fs)=>qp Q 0 fs.toList (Q.cellsOf t)&&fs.toList.all λf=>lV Q n f.type
  |_=>false
def Fit(Q:Program):Nat->TypeId->List D->Prop
 |0,_,_=>False
 |n+1,t,xs=>match Q.underlying t with
  |some .bool=> ∃b,xs=[.bool b]
  |some (.int k)=> ∃m,xs=[.int k m]/\(Lit.int k m).wf=true
  |some .string=> ∃l,xs=[.str l]/\l.length<=maxLen
  |some (.slice e)=> ∃es,xs=[.sl (Q.cellsOf e) es]/\es.length<=maxLen/\ ∀y∈es,Fit Q n e y.cells/\((dT Q e=true/\ ∃cs,y= .agg cs)\/(dT Q e=false/\y.bL=true))
  |some (.struct fs)=>xs.length=Q.cellsOf t/\ ∀f∈fs.toList,Fit Q n f.type ((xs.drop f.offset).take (Q.cellsOf f.type))
  |_=>False
section
variable{H:Type}{enc:TypeId×Value->H}{Q:Program}{w:World}
def IF w (cs:List Value)(xs:List D):=
 xs.length=cs.length/\(∀c∈xs,c.bL=true)/\ ∀(i:Nat) (v:Value) (c:D),cs[i]?=some v->xs[i]?=some c->aY (· <w.heap.size) w v c
theorem xq{n} rU (cs:List Value)(hcs:cs.length=rU): ∀fs off,qp Q off fs rU=true->off<=rU->
  (∀f∈fs,∃xs,IF w ((cs.drop f.offset).take (Q.cellsOf f.type)) xs/\Fit Q n f.type xs)->
  ∃xs,IF w (cs.drop off) xs/\ ∀f∈fs,off<=f.offset/\Fit Q n f.type ((xs.drop (f.offset-off)).take (Q.cellsOf f.type))
 | [],off,ht,hle,_=>by have:off=rU:=zag ht;refine⟨[],⟨by simp;omega,by simp,λi v c h1 h2=>by simp at h2⟩,by simp⟩
 |f::r,off,ht,hle,hf=>by
  simp only[qp,zac] at ht;have ho:f.offset=off:=zag ht.1;have qai:off+Q.cellsOf f.type<=rU:=by
   have: ∀(fs:List Field) (o:Nat),qp Q o fs rU=true->o<=rU:=by
    intro fs
    induction fs with
    |nil=>intro o h;exact Nat.le_of_eq (zag h)
    |cons g gs ih=>intro o h;simp only[qp,zac] at h;have:=ih _ h.2;omega
   exact this r _ ht.2
  obtain⟨xs,⟨h1,h2,h3⟩,h4⟩:=hf f (by simp);obtain⟨ys,⟨g1,g2,g3⟩,g4⟩:=xq rU cs hcs r _ ht.2 qai (λg hg=>hf g (by simp[hg]));rw[ho] at h1 h3;have hl:xs.length=Q.cellsOf f.type:=by rw[h1];simp;omega
  refine⟨xs++ys,⟨?_,?_,?_⟩,?_⟩
  ·simp[g1,hl];omega
  ·intro c hc;rcases zaz.1 hc with h |h
   ·exact h2 c h
   exact g2 c h
  ·intro i v c hv hc;by_cases hi:i<xs.length
   ·rw[zaT hi] at hc;refine h3 i v c ?_ hc;rw[List.getElem?_take_of_lt (by omega)];exact hv
   rw[za7 (by omega)] at hc;refine g3 (i-xs.length) v c ?_ hc;rw[zch] at hv⊢;rw[<-hv];congr 1;omega
  intro g hg;rcases zat.1 hg with rfl |hg
  ·refine⟨by omega,?_⟩;rw[ho];simp only[zdn,zcD];rw[<-hl,zci]
   ·exact h4
   rfl
  obtain⟨k1,k2⟩:=g4 g hg;refine⟨by omega,?_⟩;have e:(xs++ys).drop (g.offset-off)=ys.drop (g.offset-(off+Q.cellsOf f.type)):=by rw[List.drop_append,zcT (by omega),zbq];congr 1;omega
  rw[e];exact k2
theorem FG{t}:dT Q t=match Q.underlying t with |some (.struct _)|some (.array _ _)=>true |_=>false:=rfl
theorem IG{m t xs}(h:Fit Q m t xs)(ha:dT Q t=false): ∃c,xs=[c]:=by
 cases m with
 |zero=>exact h.elim
 |succ m=>
  unfold Fit at h;rw[FG] at ha;split at h
  ·obtain⟨b,rfl⟩:=h;exact⟨_,rfl⟩
  ·obtain⟨b,rfl,_⟩:=h;exact⟨_,rfl⟩
  ·obtain⟨b,rfl,_⟩:=h;exact⟨_,rfl⟩
  ·obtain⟨es,rfl,_⟩:=h;exact⟨_,rfl⟩
  next hu=>rw[hu] at ha;simp at ha
  exact h.elim
theorem UM: ∀m n t cs x,DataW.trod enc Q w 0 (λ_=>true) true n t cs=some x->lV Q m t=true-> ∃xs,IF w cs xs/\Fit Q m t xs:=by
 intro m
 induction m with
 |zero=>intro n t cs x _ h;simp[lV] at h
 |succ m ih=>
  intro n t cs x hx hp;have one: ∀(v:Value) (c:D),c.bL=true->aY (· <w.heap.size) w v c->IF w [v] [c]:=λv c hc hr=>⟨rfl,by simpa using hc,λi v' c' h1 h2=>by
   cases i with
   |zero=>simp at h1 h2;subst h1;subst h2;exact hr
   |succ i=>simp at h1⟩
  unfold lV at hp;split at hp
  next hu=>obtain⟨b,rfl,_⟩:=DataW.trod_bool hu hx;exact⟨[.bool b],one _ _ rfl (.bool b),by unfold Fit;rw[hu];exact⟨b,rfl⟩⟩
  next k hu=>obtain⟨b,rfl,_,hw⟩:=DataW.trod_int hu hx;exact⟨[.int k b],one _ _ rfl (.int k b),by unfold Fit;rw[hu];exact⟨b,rfl,hw⟩⟩
  next hu=>obtain⟨b,rfl,_,hw⟩:=DataW.trod_string hu hx;exact⟨[.str b.data.toList],one _ _ rfl (.str b.data.toList),by unfold Fit;rw[hu];exact⟨_,rfl,hw⟩⟩
  next e hu=>
   simp only[zac] at hp;have hk:0<Q.cellsOf e:=by have:=hp.2;simp[Nat.blt] at this;omega
   rcases DataW.trod_slice hu hx with⟨rfl,_⟩| ⟨a,len,cap,elems,rest,n',rfl,rfl,_,hb,KR,BR,Sw,qE,_,_⟩
   ·exact⟨[.sl (Q.cellsOf e) []],one _ _ rfl (.Qf none _ 0),by unfold Fit;rw[hu];exact⟨[],rfl,by simp,by simp⟩⟩
   have each: ∀i,i<len-> ∃(mA:List Value) (xs:List D),w.cells? 0 (a.add (i*Q.cellsOf e)) (Q.cellsOf e)=some mA/\IF w mA xs/\Fit Q m e xs:=λi hi=>by
    have h1:=qE i hi;have bK:i<elems.length:=by omega
    rw[zad bK,zbU] at h1;obtain⟨mA,h2,h3⟩:=h1;obtain⟨xs,h4,h5⟩:=ih _ _ _ _ h3 hp.1;exact⟨mA,xs,h2,h4,h5⟩
   have mk: ∀l,l<=len-> ∃es:List D,es.length=l/\ ∀i,i<l-> ∃(mA:List Value) (y:D),es[i]?=some y/\w.cells? 0 (a.add (i*Q.cellsOf e)) (Q.cellsOf e)=some mA/\IF w mA y.cells/\Fit Q m e y.cells/\
     ((dT Q e=true/\ ∃cs,y= .agg cs)\/(dT Q e=false/\y.bL=true)):=by
    intro l
    induction l with
    |zero=>intro _;exact⟨[],rfl,λi hi=>by omega⟩
    |succ l ihl=>
     intro hl;obtain⟨es,h1,h2⟩:=ihl (by omega);obtain⟨mA,xs,h3,h4,h5⟩:=each l (by omega);have hy: ∃y:D,y.cells=xs/\((dT Q e=true/\ ∃cs,y= .agg cs)\/(dT Q e=false/\y.bL=true)):=by
      cases ha:dT Q e with
      |true=>exact⟨.agg xs,rfl,.inl ⟨rfl,_,rfl⟩⟩
      |false=>obtain⟨c,rfl⟩:=IG h5 ha;have hc:=h4.2.1 c (by simp);refine⟨c,?_,.inr ⟨rfl,hc⟩⟩;cases c<;>first |rfl |simp[D.bL] at hc
     obtain⟨y,Cp,hy2⟩:=hy;refine⟨es++[y],by simp[h1],λi hi=> ?_⟩;by_cases bJ:i<l
     ·obtain⟨qnr,y',k1,k2⟩:=h2 i bJ;exact⟨qnr,y',by rw[zaT (by omega)];exact k1,k2⟩
     have e1:i=l:=by omega
     subst e1;exact⟨mA,y,by rw[za7 (by omega)];simp[h1],h3,by rw[Cp];exact h4,by rw[Cp];exact h5,hy2⟩
   obtain⟨es,QV,ix⟩:=mk len (zal _);have H9:Fit Q (m+1) t [.sl (Q.cellsOf e) es]:=by unfold Fit;rw[hu];refine⟨es,rfl,by omega,λy hy=> ?_⟩;obtain⟨i,hi,rfl⟩:=zaQ hy;obtain⟨mA,y',k1,_,_,k4,k5⟩:=ix i (by omega);rw[zad hi] at k1;cases k1;exact⟨k4,k5⟩
   refine⟨[.sl (Q.cellsOf e) es],one _ _ rfl ?_,H9⟩;by_cases h0:len=0
   ·subst h0;have:es=[]:=zaB QV;subst this;exact .Qf _ _ _
   obtain⟨LJ,y0,_,CD,sv,hf0,_⟩:=ix 0 (by omega);obtain⟨_,qiI,qfN⟩:=World.cells?_some CD;have hblk:a.block<w.heap.size:=by have:=World.cells?_block CD hk;simpa [Addr.add] using this
   have qdQ:a.spot=none:=by
    have h1:=qfN 0 hk;have h2:w.cell? ((a.add (0*Q.cellsOf e)).add 0)=some LJ[0]:=by rw[h1];simp[qiI,hk]
    have:=World.cell?_spot h2;simpa [Addr.add] using this
   obtain⟨b,off,spot⟩:=a;simp only at qdQ hblk;subst qdQ;have dS: ∀i,i<es.length-> ∀x,es[i]?=some x->x.cells.length=Q.cellsOf e:=λi hi x hx=>by obtain⟨mA,y',k1,k2,k3,_,_⟩:=ix i (by omega);rw[hx] at k1;cases k1;rw[k3.1];exact(World.cells?_some k2).2.1
   have qiJ: ∀q,q<es.length*Q.cellsOf e-> ∃mA y,es[q/Q.cellsOf e]?=some y/\w.cells? 0 ((⟨b,off,none⟩:Addr).add (q/Q.cellsOf e*Q.cellsOf e)) (Q.cellsOf e)=some mA/\IF w mA y.cells/\w.cell? ⟨b,off+q,none⟩=mA[q%Q.cellsOf e]?/\mA.length=Q.cellsOf e:=λq hq=>by
    have hdiv:q/Q.cellsOf e<es.length:=by rw[zcV hk];exact hq
    obtain⟨mA,y',k1,k2,k3,_,_⟩:=ix (q/Q.cellsOf e) (by omega);obtain⟨_,KT,hc2⟩:=World.cells?_some k2;refine⟨mA,y',k1,k2,k3,?_,KT⟩;have:=hc2 (q%Q.cellsOf e) (zdh _ hk);rw[<-this];have e:=zdu q (Q.cellsOf e);rw[zco] at e;rw[addr_add,addr_add,zbI,e]
   rw[<-QV];refine .Sv b off (Q.cellsOf e) cap es (λq=>(w.cell? ⟨b,off+q,none⟩).getD undef) (by omega) hblk (λx hx=> ?_) (λx hx=> ?_) (λq hq=> ?_) (λi j x c hx hc=> ?_)
   ·obtain⟨i,hi,rfl⟩:=zaQ hx;exact dS i hi _ (zad hi)
   ·obtain⟨i,hi,rfl⟩:=zaQ hx;obtain⟨mA,y',k1,_,k3,_,_⟩:=ix i (by omega);rw[zad hi] at k1;cases k1;exact k3.2.1
   ·obtain⟨mA,y,_,_,_,k4,k5⟩:=qiJ q hq;have hm:=zdh q hk;rw[k4];simp[k5,hm]
   have hi:i<es.length:=(zae.1 hx).1;have hj:j<Q.cellsOf e:=by have h1:=dS i hi x hx;have h2:=(zae.1 hc).1;omega
   have hq:i*Q.cellsOf e+j<es.length*Q.cellsOf e:=by
    calc i*Q.cellsOf e+j<i*Q.cellsOf e+Q.cellsOf e:=by omega
     _=(i+1)*Q.cellsOf e:=by rw[za2,zbB]
     _<=es.length*Q.cellsOf e:=zar _ hi
   obtain⟨mA,y,k1,_,k3,k4,k5⟩:=qiJ _ hq;have e1:(i*Q.cellsOf e+j)/Q.cellsOf e=i:=by rw[zco,Nat.mul_add_div hk,Nat.div_eq_of_lt hj,zb1]
   have e2:(i*Q.cellsOf e+j)%Q.cellsOf e=j:=by rw[zco,Nat.mul_add_mod,Nat.mod_eq_of_lt hj]
   rw[e1,hx] at k1;cases k1;rw[e2] at k4;show aY _ w ((w.cell? ⟨b,off+(i*Q.cellsOf e+j),none⟩).getD undef) c;rw[k4];have NU:j<mA.length:=by omega
   refine k3.2.2 j _ c ?_ hc;simp[NU]
  next fs hu=>
   simp only[zac] at hp;obtain⟨xs,n',rfl,rfl,hl,hn,hf⟩:=DataW.trod_struct hu hx;have key: ∀f∈fs.toList,∃ys,IF w ((cs.drop f.offset).take (Q.cellsOf f.type)) ys/\Fit Q m f.type ys:=λf hf'=>by
    obtain⟨i,hi,rfl⟩:=zaQ hf';have zQ:i<fs.size:=by simpa using hi
    have h1:=hf i fs[i] (zbN zQ);have bK:i<xs.length:=by omega
    rw[zad bK] at h1;have Qm:=zbj.1 hp.2 _ hf';simp only[Array.getElem_toList] at Qm⊢;exact ih _ _ _ _ h1 Qm
   obtain⟨ys,h1,h2⟩:=xq (Q:=Q) (n:=m) (Q.cellsOf t) cs hl fs.toList 0 hp.1 (zbd _) key;simp only[zcD] at h1;refine⟨ys,h1,?_⟩;unfold Fit;rw[hu];exact⟨by rw[h1.1,hl],λf hf'=>by simpa using(h2 f hf').2⟩
  cases hp
end
end Pi
