/- The text PiTop. -/
import Derived.Test.YtpiohccneeblhaaPiCodeOk
import Derived.ProofKit
namespace Pi
open Go
def gW(Q:Program):Nat->TypeId->Bool
 |0,_=>false
 |n+1,t=>match Q.underlying t with
  |some .bool |some (.int _)|some .string=>true
  |some (.slice e)=>gW Q n e&&Nat.blt 0 (Q.cellsOf e)
  |some (.struct fs)=>jG Q 0 fs.toList (Q.cellsOf t)&&fs.toList.all λf=>gW Q n f.type
  |_=>false
def Fit(Q:Program):Nat->TypeId->List D->Prop
 |0,_,_=>False
 |n+1,t,xs=>match Q.underlying t with
  |some .bool=> ∃b,xs=[.bool b]
  |some (.int k)=> ∃m,xs=[.int k m]/\(Lit.int k m).wf=true
  |some .string=> ∃l,xs=[.str l]/\l.length<=maxLen
  |some (.slice e)=> ∃es,xs=[.sl (Q.cellsOf e) es]/\es.length<=maxLen/\ ∀y∈es,Fit Q n e y.cells/\((cd Q e=true/\ ∃cs,y= .agg cs)\/(cd Q e=false/\y.aI=true))
  |some (.struct fs)=>xs.length=Q.cellsOf t/\ ∀f∈fs.toList,Fit Q n f.type ((xs.drop f.offset).take (Q.cellsOf f.type))
  |_=>False
section
variable{H:Type}{enc:TypeId×Value->H}{Q:Program}{w:World}
def wy(w:World)(cs:List Value)(xs:List D):Prop:=
 xs.length=cs.length/\(∀c∈xs,c.aI=true)/\ ∀(i:Nat) (v:Value) (c:D),cs[i]?=some v->xs[i]?=some c->aA (· <w.heap.size) w v c
theorem oc{n:Nat}(qV:Nat)(cs:List Value)(hcs:cs.length=qV): ∀(fs:List Field) (off:Nat),jG Q off fs qV=true->off<=qV->
  (∀f∈fs,∃xs,wy w ((cs.drop f.offset).take (Q.cellsOf f.type)) xs/\Fit Q n f.type xs)->
  ∃xs,wy w (cs.drop off) xs/\ ∀f∈fs,off<=f.offset/\Fit Q n f.type ((xs.drop (f.offset-off)).take (Q.cellsOf f.type))
 | [],off,ht,hle,_=>by have:off=qV:=zab ht;refine⟨[],⟨by simp;omega,by simp,λi v c h1 h2=>by simp at h2⟩,by simp⟩
 |f::r,off,ht,hle,hf=>by
  simp only[jG,zad] at ht;have ho:f.offset=off:=zab ht.1;have EH:off+Q.cellsOf f.type<=qV:=by
   have: ∀(fs:List Field) (o:Nat),jG Q o fs qV=true->o<=qV:=by
    intro fs
    induction fs with
    |nil=>intro o h;exact Nat.le_of_eq (zab h)
    |cons g gs ih=>intro o h;simp only[jG,zad] at h;have:=ih _ h.2;omega
   exact this r _ ht.2
  obtain⟨xs,⟨h1,h2,h3⟩,h4⟩:=hf f (by simp);obtain⟨ys,⟨g1,g2,g3⟩,g4⟩:=oc qV cs hcs r _ ht.2 EH (λg hg=>hf g (by simp[hg]));rw[ho] at h1 h3;have hl:xs.length=Q.cellsOf f.type:=by rw[h1];simp;omega
  refine⟨xs++ys,⟨?_,?_,?_⟩,?_⟩
  ·simp[g1,hl];omega
  ·intro c hc;rcases zaH.1 hc with h |h
   ·exact h2 c h
   exact g2 c h
  ·intro i v c hv hc;by_cases hi:i<xs.length
   ·rw[zaD hi] at hc;refine h3 i v c ?_ hc;rw[List.getElem?_take_of_lt (by omega)];exact hv
   rw[zaG (by omega)] at hc;refine g3 (i-xs.length) v c ?_ hc;rw[za4] at hv⊢;rw[<-hv];congr 1;omega
  intro g hg;rcases zan.1 hg with rfl |hg
  ·refine⟨by omega,?_⟩;rw[ho];simp only[Nat.sub_self,zch];rw[<-hl,List.take_left']
   ·exact h4
   rfl
  obtain⟨k1,k2⟩:=g4 g hg;refine⟨by omega,?_⟩;have e:(xs++ys).drop (g.offset-off)=ys.drop (g.offset-(off+Q.cellsOf f.type)):=by rw[List.drop_append,zb8 (by omega),zbv];congr 1;omega
  rw[e];exact k2
theorem uv{t:TypeId}:cd Q t=match Q.underlying t with |some (.struct _)|some (.array _ _)=>true |_=>false:=rfl
theorem wz{m:Nat}{t:TypeId}{xs:List D}(h:Fit Q m t xs)(ha:cd Q t=false): ∃c,xs=[c]:=by
 cases m with
 |zero=>exact h.elim
 |succ m=>
  unfold Fit at h;rw[uv] at ha;split at h
  ·obtain⟨b,rfl⟩:=h;exact⟨_,rfl⟩
  ·obtain⟨b,rfl,_⟩:=h;exact⟨_,rfl⟩
  ·obtain⟨b,rfl,_⟩:=h;exact⟨_,rfl⟩
  ·obtain⟨es,rfl,_⟩:=h;exact⟨_,rfl⟩
  next hu=>rw[hu] at ha;simp at ha
  exact h.elim
theorem Db: ∀(m:Nat) (n:Nat) (t:TypeId) (cs:List Value) (x:DataW H×List MemPlace),DataW.trod enc Q w 0 (λ_=>true) true n t cs=some x->gW Q m t=true-> ∃xs,wy w cs xs/\Fit Q m t xs:=by
 intro m
 induction m with
 |zero=>intro n t cs x _ h;simp[gW] at h
 |succ m ih=>
  intro n t cs x hx hp;have one: ∀(v:Value) (c:D),c.aI=true->aA (· <w.heap.size) w v c->wy w [v] [c]:=λv c hc hr=>⟨rfl,by simpa using hc,λi v' c' h1 h2=>by
   cases i with
   |zero=>simp at h1 h2;subst h1;subst h2;exact hr
   |succ i=>simp at h1⟩
  unfold gW at hp;split at hp
  next hu=>obtain⟨b,rfl,_⟩:=DataW.trod_bool hu hx;exact⟨[.bool b],one _ _ rfl (.bool b),by unfold Fit;rw[hu];exact⟨b,rfl⟩⟩
  next k hu=>obtain⟨b,rfl,_,hw⟩:=DataW.trod_int hu hx;exact⟨[.int k b],one _ _ rfl (.int k b),by unfold Fit;rw[hu];exact⟨b,rfl,hw⟩⟩
  next hu=>obtain⟨b,rfl,_,hw⟩:=DataW.trod_string hu hx;exact⟨[.str b.data.toList],one _ _ rfl (.str b.data.toList),by unfold Fit;rw[hu];exact⟨_,rfl,hw⟩⟩
  next e hu=>
   simp only[zad] at hp;have hk:0<Q.cellsOf e:=by have:=hp.2;simp[Nat.blt] at this;omega
   rcases DataW.trod_slice hu hx with⟨rfl,_⟩| ⟨a,len,cap,elems,rest,n',rfl,rfl,_,hb,sg,qX,Cb,lr,_,_⟩
   ·exact⟨[.sl (Q.cellsOf e) []],one _ _ rfl (.Bp none _ 0),by unfold Fit;rw[hu];exact⟨[],rfl,by simp,by simp⟩⟩
   have each: ∀i,i<len-> ∃(jd:List Value) (xs:List D),w.cells? 0 (a.add (i*Q.cellsOf e)) (Q.cellsOf e)=some jd/\wy w jd xs/\Fit Q m e xs:=λi hi=>by
    have h1:=lr i hi;have bj:i<elems.length:=by omega
    rw[zac bj,zbp] at h1;obtain⟨jd,h2,h3⟩:=h1;obtain⟨xs,h4,h5⟩:=ih _ _ _ _ h3 hp.1;exact⟨jd,xs,h2,h4,h5⟩
   have mk: ∀l,l<=len-> ∃es:List D,es.length=l/\ ∀i,i<l-> ∃(jd:List Value) (y:D),es[i]?=some y/\w.cells? 0 (a.add (i*Q.cellsOf e)) (Q.cellsOf e)=some jd/\wy w jd y.cells/\Fit Q m e y.cells/\
     ((cd Q e=true/\ ∃cs,y= .agg cs)\/(cd Q e=false/\y.aI=true)):=by
    intro l
    induction l with
    |zero=>intro _;exact⟨[],rfl,λi hi=>by omega⟩
    |succ l PQ=>
     intro hl;obtain⟨es,h1,h2⟩:=PQ (by omega);obtain⟨jd,xs,h3,h4,h5⟩:=each l (by omega);have hy: ∃y:D,y.cells=xs/\((cd Q e=true/\ ∃cs,y= .agg cs)\/(cd Q e=false/\y.aI=true)):=by
      cases ha:cd Q e with
      |true=>exact⟨.agg xs,rfl,.inl ⟨rfl,_,rfl⟩⟩
      |false=>obtain⟨c,rfl⟩:=wz h5 ha;have hc:=h4.2.1 c (by simp);refine⟨c,?_,.inr ⟨rfl,hc⟩⟩;cases c<;>first |rfl |simp[D.aI] at hc
     obtain⟨y,rv,AX⟩:=hy;refine⟨es++[y],by simp[h1],λi hi=> ?_⟩;by_cases il:i<l
     ·obtain⟨MW,y',k1,k2⟩:=h2 i il;exact⟨MW,y',by rw[zaD (by omega)];exact k1,k2⟩
     have e1:i=l:=by omega
     subst e1;exact⟨jd,y,by rw[zaG (by omega)];simp[h1],h3,by rw[rv];exact h4,by rw[rv];exact h5,AX⟩
   obtain⟨es,Dc,eW⟩:=mk len (zae _);have vL:Fit Q (m+1) t [.sl (Q.cellsOf e) es]:=by unfold Fit;rw[hu];refine⟨es,rfl,by omega,λy hy=> ?_⟩;obtain⟨i,hi,rfl⟩:=zaM hy;obtain⟨jd,y',k1,_,_,k4,k5⟩:=eW i (by omega);rw[zac hi] at k1;cases k1;exact⟨k4,k5⟩
   refine⟨[.sl (Q.cellsOf e) es],one _ _ rfl ?_,vL⟩;by_cases h0:len=0
   ·subst h0;have:es=[]:=zaJ Dc;subst this;exact .Bp _ _ _
   obtain⟨xW,y0,_,Gg,pJ,Q6,_⟩:=eW 0 (by omega);obtain⟨_,Ka,HA⟩:=World.cells?_some Gg;have lS:a.block<w.heap.size:=by have:=World.cells?_block Gg hk;simpa [Addr.add] using this
   have Gu:a.spot=none:=by
    have h1:=HA 0 hk;have h2:w.cell? ((a.add (0*Q.cellsOf e)).add 0)=some xW[0]:=by rw[h1];simp[Ka,hk]
    have:=World.cell?_spot h2;simpa [Addr.add] using this
   obtain⟨b,off,spot⟩:=a;simp only at Gu lS;subst Gu;have cp: ∀i,i<es.length-> ∀x,es[i]?=some x->x.cells.length=Q.cellsOf e:=λi hi x hx=>by obtain⟨jd,y',k1,k2,k3,_,_⟩:=eW i (by omega);rw[hx] at k1;cases k1;rw[k3.1];exact(World.cells?_some k2).2.1
   have Kb: ∀q,q<es.length*Q.cellsOf e-> ∃jd y,es[q/Q.cellsOf e]?=some y/\w.cells? 0 ((⟨b,off,none⟩:Addr).add (q/Q.cellsOf e*Q.cellsOf e)) (Q.cellsOf e)=some jd/\wy w jd y.cells/\w.cell? ⟨b,off+q,none⟩=jd[q%Q.cellsOf e]?/\jd.length=Q.cellsOf e:=λq hq=>by
    have hdiv:q/Q.cellsOf e<es.length:=by rw[Nat.div_lt_iff_lt_mul hk];exact hq
    obtain⟨jd,y',k1,k2,k3,_,_⟩:=eW (q/Q.cellsOf e) (by omega);obtain⟨_,xg,PS⟩:=World.cells?_some k2;refine⟨jd,y',k1,k2,k3,?_,xg⟩;have:=PS (q%Q.cellsOf e) (zcy _ hk);rw[<-this];have e:=Nat.div_add_mod q (Q.cellsOf e);rw[zcb] at e;rw[bM,bM,zbf,e]
   rw[<-Dc];refine .Bq b off (Q.cellsOf e) cap es (λq=>(w.cell? ⟨b,off+q,none⟩).getD undef) (by omega) lS (λx hx=> ?_) (λx hx=> ?_) (λq hq=> ?_) (λi j x c hx hc=> ?_)
   ·obtain⟨i,hi,rfl⟩:=zaM hx;exact cp i hi _ (zac hi)
   ·obtain⟨i,hi,rfl⟩:=zaM hx;obtain⟨jd,y',k1,_,k3,_,_⟩:=eW i (by omega);rw[zac hi] at k1;cases k1;exact k3.2.1
   ·obtain⟨jd,y,_,_,_,k4,k5⟩:=Kb q hq;have hm:=zcy q hk;rw[k4];simp[k5,hm]
   have hi:i<es.length:=(zaa.1 hx).1;have hj:j<Q.cellsOf e:=by have h1:=cp i hi x hx;have h2:=(zaa.1 hc).1;omega
   have hq:i*Q.cellsOf e+j<es.length*Q.cellsOf e:=by
    calc i*Q.cellsOf e+j<i*Q.cellsOf e+Q.cellsOf e:=by omega
     _=(i+1)*Q.cellsOf e:=by rw[zaz,zaV]
     _<=es.length*Q.cellsOf e:=zah _ hi
   obtain⟨jd,y,k1,_,k3,k4,k5⟩:=Kb _ hq;have e1:(i*Q.cellsOf e+j)/Q.cellsOf e=i:=by rw[zcb,Nat.mul_add_div hk,Nat.div_eq_of_lt hj,zbJ]
   have e2:(i*Q.cellsOf e+j)%Q.cellsOf e=j:=by rw[zcb,Nat.mul_add_mod,Nat.mod_eq_of_lt hj]
   rw[e1,hx] at k1;cases k1;rw[e2] at k4;show aA _ w ((w.cell? ⟨b,off+(i*Q.cellsOf e+j),none⟩).getD undef) c;rw[k4];have CB:j<jd.length:=by omega
   refine k3.2.2 j _ c ?_ hc;simp[CB]
  next fs hu=>
   simp only[zad] at hp;obtain⟨xs,n',rfl,rfl,hl,hn,hf⟩:=DataW.trod_struct hu hx;have key: ∀f∈fs.toList,∃ys,wy w ((cs.drop f.offset).take (Q.cellsOf f.type)) ys/\Fit Q m f.type ys:=λf IE=>by
    obtain⟨i,hi,rfl⟩:=zaM IE;have qY:i<fs.size:=by simpa using hi
    have h1:=hf i fs[i] (zba qY);have bj:i<xs.length:=by omega
    rw[zac bj] at h1;have Is:=zaY.1 hp.2 _ IE;simp only[Array.getElem_toList] at Is⊢;exact ih _ _ _ _ h1 Is
   obtain⟨ys,h1,h2⟩:=oc (Q:=Q) (n:=m) (Q.cellsOf t) cs hl fs.toList 0 hp.1 (za2 _) key;simp only[zch] at h1;refine⟨ys,h1,?_⟩;unfold Fit;rw[hu];exact⟨by rw[h1.1,hl],λf IE=>by simpa using(h2 f IE).2⟩
  cases hp
end
end Pi
