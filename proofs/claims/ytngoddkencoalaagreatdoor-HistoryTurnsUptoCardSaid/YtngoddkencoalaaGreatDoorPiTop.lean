/- The text PiTop. -/
import Derived.Test.YtngoddkencoalaaGreatDoorPiCodeOk
import Derived.ProofKit
namespace Pi
open Go
def gE(Q:Program):Nat->TypeId->Bool
 |0,_=>false
 |n+1,t=>match Q.underlying t with
  |some .bool |some (.int _)|some .string=>true
  |some (.slice e)=>gE Q n e&&Nat.blt 0 (Q.cellsOf e)
  |some (.struct fs)=>lh Q 0 fs.toList (Q.cellsOf t)&&fs.toList.all λf=>gE Q n f.type
  |_=>false
def Fit(Q:Program):Nat->TypeId->List D->Prop
 |0,_,_=>False
 |n+1,t,xs=>match Q.underlying t with
  |some .bool=> ∃b,xs=[.bool b]
  |some (.int k)=> ∃m,xs=[.int k m]/\(Lit.int k m).wf=true
  |some .string=> ∃l,xs=[.str l]/\l.length<=maxLen
  |some (.slice e)=> ∃es,xs=[.sl (Q.cellsOf e) es]/\es.length<=maxLen/\ ∀y∈es,Fit Q n e y.cells/\((dE Q e=true/\ ∃cs,y= .agg cs)\/(dE Q e=false/\y.bA=true))
  |some (.struct fs)=>xs.length=Q.cellsOf t/\ ∀f∈fs.toList,Fit Q n f.type ((xs.drop f.offset).take (Q.cellsOf f.type))
  |_=>False
section
variable{H:Type}{enc:TypeId×Value->H}{Q:Program}{w:World}
def sF(w:World)(cs:List Value)(xs:List D):Prop:=
 xs.length=cs.length/\(∀c∈xs,c.bA=true)/\ ∀(i:Nat) (v:Value) (c:D),cs[i]?=some v->xs[i]?=some c->aS (· <w.heap.size) w v c
theorem wN{n:Nat}(nx:Nat)(cs:List Value)(hcs:cs.length=nx): ∀(fs:List Field) (off:Nat),lh Q off fs nx=true->off<=nx->
  (∀f∈fs,∃xs,sF w ((cs.drop f.offset).take (Q.cellsOf f.type)) xs/\Fit Q n f.type xs)->
  ∃xs,sF w (cs.drop off) xs/\ ∀f∈fs,off<=f.offset/\Fit Q n f.type ((xs.drop (f.offset-off)).take (Q.cellsOf f.type))
 | [],off,ht,hle,_=>by have:off=nx:=zag ht;refine⟨[],⟨by simp;omega,by simp,λi v c h1 h2=>by simp at h2⟩,by simp⟩
 |f::r,off,ht,hle,hf=>by
  simp only[lh,zab] at ht;have ho:f.offset=off:=zag ht.1;have Ox:off+Q.cellsOf f.type<=nx:=by
   have: ∀(fs:List Field) (o:Nat),lh Q o fs nx=true->o<=nx:=by
    intro fs
    induction fs with
    |nil=>intro o h;exact zdb (zag h)
    |cons g gs ih=>intro o h;simp only[lh,zab] at h;have:=ih _ h.2;omega
   exact this r _ ht.2
  obtain⟨xs,⟨h1,h2,h3⟩,h4⟩:=hf f (by simp);obtain⟨ys,⟨g1,g2,g3⟩,g4⟩:=wN nx cs hcs r _ ht.2 Ox (λg hg=>hf g (by simp[hg]));rw[ho] at h1 h3;have hl:xs.length=Q.cellsOf f.type:=by rw[h1];simp;omega
  refine⟨xs++ys,⟨?_,?_,?_⟩,?_⟩
  ·simp[g1,hl];omega
  ·intro c hc;rcases zay.1 hc with h |h
   ·exact h2 c h
   exact g2 c h
  ·intro i v c hv hc;by_cases hi:i<xs.length
   ·rw[zaR hi] at hc;refine h3 i v c ?_ hc;rw[zdq (by omega)];exact hv
   rw[za2 (by omega)] at hc;refine g3 (i-xs.length) v c ?_ hc;rw[zbY] at hv⊢;rw[<-hv];congr 1;omega
  intro g hg;rcases zav.1 hg with rfl |hg
  ·refine⟨by omega,?_⟩;rw[ho];simp only[Nat.sub_self,zb5];rw[<-hl,zcg]
   ·exact h4
   rfl
  obtain⟨k1,k2⟩:=g4 g hg;refine⟨by omega,?_⟩;have e:(xs++ys).drop (g.offset-off)=ys.drop (g.offset-(off+Q.cellsOf f.type)):=by rw[List.drop_append,zci (by omega),zbk];congr 1;omega
  rw[e];exact k2
theorem Ew{t:TypeId}:dE Q t=match Q.underlying t with |some (.struct _)|some (.array _ _)=>true |_=>false:=rfl
theorem Hp{m:Nat}{t:TypeId}{xs:List D}(h:Fit Q m t xs)(ha:dE Q t=false): ∃c,xs=[c]:=by
 cases m with
 |zero=>exact h.elim
 |succ m=>
  unfold Fit at h;rw[Ew] at ha;split at h
  ·obtain⟨b,rfl⟩:=h;exact⟨_,rfl⟩
  ·obtain⟨b,rfl,_⟩:=h;exact⟨_,rfl⟩
  ·obtain⟨b,rfl,_⟩:=h;exact⟨_,rfl⟩
  ·obtain⟨es,rfl,_⟩:=h;exact⟨_,rfl⟩
  next hu=>rw[hu] at ha;simp at ha
  exact h.elim
theorem SU: ∀(m:Nat) (n:Nat) (t:TypeId) (cs:List Value) (x:DataW H×List MemPlace),DataW.trod enc Q w 0 (λ_=>true) true n t cs=some x->gE Q m t=true-> ∃xs,sF w cs xs/\Fit Q m t xs:=by
 intro m
 induction m with
 |zero=>intro n t cs x _ h;simp[gE] at h
 |succ m ih=>
  intro n t cs x hx hp;have one: ∀(v:Value) (c:D),c.bA=true->aS (· <w.heap.size) w v c->sF w [v] [c]:=λv c hc hr=>⟨rfl,by simpa using hc,λi v' c' h1 h2=>by
   cases i with
   |zero=>simp at h1 h2;subst h1;subst h2;exact hr
   |succ i=>simp at h1⟩
  unfold gE at hp;split at hp
  next hu=>obtain⟨b,rfl,_⟩:=DataW.trod_bool hu hx;exact⟨[.bool b],one _ _ rfl (.bool b),by unfold Fit;rw[hu];exact⟨b,rfl⟩⟩
  next k hu=>obtain⟨b,rfl,_,hw⟩:=DataW.trod_int hu hx;exact⟨[.int k b],one _ _ rfl (.int k b),by unfold Fit;rw[hu];exact⟨b,rfl,hw⟩⟩
  next hu=>obtain⟨b,rfl,_,hw⟩:=DataW.trod_string hu hx;exact⟨[.str b.data.toList],one _ _ rfl (.str b.data.toList),by unfold Fit;rw[hu];exact⟨_,rfl,hw⟩⟩
  next e hu=>
   simp only[zab] at hp;have hk:0<Q.cellsOf e:=by have:=hp.2;simp[Nat.blt] at this;omega
   rcases DataW.trod_slice hu hx with⟨rfl,_⟩| ⟨a,len,cap,elems,rest,n',rfl,rfl,_,hb,GI,yL,FM,oE,_,_⟩
   ·exact⟨[.sl (Q.cellsOf e) []],one _ _ rfl (.J4 none _ 0),by unfold Fit;rw[hu];exact⟨[],rfl,by simp,by simp⟩⟩
   have each: ∀i,i<len-> ∃(kV:List Value) (xs:List D),w.cells? 0 (a.add (i*Q.cellsOf e)) (Q.cellsOf e)=some kV/\sF w kV xs/\Fit Q m e xs:=λi hi=>by
    have h1:=oE i hi;have bJ:i<elems.length:=by omega
    rw[zac bJ,zbH] at h1;obtain⟨kV,h2,h3⟩:=h1;obtain⟨xs,h4,h5⟩:=ih _ _ _ _ h3 hp.1;exact⟨kV,xs,h2,h4,h5⟩
   have mk: ∀l,l<=len-> ∃es:List D,es.length=l/\ ∀i,i<l-> ∃(kV:List Value) (y:D),es[i]?=some y/\w.cells? 0 (a.add (i*Q.cellsOf e)) (Q.cellsOf e)=some kV/\sF w kV y.cells/\Fit Q m e y.cells/\
     ((dE Q e=true/\ ∃cs,y= .agg cs)\/(dE Q e=false/\y.bA=true)):=by
    intro l
    induction l with
    |zero=>intro _;exact⟨[],rfl,λi hi=>by omega⟩
    |succ l ihl=>
     intro hl;obtain⟨es,h1,h2⟩:=ihl (by omega);obtain⟨kV,xs,h3,h4,h5⟩:=each l (by omega);have hy: ∃y:D,y.cells=xs/\((dE Q e=true/\ ∃cs,y= .agg cs)\/(dE Q e=false/\y.bA=true)):=by
      cases ha:dE Q e with
      |true=>exact⟨.agg xs,rfl,.inl ⟨rfl,_,rfl⟩⟩
      |false=>obtain⟨c,rfl⟩:=Hp h5 ha;have hc:=h4.2.1 c (by simp);refine⟨c,?_,.inr ⟨rfl,hc⟩⟩;cases c<;>first |rfl |simp[D.bA] at hc
     obtain⟨y,Bz,hy2⟩:=hy;refine⟨es++[y],by simp[h1],λi hi=> ?_⟩;by_cases bK:i<l
     ·obtain⟨qk1,y',k1,k2⟩:=h2 i bK;exact⟨qk1,y',by rw[zaR (by omega)];exact k1,k2⟩
     have e1:i=l:=by omega
     subst e1;exact⟨kV,y,by rw[za2 (by omega)];simp[h1],h3,by rw[Bz];exact h4,by rw[Bz];exact h5,hy2⟩
   obtain⟨es,hes,gU⟩:=mk len (zak _);have GO:Fit Q (m+1) t [.sl (Q.cellsOf e) es]:=by unfold Fit;rw[hu];refine⟨es,rfl,by omega,λy hy=> ?_⟩;obtain⟨i,hi,rfl⟩:=zaT hy;obtain⟨kV,y',k1,_,_,k4,k5⟩:=gU i (by omega);rw[zac hi] at k1;cases k1;exact⟨k4,k5⟩
   refine⟨[.sl (Q.cellsOf e) es],one _ _ rfl ?_,GO⟩;by_cases h0:len=0
   ·subst h0;have:es=[]:=zaA hes;subst this;exact .J4 _ _ _
   obtain⟨Kf,y0,_,BO,tc,hf0,_⟩:=gU 0 (by omega);obtain⟨_,qij,qeD⟩:=World.cells?_some BO;have hblk:a.block<w.heap.size:=by have:=World.cells?_block BO hk;simpa [Addr.add] using this
   have qdf:a.spot=none:=by
    have h1:=qeD 0 hk;have h2:w.cell? ((a.add (0*Q.cellsOf e)).add 0)=some Kf[0]:=by rw[h1];simp[qij,hk]
    have:=World.cell?_spot h2;simpa [Addr.add] using this
   obtain⟨b,off,spot⟩:=a;simp only at qdf hblk;subst qdf;have dN: ∀i,i<es.length-> ∀x,es[i]?=some x->x.cells.length=Q.cellsOf e:=λi hi x hx=>by obtain⟨kV,y',k1,k2,k3,_,_⟩:=gU i (by omega);rw[hx] at k1;cases k1;rw[k3.1];exact(World.cells?_some k2).2.1
   have qik: ∀q,q<es.length*Q.cellsOf e-> ∃kV y,es[q/Q.cellsOf e]?=some y/\w.cells? 0 ((⟨b,off,none⟩:Addr).add (q/Q.cellsOf e*Q.cellsOf e)) (Q.cellsOf e)=some kV/\sF w kV y.cells/\w.cell? ⟨b,off+q,none⟩=kV[q%Q.cellsOf e]?/\kV.length=Q.cellsOf e:=λq hq=>by
    have hdiv:q/Q.cellsOf e<es.length:=by rw[zcQ hk];exact hq
    obtain⟨kV,y',k1,k2,k3,_,_⟩:=gU (q/Q.cellsOf e) (by omega);obtain⟨_,xV,hc2⟩:=World.cells?_some k2;refine⟨kV,y',k1,k2,k3,?_,xV⟩;have:=hc2 (q%Q.cellsOf e) (zc8 _ hk);rw[<-this];have e:=zdl q (Q.cellsOf e);rw[zcm] at e;rw[addr_add,addr_add,zbG,e]
   rw[<-hes];refine .Ml b off (Q.cellsOf e) cap es (λq=>(w.cell? ⟨b,off+q,none⟩).getD undef) (by omega) hblk (λx hx=> ?_) (λx hx=> ?_) (λq hq=> ?_) (λi j x c hx hc=> ?_)
   ·obtain⟨i,hi,rfl⟩:=zaT hx;exact dN i hi _ (zac hi)
   ·obtain⟨i,hi,rfl⟩:=zaT hx;obtain⟨kV,y',k1,_,k3,_,_⟩:=gU i (by omega);rw[zac hi] at k1;cases k1;exact k3.2.1
   ·obtain⟨kV,y,_,_,_,k4,k5⟩:=qik q hq;have hm:=zc8 q hk;rw[k4];simp[k5,hm]
   have hi:i<es.length:=(zaf.1 hx).1;have hj:j<Q.cellsOf e:=by have h1:=dN i hi x hx;have h2:=(zaf.1 hc).1;omega
   have hq:i*Q.cellsOf e+j<es.length*Q.cellsOf e:=by
    calc i*Q.cellsOf e+j<i*Q.cellsOf e+Q.cellsOf e:=by omega
     _=(i+1)*Q.cellsOf e:=by rw[zaZ,zbs]
     _<=es.length*Q.cellsOf e:=zar _ hi
   obtain⟨kV,y,k1,_,k3,k4,k5⟩:=qik _ hq;have e1:(i*Q.cellsOf e+j)/Q.cellsOf e=i:=by rw[zcm,Nat.mul_add_div hk,Nat.div_eq_of_lt hj,zb0]
   have e2:(i*Q.cellsOf e+j)%Q.cellsOf e=j:=by rw[zcm,Nat.mul_add_mod,Nat.mod_eq_of_lt hj]
   rw[e1,hx] at k1;cases k1;rw[e2] at k4;show aS _ w ((w.cell? ⟨b,off+(i*Q.cellsOf e+j),none⟩).getD undef) c;rw[k4];have My:j<kV.length:=by omega
   refine k3.2.2 j _ c ?_ hc;simp[My]
  next fs hu=>
   simp only[zab] at hp;obtain⟨xs,n',rfl,rfl,hl,hn,hf⟩:=DataW.trod_struct hu hx;have key: ∀f∈fs.toList,∃ys,sF w ((cs.drop f.offset).take (Q.cellsOf f.type)) ys/\Fit Q m f.type ys:=λf hf'=>by
    obtain⟨i,hi,rfl⟩:=zaT hf';have yT:i<fs.size:=by simpa using hi
    have h1:=hf i fs[i] (zbQ yT);have bJ:i<xs.length:=by omega
    rw[zac bJ] at h1;have DV:=zbm.1 hp.2 _ hf';simp only[Array.getElem_toList] at DV⊢;exact ih _ _ _ _ h1 DV
   obtain⟨ys,h1,h2⟩:=wN (Q:=Q) (n:=m) (Q.cellsOf t) cs hl fs.toList 0 hp.1 (za1 _) key;simp only[zb5] at h1;refine⟨ys,h1,?_⟩;unfold Fit;rw[hu];exact⟨by rw[h1.1,hl],λf hf'=>by simpa using(h2 f hf').2⟩
  cases hp
end
end Pi
