/- The text PiTop. -/
import Derived.Test.YtfelfooeclnbiaaGreatDoorPiCodeOk
import Derived.ProofKit
namespace Pi
open Go
def kW(Q:Program):Nat->TypeId->Bool
 |0,_=>false
 |n+1,t=>match Q.underlying t with
  |some .bool |some (.int _)|some .string=>true
  |some (.slice e)=>kW Q n e&&Nat.blt 0 (Q.cellsOf e)
  |some (.struct fs)=>oZ Q 0 fs.toList (Q.cellsOf t)&&fs.toList.all λf=>kW Q n f.type
  |_=>false
def Fit(Q:Program):Nat->TypeId->List D->Prop
 |0,_,_=>False
 |n+1,t,xs=>match Q.underlying t with
  |some .bool=> ∃b,xs=[.bool b]
  |some (.int k)=> ∃m,xs=[.int k m]/\(Lit.int k m).wf=true
  |some .string=> ∃l,xs=[.str l]/\l.length<=maxLen
  |some (.slice e)=> ∃es,xs=[.sl (Q.cellsOf e) es]/\es.length<=maxLen/\ ∀y∈es,Fit Q n e y.cells/\((dx Q e=true/\ ∃cs,y= .agg cs)\/(dx Q e=false/\y.bt=true))
  |some (.struct fs)=>xs.length=Q.cellsOf t/\ ∀f∈fs.toList,Fit Q n f.type ((xs.drop f.offset).take (Q.cellsOf f.type))
  |_=>False
section
variable{H:Type}{enc:TypeId×Value->H}{Q:Program}{w:World}
def E6(w:World)(cs:List Value)(xs:List D):Prop:=
 xs.length=cs.length/\(∀c∈xs,c.bt=true)/\ ∀(i:Nat) (v:Value) (c:D),cs[i]?=some v->xs[i]?=some c->aU (· <w.heap.size) w v c
theorem vI{n:Nat}(q9:Nat)(cs:List Value)(hcs:cs.length=q9): ∀(fs:List Field) (off:Nat),oZ Q off fs q9=true->off<=q9->
  (∀f∈fs,∃xs,E6 w ((cs.drop f.offset).take (Q.cellsOf f.type)) xs/\Fit Q n f.type xs)->
  ∃xs,E6 w (cs.drop off) xs/\ ∀f∈fs,off<=f.offset/\Fit Q n f.type ((xs.drop (f.offset-off)).take (Q.cellsOf f.type))
 | [],off,ht,hle,_=>by have:off=q9:=zah ht;refine⟨[],⟨by simp;omega,by simp,λi v c h1 h2=>by simp at h2⟩,by simp⟩
 |f::r,off,ht,hle,hf=>by
  simp only[oZ,zad] at ht;have ho:f.offset=off:=zah ht.1;have V4:off+Q.cellsOf f.type<=q9:=by
   have: ∀(fs:List Field) (o:Nat),oZ Q o fs q9=true->o<=q9:=by
    intro fs
    induction fs with
    |nil=>intro o h;exact Nat.le_of_eq (zah h)
    |cons g gs ih=>intro o h;simp only[oZ,zad] at h;have:=ih _ h.2;omega
   exact this r _ ht.2
  obtain⟨xs,⟨h1,h2,h3⟩,h4⟩:=hf f (by simp);obtain⟨ys,⟨g1,g2,g3⟩,g4⟩:=vI q9 cs hcs r _ ht.2 V4 (λg hg=>hf g (by simp[hg]));rw[ho] at h1 h3;have hl:xs.length=Q.cellsOf f.type:=by rw[h1];simp;omega
  refine⟨xs++ys,⟨?_,?_,?_⟩,?_⟩
  ·simp[g1,hl];omega
  ·intro c hc;rcases zaB.1 hc with h |h
   ·exact h2 c h
   exact g2 c h
  ·intro i v c hv hc;by_cases hi:i<xs.length
   ·rw[zaQ hi] at hc;refine h3 i v c ?_ hc;rw[List.getElem?_take_of_lt (by omega)];exact hv
   rw[zaS (by omega)] at hc;refine g3 (i-xs.length) v c ?_ hc;rw[zca] at hv⊢;rw[<-hv];congr 1;omega
  intro g hg;rcases zas.1 hg with rfl |hg
  ·refine⟨by omega,?_⟩;rw[ho];simp only[Nat.sub_self,zbn];rw[<-hl,zcH]
   ·exact h4
   rfl
  obtain⟨k1,k2⟩:=g4 g hg;refine⟨by omega,?_⟩;have e:(xs++ys).drop (g.offset-off)=ys.drop (g.offset-(off+Q.cellsOf f.type)):=by rw[zda,zcg (by omega),zaT];congr 1;omega
  rw[e];exact k2
theorem CK{t:TypeId}:dx Q t=match Q.underlying t with |some (.struct _)|some (.array _ _)=>true |_=>false:=rfl
theorem E7{m:Nat}{t:TypeId}{xs:List D}(h:Fit Q m t xs)(ha:dx Q t=false): ∃c,xs=[c]:=by
 cases m with
 |zero=>exact h.elim
 |succ m=>
  unfold Fit at h;rw[CK] at ha;split at h
  ·obtain⟨b,rfl⟩:=h;exact⟨_,rfl⟩
  ·obtain⟨b,rfl,_⟩:=h;exact⟨_,rfl⟩
  ·obtain⟨b,rfl,_⟩:=h;exact⟨_,rfl⟩
  ·obtain⟨es,rfl,_⟩:=h;exact⟨_,rfl⟩
  next hu=>rw[hu] at ha;simp at ha
  exact h.elim
theorem Qo: ∀(m:Nat) (n:Nat) (t:TypeId) (cs:List Value) (x:DataW H×List MemPlace),DataW.trod enc Q w 0 (λ_=>true) true n t cs=some x->kW Q m t=true-> ∃xs,E6 w cs xs/\Fit Q m t xs:=by
 intro m
 induction m with
 |zero=>intro n t cs x _ h;simp[kW] at h
 |succ m ih=>
  intro n t cs x hx hp;have one: ∀(v:Value) (c:D),c.bt=true->aU (· <w.heap.size) w v c->E6 w [v] [c]:=λv c hc hr=>⟨rfl,by simpa using hc,λi v' c' h1 h2=>by
   cases i with
   |zero=>simp at h1 h2;subst h1;subst h2;exact hr
   |succ i=>simp at h1⟩
  unfold kW at hp;split at hp
  next hu=>obtain⟨b,rfl,_⟩:=DataW.trod_bool hu hx;exact⟨[.bool b],one _ _ rfl (.bool b),by unfold Fit;rw[hu];exact⟨b,rfl⟩⟩
  next k hu=>obtain⟨b,rfl,_,hw⟩:=DataW.trod_int hu hx;exact⟨[.int k b],one _ _ rfl (.int k b),by unfold Fit;rw[hu];exact⟨b,rfl,hw⟩⟩
  next hu=>obtain⟨b,rfl,_,hw⟩:=DataW.trod_string hu hx;exact⟨[.str b.data.toList],one _ _ rfl (.str b.data.toList),by unfold Fit;rw[hu];exact⟨_,rfl,hw⟩⟩
  next e hu=>
   simp only[zad] at hp;have hk:0<Q.cellsOf e:=by have:=hp.2;simp[Nat.blt] at this;omega
   rcases DataW.trod_slice hu hx with⟨rfl,_⟩| ⟨a,len,cap,elems,rest,n',rfl,rfl,_,hb,Hk,tL,AA,pk,_,_⟩
   ·exact⟨[.sl (Q.cellsOf e) []],one _ _ rfl (.Oe none _ 0),by unfold Fit;rw[hu];exact⟨[],rfl,by simp,by simp⟩⟩
   have each: ∀i,i<len-> ∃(ll:List Value) (xs:List D),w.cells? 0 (a.add (i*Q.cellsOf e)) (Q.cellsOf e)=some ll/\E6 w ll xs/\Fit Q m e xs:=λi hi=>by
    have h1:=pk i hi;have bz:i<elems.length:=by omega
    rw[zac bz,zbO] at h1;obtain⟨ll,h2,h3⟩:=h1;obtain⟨xs,h4,h5⟩:=ih _ _ _ _ h3 hp.1;exact⟨ll,xs,h2,h4,h5⟩
   have mk: ∀l,l<=len-> ∃es:List D,es.length=l/\ ∀i,i<l-> ∃(ll:List Value) (y:D),es[i]?=some y/\w.cells? 0 (a.add (i*Q.cellsOf e)) (Q.cellsOf e)=some ll/\E6 w ll y.cells/\Fit Q m e y.cells/\
     ((dx Q e=true/\ ∃cs,y= .agg cs)\/(dx Q e=false/\y.bt=true)):=by
    intro l
    induction l with
    |zero=>intro _;exact⟨[],rfl,λi hi=>by omega⟩
    |succ l ihl=>
     intro hl;obtain⟨es,h1,h2⟩:=ihl (by omega);obtain⟨ll,xs,h3,h4,h5⟩:=each l (by omega);have hy: ∃y:D,y.cells=xs/\((dx Q e=true/\ ∃cs,y= .agg cs)\/(dx Q e=false/\y.bt=true)):=by
      cases ha:dx Q e with
      |true=>exact⟨.agg xs,rfl,.inl ⟨rfl,_,rfl⟩⟩
      |false=>obtain⟨c,rfl⟩:=E7 h5 ha;have hc:=h4.2.1 c (by simp);refine⟨c,?_,.inr ⟨rfl,hc⟩⟩;cases c<;>first |rfl |simp[D.bt] at hc
     obtain⟨y,zI,hy2⟩:=hy;refine⟨es++[y],by simp[h1],λi hi=> ?_⟩;by_cases cj:i<l
     ·obtain⟨qhS,y',k1,k2⟩:=h2 i cj;exact⟨qhS,y',by rw[zaQ (by omega)];exact k1,k2⟩
     have e1:i=l:=by omega
     subst e1;exact⟨ll,y,by rw[zaS (by omega)];simp[h1],h3,by rw[zI];exact h4,by rw[zI];exact h5,hy2⟩
   obtain⟨es,WD,gy⟩:=mk len (zai _);have EF:Fit Q (m+1) t [.sl (Q.cellsOf e) es]:=by unfold Fit;rw[hu];refine⟨es,rfl,by omega,λy hy=> ?_⟩;obtain⟨i,hi,rfl⟩:=zaN hy;obtain⟨ll,y',k1,_,_,k4,k5⟩:=gy i (by omega);rw[zac hi] at k1;cases k1;exact⟨k4,k5⟩
   refine⟨[.sl (Q.cellsOf e) es],one _ _ rfl ?_,EF⟩;by_cases h0:len=0
   ·subst h0;have:es=[]:=zax WD;subst this;exact .Oe _ _ _
   obtain⟨Ia,y0,_,hc0,ve,hf0,_⟩:=gy 0 (by omega);obtain⟨_,qfv,qb8⟩:=World.cells?_some hc0;have hblk:a.block<w.heap.size:=by have:=World.cells?_block hc0 hk;simpa [Addr.add] using this
   have qaY:a.spot=none:=by
    have h1:=qb8 0 hk;have h2:w.cell? ((a.add (0*Q.cellsOf e)).add 0)=some Ia[0]:=by rw[h1];simp[qfv,hk]
    have:=World.cell?_spot h2;simpa [Addr.add] using this
   obtain⟨b,off,spot⟩:=a;simp only at qaY hblk;subst qaY;have cM: ∀i,i<es.length-> ∀x,es[i]?=some x->x.cells.length=Q.cellsOf e:=λi hi x hx=>by obtain⟨ll,y',k1,k2,k3,_,_⟩:=gy i (by omega);rw[hx] at k1;cases k1;rw[k3.1];exact(World.cells?_some k2).2.1
   have qfw: ∀q,q<es.length*Q.cellsOf e-> ∃ll y,es[q/Q.cellsOf e]?=some y/\w.cells? 0 ((⟨b,off,none⟩:Addr).add (q/Q.cellsOf e*Q.cellsOf e)) (Q.cellsOf e)=some ll/\E6 w ll y.cells/\w.cell? ⟨b,off+q,none⟩=ll[q%Q.cellsOf e]?/\ll.length=Q.cellsOf e:=λq hq=>by
    have hdiv:q/Q.cellsOf e<es.length:=by rw[zcE hk];exact hq
    obtain⟨ll,y',k1,k2,k3,_,_⟩:=gy (q/Q.cellsOf e) (by omega);obtain⟨_,CL,hc2⟩:=World.cells?_some k2;refine⟨ll,y',k1,k2,k3,?_,CL⟩;have:=hc2 (q%Q.cellsOf e) (zcL _ hk);rw[<-this];have e:=zde q (Q.cellsOf e);rw[zbK] at e;rw[addr_add,addr_add,zbH,e]
   rw[<-WD];refine .Pg b off (Q.cellsOf e) cap es (λq=>(w.cell? ⟨b,off+q,none⟩).getD undef) (by omega) hblk (λx hx=> ?_) (λx hx=> ?_) (λq hq=> ?_) (λi j x c hx hc=> ?_)
   ·obtain⟨i,hi,rfl⟩:=zaN hx;exact cM i hi _ (zac hi)
   ·obtain⟨i,hi,rfl⟩:=zaN hx;obtain⟨ll,y',k1,_,k3,_,_⟩:=gy i (by omega);rw[zac hi] at k1;cases k1;exact k3.2.1
   ·obtain⟨ll,y,_,_,_,k4,k5⟩:=qfw q hq;have hm:=zcL q hk;rw[k4];simp[k5,hm]
   have hi:i<es.length:=(zae.1 hx).1;have hj:j<Q.cellsOf e:=by have h1:=cM i hi x hx;have h2:=(zae.1 hc).1;omega
   have hq:i*Q.cellsOf e+j<es.length*Q.cellsOf e:=by
    calc i*Q.cellsOf e+j<i*Q.cellsOf e+Q.cellsOf e:=by omega
     _=(i+1)*Q.cellsOf e:=by rw[zaR,zbz]
     _<=es.length*Q.cellsOf e:=zao _ hi
   obtain⟨ll,y,k1,_,k3,k4,k5⟩:=qfw _ hq;have e1:(i*Q.cellsOf e+j)/Q.cellsOf e=i:=by rw[zbK,Nat.mul_add_div hk,Nat.div_eq_of_lt hj,zbV]
   have e2:(i*Q.cellsOf e+j)%Q.cellsOf e=j:=by rw[zbK,Nat.mul_add_mod,zcA hj]
   rw[e1,hx] at k1;cases k1;rw[e2] at k4;show aU _ w ((w.cell? ⟨b,off+(i*Q.cellsOf e+j),none⟩).getD undef) c;rw[k4];have AQ:j<ll.length:=by omega
   refine k3.2.2 j _ c ?_ hc;simp[AQ]
  next fs hu=>
   simp only[zad] at hp;obtain⟨xs,n',rfl,rfl,hl,hn,hf⟩:=DataW.trod_struct hu hx;have key: ∀f∈fs.toList,∃ys,E6 w ((cs.drop f.offset).take (Q.cellsOf f.type)) ys/\Fit Q m f.type ys:=λf hf'=>by
    obtain⟨i,hi,rfl⟩:=zaN hf';have zl:i<fs.size:=by simpa using hi
    have h1:=hf i fs[i] (zbN zl);have bz:i<xs.length:=by omega
    rw[zac bz] at h1;have Hj:=zaZ.1 hp.2 _ hf';simp only[Array.getElem_toList] at Hj⊢;exact ih _ _ _ _ h1 Hj
   obtain⟨ys,h1,h2⟩:=vI (Q:=Q) (n:=m) (Q.cellsOf t) cs hl fs.toList 0 hp.1 (za7 _) key;simp only[zbn] at h1;refine⟨ys,h1,?_⟩;unfold Fit;rw[hu];exact⟨by rw[h1.1,hl],λf hf'=>by simpa using(h2 f hf').2⟩
  cases hp
end
end Pi
