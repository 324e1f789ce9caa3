/- The text PiEfOk3. -/
import Derived.Test.YtpiohccneeblhaaPiEfOk2
namespace Pi
open Go
section
variable{Q:Program}{T:Tg}{F:Nat->Prop}{G:Nat->Value}{w:World}{a:Act}{s:S}
theorem kz{t:TypeId}{k:Nat}(hk:sz Q t=some k){b o:Nat}{cs:Array Value}{ty:TypeId}(hh:w.heap[b]?=some (.cells cs ty (0,0))){v:Value}(hl:v.cells.toList.length=k)(hle:o+k<=cs.size)(h1: ∀u∈v.cells.toList,u.oneCell'=true):
  (Instr.storeAt t (.pointer (some ⟨b,o,none⟩)) v).run Q w= .ok () (w.setRow b (cs.toList.take o++v.cells.toList++cs.toList.drop (o+k)).toArray):=by
 have iO:=run_storeCells_at Q b o ty v.cells.toList 0 cs w hh (by omega) h1;simp only[zbJ,hl] at iO;have cm:v.cells.size=k:=by simpa using hl
 simp[Instr.storeAt,Instr.sureAddr,storeVar,Sem.run_bind,run_sizeOf hk,cm,iO]
theorem cK(cs:Array Value)(i:Nat):cs.getD i undef=(cs.toList[i]?).getD undef:=by simp[zav]
theorem ew(w:World)(b:Nat)(cs:Array Value)(c:Nat)(h:c≠b):(w.setRow b cs).heap[c]?=w.heap[c]?:=setRow_other w b c cs h
theorem pL: ∀(j:Nat) (ps:List P) {ds:List D} {q:P},mg j ps=some (ds,q)->ds.length=ps.length/\ps[j]?=some q/\ ∀(i:Nat) (c:D),ds[i]?=some c->(i=j/\c= .bt)\/(i≠j/\ps[i]?=some (.d c))
 |0,[],ds,q,h=>by simp[mg] at h
 |0,p::r,ds,q,h=>by
  simp only[mg] at h;split at h
  next OB hd=>
   cases h;refine⟨by rw[k8 _ _ hd];simp,rfl,λi c hc=> ?_⟩;cases i with
   |zero=>cases hc;exact .inl ⟨rfl,rfl⟩
   |succ i=>refine .inr ⟨by omega,?_⟩;rw[k8 _ _ hd];simpa using hc
  cases h
 |j+1,[],ds,q,h=>by simp[mg] at h
 |j+1,p::r,ds,q,h=>by
  cases p with
  |d x=>
   simp only[mg] at h;split at h
   ·rename_i OB q1 hd;cases h;obtain⟨h1,h2,h3⟩:=pL j r hd;refine⟨by simp[h1],by simpa using h2,λi c hc=> ?_⟩;cases i with
    |zero=>cases hc;exact .inr ⟨by omega,rfl⟩
    |succ i=>
     rcases h3 i c (by simpa using hc) with⟨e,e2⟩| ⟨e,e2⟩
     ·exact .inl ⟨by omega,e2⟩
     exact .inr ⟨by omega,by simpa using e2⟩
   cases h
  |_=>simp[mg] at h
theorem tJ{n v:Nat}{val:P}{ty:TypeId}{es:List D}{hi ho:Nat}{ds:List D}{q:P}(h:kY s n v val=some (ty,es,hi,ho,ds,q)): ∃p0 ps,s.obj n v=some (.bA ty es (some (hi,ho,p0)))/\val= .agg ps/\mg ho ps=some (ds,q):=by
 unfold kY at h;split at h
 next Qj Be KQ KR p0 ps zY=>
  split at h
  next Qk q2 hd=>cases h;exact⟨p0,ps,zY,rfl,hd⟩
  cases h
 cases h
theorem zZ(h:aq Q T F G w a s){t:TypeId}{pa pv:P}{s':S}(hs:dG Q s t pa pv=some s'){va v:Value}(ha:ao F w G s.rg va pa)(hv:ao F w G s.rg v pv):
  ∃w' F' G',(Instr.storeAt t va v).run Q w= .ok () w'/\aq Q T F' G' w' a s'/\Ext (Own G s.rg) (Own G' s'.rg) F F' w w':=by
 unfold dG at hs;split at hs
 ·cases hs
 rename_i k hk;split at hs
 next n ay off=>
  split at hs
  next s1 val cz=>
   split at hs
   ·rename_i ty ps ho;split at hs
    ·rename_i cu;simp only[zad,zbd] at cu;obtain⟨⟨hlen,hle⟩,eW⟩:=cu;have hlen:val.cells.length=k:=by simpa using hlen
     simp at hs;subst hs;obtain⟨G1,a1,a2,a3,a4⟩:=yS h cz hv;obtain⟨e,he,bL,aP⟩:=S.aI ho;have BX:=ha.mono (λ_ h=>h) (λ_ _=>rfl) a3;cases BX with
     |ref _ _ _ _ hr h1=>
      obtain⟨b,hG,rfl⟩:=hr.at he bL (by rw[aP];rfl);have hO:=a1.rg n e he;rw[aP] at hO;obtain⟨b',cs,gH,hh,cm,aW,km⟩:=hO;rw[hG] at gH;simp at gH;subst gH;obtain⟨c1,c2,fc⟩:=pG a4 eW;rw[hlen] at c1;refine⟨_,F,G1,kz hk hh c1 (by omega) fc,?_⟩;rw[S.bb he];have tI:b<w.heap.size:=(zap.1 hh).1;have EB: ¬F b:=a1.gG n e b he (by rw[aP];simp[ax,hG,aj]);have bV:jK G1 s1.rg n ⟨e.ay,e.tag,.box ty (splice ps off val.cells)⟩ (G1 n):=λe' bc=>by rw[he] at bc;cases bc;exact .inr ⟨rfl,λ_=>⟨by rw[aP];rfl,rfl⟩⟩
      have jm:=cI bV;rw[aJ] at jm;have hF: ∀c,F c->(w.setRow b (cs.toList.take off++v.cells.toList++cs.toList.drop (off+k)).toArray).heap[c]?=w.heap[c]?:=λc hc=>ew w b _ c (λe=>EB (e▸hc));have Jc:off+val.cells.length<=ps.length:=by omega
      have hval:off+v.cells.toList.length<=cs.toList.length:=by rw[c1];simp;omega
      have e2:cs.toList.drop (off+k)=cs.toList.drop (off+v.cells.toList.length):=by rw[c1]
      obtain⟨d1,d2⟩:=a1.iG (e1:=⟨e.ay,e.tag,.box ty (splice ps off val.cells)⟩) (g1:=G1 n) (w':=w.setRow b (cs.toList.take off++v.cells.toList++cs.toList.drop (off+k)).toArray) bV
       (λc hc bg=>ew w b _ c (λe'=>bg ⟨e,he,by rw[e',aP];simp[ax,hG,aj]⟩)) (by simp) rfl rfl rfl
       (λc hc=> .inr ⟨e,he,by rw[aP];exact hc⟩)
       (by
        rw[aJ];refine⟨b,_,hG,setRow_heap w b cs _ ty _ hh,?_,?_,?_⟩
        ·simp only[splice,zbF];rw[e2,ff _ _ _ hval,ff _ _ _ Jc];simpa using cm
        ·intro c hc;simp only[zaH] at hc;rcases hc with(hc |hc)|hc
         ·exact aW c (zbO hc)
         ·exact fc c hc
         exact aW c (zbN hc)
        intro i p hp;simp only[splice] at hp;rw[dW _ _ _ _ Jc] at hp;rw[cK];simp only[];rw[e2,dW _ _ _ _ hval,c1];rw[hlen] at hp;by_cases hi:off<=i/\i<off+k
        ·rw[zat hi] at hp⊢;have bj:i-off<v.cells.toList.length:=by omega
         rw[zac bj];exact(c2 _ _ p (zac bj) hp).mono (λ_ h=>h) hF jm
        rw[zaC hi] at hp⊢;have:=km i p hp;rw[cK] at this;exact this.mono (λ_ h=>h) hF jm)
       (λi hi hl=>a1.tag n e i he hi (by rw[aP];rfl))
      rw[aJ] at d1 d2;exact⟨d1,a2.trans d2⟩
    cases hs
   cases hs
  cases hs
 next n ay i k0 off=>
  split at hs
  next ty es jM ho ds q LO=>
   obtain⟨p0,ps,zY,rfl,LL⟩:=tJ LO;obtain⟨q1,q2,q3⟩:=pL _ _ LL;split at hs
   ·rename_i y k2 hy rj;split at hs
    ·rename_i cu;simp only[zad,zaP] at cu;obtain⟨⟨⟨⟨dV,xF⟩,EC⟩,GQ⟩,I9⟩:=cu;have dV:=zab dV;have xF:=zab xF;have EC:=zab EC;have GQ:=zab GQ;subst dV GQ;rw[<-EC] at rj ha;clear EC;subst I9;simp only[zaf] at hs;subst hs;obtain⟨e,he,bL,aP⟩:=S.aI zY;cases hv with
     |agg vs _ hl Ce FY=>
     cases ha with
     |bP _ _ _ _ _ _ h1 hr=>
      obtain⟨b,N,cap,hG,rfl⟩:=hr.at he bL (by rw[aP];rfl);have hO:=h.rg n e he;rw[aP] at hO;rcases hO with⟨gH,_⟩| ⟨b',dU,cs,k3,gH,hh,BU,je,sb,qU,cm,hE⟩
      ·rw[hG] at gH;cases gH
      rw[rj] at BU;cases BU;rw[hG] at gH;simp at gH;obtain⟨rfl,rfl,rfl⟩:=gH;have c1:(Value.agg ⟨vs⟩).cells.toList.length=k:=by show vs.length=k;rw[hl,<-q1,xF]
      have hi:jM<es.length:=(zaa.1 hy).1;have LP:jM*k+k<=cs.size:=by
       rw[cm]
       calc jM*k+k=(jM+1)*k:=by rw[zaz,zaV]
        _<=cap*k:=zag _ (by omega)
      refine⟨_,F,G,kz (v:= .agg ⟨vs⟩) hk hh c1 (by omega) Ce,?_⟩;rw[S.bb he];have EB: ¬F b:=h.gG n e b he (by rw[aP];simp[ax,hG,aj]);have bV:jK G s.rg n ⟨e.ay,e.tag,.bA ty (es.set jM (.agg ds)) (some (jM,ho,q))⟩ (G n):=λe' bc=>by rw[he] at bc;cases bc;exact .inr ⟨rfl,λ_=>⟨by rw[aP];rfl,rfl⟩⟩
      have jm:=cI bV;rw[aJ] at jm;have hF: ∀c,F c->(w.setRow b (cs.toList.take (jM*k+0)++(Value.agg ⟨vs⟩).cells.toList++cs.toList.drop (jM*k+0+k)).toArray).heap[c]?=w.heap[c]?:=λc hc=>ew w b _ c (λe=>EB (e▸hc));have hval:jM*k+0+(Value.agg ⟨vs⟩).cells.toList.length<=cs.toList.length:=by rw[c1];simp;omega
      have e2:cs.toList.drop (jM*k+0+k)=cs.toList.drop (jM*k+0+(Value.agg ⟨vs⟩).cells.toList.length):=by rw[c1]
      have lq: ∀j,(cs.toList.take (jM*k+0)++(Value.agg ⟨vs⟩).cells.toList++cs.toList.drop (jM*k+0+k)).toArray.getD j undef=if jM*k+0<=j/\j<jM*k+0+k then(vs[j-(jM*k+0)]?).getD undef else cs.getD j undef:=λj=>by
       rw[cK];simp only[];rw[e2,dW _ _ _ _ hval,c1];split
       ·rfl
       rw[cK]
      have NQ: ∀j,j<k-> ∃u,vs[j]?=some u/\(cs.toList.take (jM*k+0)++(Value.agg ⟨vs⟩).cells.toList++cs.toList.drop (jM*k+0+k)).toArray.getD (jM*k+j) undef=u:=λj hj=>by
       have yK:j<vs.length:=by rw[hl,<-q1,xF];exact hj
       refine⟨vs[j],zac yK,?_⟩;rw[lq,zat (by omega)];have e4:jM*k+j-(jM*k+0)=j:=by omega
       rw[e4,zac yK];rfl
      obtain⟨d1,d2⟩:=h.iG (e1:=⟨e.ay,e.tag,.bA ty (es.set jM (.agg ds)) (some (jM,ho,q))⟩) (g1:=G n)
       (w':=w.setRow b (cs.toList.take (jM*k+0)++(Value.agg ⟨vs⟩).cells.toList++cs.toList.drop (jM*k+0+k)).toArray) bV
       (λc hc bg=>ew w b _ c (λe'=>bg ⟨e,he,by rw[e',aP];simp[ax,hG,aj]⟩)) (by simp) rfl rfl rfl
       (λc hc=> .inr ⟨e,he,by rw[aP];exact hc⟩)
       (by
        rw[aJ];refine .inr ⟨b,cap,_,k,by rw[hG,zas],setRow_heap w b cs _ ty _ hh,rj,je,by rw[zas];exact sb,qU,?_,?_,?_⟩
        ·simp only[zbF];rw[e2,ff _ _ _ hval];simpa using cm
        ·intro m z hz;by_cases hm:jM=m
         ·subst hm;rw[zaF hi] at hz;cases hz;refine⟨xF,λc hc=> ?_,λj c hc b9=> ?_⟩
          ·obtain⟨j,hj⟩:=zao (show c∈ds from hc);rcases q3 j c hj with⟨_,rfl⟩| ⟨_,hp⟩
           ·rfl
           have yK:j<vs.length:=by rw[hl,<-q1];exact(zaa.1 hj).1
           have h4: ∀u,u.oneCell'=true->ao F w G s.rg u (.d c)->c.aK=true:=λu h5 h6=>by cases h6 with |d h6=>exact h6.aK h5
           exact h4 _ (Ce _ (za6 yK)) (FY j _ _ (zac yK) hp)
          have hj:j<k:=by rw[<-xF];exact(zaa.1 (show ds[j]?=some c from hc)).1
          obtain⟨u,hu,e5⟩:=NQ j hj;rw[e5];rcases q3 j c hc with⟨rfl,_⟩| ⟨_,hp⟩
          ·exact absurd rfl (b9 q)
          have h4:=FY j _ _ hu hp;have h5:ao F w G s.rg u (.d c)->az F w u c:=λh6=>by cases h6 with |d h6=>exact h6
          exact(h5 h4).mono (λ_ h=>h) hF
         rw[zau hm] at hz;obtain⟨z1,z2,z3⟩:=hE.1 m z hz;refine⟨z1,z2,λj c hc _=> ?_⟩;rw[lq];have hj:j<k:=by have:=(zaa.1 hc).1;omega
         have b9: ¬(jM*k+0<=m*k+j/\m*k+j<jM*k+0+k):=by
          intro OC;rcases zbB hm with bj |LQ
          ·have:(jM+1)*k<=m*k:=zag _ (by omega);rw[zaz,zaV] at this;omega
          have:(m+1)*k<=jM*k:=zag _ (by omega);rw[zaz,zaV] at this;omega
         rw[zaC b9];exact(z3 j c hc λp e=>by cases e;exact hm rfl).mono (λ_ h=>h) hF
        intro i' j' p' KS;cases KS;have hj:ho<k:=by rw[<-xF,q1];exact(zaa.1 q2).1
        obtain⟨u,hu,e5⟩:=NQ ho hj;rw[e5];exact⟨by rw[zas];exact hi,hj,Ce u (zak hu),(FY ho u q hu q2).mono (λ_ h=>h) hF jm⟩)
       (λi hi hl=>h.tag n e i he hi (by rw[aP];rfl))
      rw[aJ] at d1 d2;exact⟨d1,d2⟩
    cases hs
   cases hs
  split at hs
  next s1 x vA=>
   split at hs
   ·rename_i ty es ho;split at hs
    ·rename_i y k2 hy rj;split at hs
     ·rename_i cu;simp only[zad,zbd] at cu;obtain⟨⟨dV,xF⟩,hle⟩:=cu;have dV:k0=k2:=by simpa using dV
      have xF:x.cells.length=k:=by simpa using xF
      subst dV;simp only[zaf] at hs;subst hs;obtain⟨F1,a1,a2,a3,a4,a5⟩:=oV h vA hv;obtain⟨e,he,bL,aP⟩:=S.aI ho;have BX:=ha.mono a4 (λ_ _=>rfl) a3;cases BX with
      |bP _ _ _ _ _ _ h1 hr=>
       obtain⟨b,N,cap,hG,rfl⟩:=hr.at he bL (by rw[aP];rfl);have hO:=a1.rg n e he;rw[aP] at hO;rcases hO with⟨gH,_⟩| ⟨b',dU,cs,k3,gH,hh,BU,je,sb,qU,cm,_,hE⟩
       ·rw[hG] at gH;cases gH
       rw[rj] at BU;cases BU;rw[hG] at gH;simp at gH;obtain⟨rfl,rfl,rfl⟩:=gH;obtain⟨c1,c2,c3⟩:=cH a5;rw[xF] at c1;have hi:i<es.length:=(zaa.1 hy).1;obtain⟨y1,y2,y3⟩:=hE i y hy;have LP:i*k0+k0<=cs.size:=by
        rw[cm]
        calc i*k0+k0=(i+1)*k0:=by rw[zaz,zaV]
         _<=cap*k0:=zag _ (by omega)
       have fc:=gI a5;refine⟨_,F1,G,kz hk hh c1 (by omega) fc,?_⟩;rw[S.bb he];have EB: ¬F1 b:=a1.gG n e b he (by rw[aP];simp[ax,hG,aj]);have bV:jK G s1.rg n ⟨e.ay,e.tag,.arr ty false (es.set i (y.cg (y.cells.take off++x.cells++y.cells.drop (off+k))))⟩ (G n):=λe' bc=>by rw[he] at bc;cases bc;exact .inr ⟨rfl,λ_=>⟨by rw[aP];rfl,rfl⟩⟩
       have hF: ∀c,F1 c->(w.setRow b (cs.toList.take (i*k0+off)++v.cells.toList++cs.toList.drop (i*k0+off+k)).toArray).heap[c]?=w.heap[c]?:=λc hc=>ew w b _ c (λe=>EB (e▸hc));have KT:off+x.cells.length<=y.cells.length:=by omega
       have hval:i*k0+off+v.cells.toList.length<=cs.toList.length:=by rw[c1];simp;omega
       have e2:cs.toList.drop (i*k0+off+k)=cs.toList.drop (i*k0+off+v.cells.toList.length):=by rw[c1]
       have e3:y.cells.drop (off+k)=y.cells.drop (off+x.cells.length):=by rw[xF]
       have ED:(y.cells.take off++x.cells++y.cells.drop (off+k)).length=y.cells.length:=by rw[e3,ff _ _ _ KT]
       have FX: ∀c∈y.cells.take off++x.cells++y.cells.drop (off+k),c.aK=true:=λc hc=>by
        simp only[zaH] at hc;rcases hc with(hc |hc)|hc
        ·exact y2 c (zbO hc)
        ·exact c2 c hc
        exact y2 c (zbN hc)
       have OD:=D.jL (x:=y) ED FX;obtain⟨d1,d2⟩:=a1.iG (e1:=⟨e.ay,e.tag,.arr ty false (es.set i (y.cg (y.cells.take off++x.cells++y.cells.drop (off+k))))⟩) (g1:=G n)
        (w':=w.setRow b (cs.toList.take (i*k0+off)++v.cells.toList++cs.toList.drop (i*k0+off+k)).toArray) bV
        (λc hc bg=>ew w b _ c (λe'=>bg ⟨e,he,by rw[e',aP];simp[ax,hG,aj]⟩)) (by simp) rfl rfl rfl
        (λc hc=> .inr ⟨e,he,by rw[aP];exact hc⟩)
        (by
         rw[aJ];refine .inr ⟨b,cap,_,k0,by rw[hG,zas],setRow_heap w b cs _ ty _ hh,rj,je,by rw[zas];exact sb,qU,?_,(λh=>by cases h),?_⟩
         ·simp only[zbF];rw[e2,ff _ _ _ hval];simpa using cm
         intro m z hz;have lq: ∀j,(cs.toList.take (i*k0+off)++v.cells.toList++cs.toList.drop (i*k0+off+k)).toArray.getD j undef=if i*k0+off<=j/\j<i*k0+off+k then(v.cells.toList[j-(i*k0+off)]?).getD undef else cs.getD j undef:=λj=>by
          rw[cK];simp only[];rw[e2,dW _ _ _ _ hval,c1];split
          ·rfl
          rw[cK]
         by_cases hm:i=m
         ·subst hm;rw[zaF hi] at hz;cases hz;rw[OD];refine⟨by rw[ED,y1],FX,λj c hc=> ?_⟩;rw[e3,dW _ _ _ _ KT,xF] at hc;rw[lq];by_cases hj:off<=j/\j<off+k
          ·rw[zat hj] at hc;rw[zat (by omega)];have yK:j-off<v.cells.toList.length:=by omega
           have e4:i*k0+j-(i*k0+off)=j-off:=by omega
           rw[e4,zac yK];exact(c3 _ _ c (zac yK) hc).mono (λ_ h=>h) hF
          rw[zaC hj] at hc;rw[zaC (by omega)];exact(y3 j c hc).mono (λ_ h=>h) hF
         rw[zau hm] at hz;obtain⟨z1,z2,z3⟩:=hE m z hz;refine⟨z1,z2,λj c hc=> ?_⟩;rw[lq];have hj:j<k0:=by have:=(zaa.1 hc).1;omega
         have b9: ¬(i*k0+off<=m*k0+j/\m*k0+j<i*k0+off+k):=by
          intro OC;rcases zbB hm with bj |LQ
          ·have:(i+1)*k0<=m*k0:=zag _ (by omega);rw[zaz,zaV] at this;omega
          have:(m+1)*k0<=i*k0:=zag _ (by omega);rw[zaz,zaV] at this;omega
         rw[zaC b9];exact(z3 j c hc).mono (λ_ h=>h) hF)
        (λi hi hl=>a1.tag n e i he hi (by rw[aP];rfl))
       rw[aJ] at d1 d2;exact⟨d1,a2.trans d2⟩
     cases hs
    cases hs
   cases hs
  cases hs
 cases hs
end
end Pi
