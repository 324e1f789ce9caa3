/- The text PiEfOk3. -/
import Derived.Test.YtpiohccneeblhaaPiEfOk2
namespace Pi
open Go
section
variable{Q:Program}{T:Tg}{F:Nat->Prop}{G:Nat->Value}{w:World}{a:Act}{s:S}
theorem kz{t:TypeId}{k:Nat}(hk:sz Q t=some k){b o:Nat}{cs:Array Value}{ty:TypeId}(hh:w.heap[b]?=some (.cells cs ty (0,0))){v:Value}(hl:v.cells.toList.length=k)(hle:o+k<=cs.size)(h1: ∀u∈v.cells.toList,u.oneCell'=true):
  (Instr.storeAt t (.pointer (some ⟨b,o,none⟩)) v).run Q w= .ok () (w.setRow b (cs.toList.take o++v.cells.toList++cs.toList.drop (o+k)).toArray):=by
 have iO:=run_storeCells_at Q b o ty v.cells.toList 0 cs w hh (by omega) h1;simp only[zbJ,hl] at iO;have cp:v.cells.size=k:=by simpa using hl
 simp[Instr.storeAt,Instr.sureAddr,storeVar,Sem.run_bind,run_sizeOf hk,cp,iO]
theorem cK(cs:Array Value)(i:Nat):cs.getD i undef=(cs.toList[i]?).getD undef:=by simp[zav]
theorem ey(w:World)(b:Nat)(cs:Array Value)(c:Nat)(h:c≠b):(w.setRow b cs).heap[c]?=w.heap[c]?:=setRow_other w b c cs h
theorem pQ: ∀(j:Nat) (ps:List P) {ds:List D} {q:P},mn j ps=some (ds,q)->ds.length=ps.length/\ps[j]?=some q/\ ∀(i:Nat) (c:D),ds[i]?=some c->(i=j/\c= .bu)\/(i≠j/\ps[i]?=some (.d c))
 |0,[],ds,q,h=>by simp[mn] at h
 |0,p::r,ds,q,h=>by
  simp only[mn] at h;split at h
  next Pb hd=>
   cases h;refine⟨by rw[k8 _ _ hd];simp,rfl,λi c hc=> ?_⟩;cases i with
   |zero=>cases hc;exact .inl ⟨rfl,rfl⟩
   |succ i=>refine .inr ⟨by omega,?_⟩;rw[k8 _ _ hd];simpa using hc
  cases h
 |j+1,[],ds,q,h=>by simp[mn] at h
 |j+1,p::r,ds,q,h=>by
  cases p with
  |d x=>
   simp only[mn] at h;split at h
   ·rename_i Pb q1 hd;cases h;obtain⟨h1,h2,h3⟩:=pQ j r hd;refine⟨by simp[h1],by simpa using h2,λi c hc=> ?_⟩;cases i with
    |zero=>cases hc;exact .inr ⟨by omega,rfl⟩
    |succ i=>
     rcases h3 i c (by simpa using hc) with⟨e,e2⟩| ⟨e,e2⟩
     ·exact .inl ⟨by omega,e2⟩
     exact .inr ⟨by omega,by simpa using e2⟩
   cases h
  |_=>simp[mn] at h
theorem tQ{n v:Nat}{val:P}{ty:TypeId}{es:List D}{hi ho:Nat}{ds:List D}{q:P}(h:kY s n v val=some (ty,es,hi,ho,ds,q)): ∃p0 ps,s.obj n v=some (.bC ty es (some (hi,ho,p0)))/\val= .agg ps/\mn ho ps=some (ds,q):=by
 unfold kY at h;split at h
 next QR Bu Ll Lm p0 ps Ak=>
  split at h
  next QS q2 hd=>cases h;exact⟨p0,ps,Ak,rfl,hd⟩
  cases h
 cases h
theorem Al(h:aq Q T F G w a s){t:TypeId}{pa pv:P}{s':S}(hs:dH Q s t pa pv=some s'){va v:Value}(ha:ao F w G s.rg va pa)(hv:ao F w G s.rg v pv):
  ∃w' F' G',(Instr.storeAt t va v).run Q w= .ok () w'/\aq Q T F' G' w' a s'/\Ext (Own G s.rg) (Own G' s'.rg) F F' w w':=by
 unfold dH at hs;split at hs
 ·cases hs
 rename_i k hk;split at hs
 next n az off=>
  split at hs
  next s1 val cA=>
   split at hs
   ·rename_i ty ps ho;split at hs
    ·rename_i cv;simp only[zad,zbd] at cv;obtain⟨⟨hlen,hle⟩,eW⟩:=cv;have hlen:val.cells.length=k:=by simpa using hlen
     simp at hs;subst hs;obtain⟨G1,a1,a2,a3,a4⟩:=zf h cA hv;obtain⟨e,he,bN,aP⟩:=S.aJ ho;have Cd:=ha.mono (λ_ h=>h) (λ_ _=>rfl) a3;cases Cd with
     |ref _ _ _ _ hr h1=>
      obtain⟨b,hG,rfl⟩:=hr.at he bN (by rw[aP];rfl);have hO:=a1.rg n e he;rw[aP] at hO;obtain⟨b',cs,gH,hh,cp,aW,km⟩:=hO;rw[hG] at gH;simp at gH;subst gH;obtain⟨c1,c2,fc⟩:=pL a4 eW;rw[hlen] at c1;refine⟨_,F,G1,kz hk hh c1 (by omega) fc,?_⟩;rw[S.a8 he];have tP:b<w.heap.size:=(zap.1 hh).1;have ES: ¬F b:=a1.gG n e b he (by rw[aP];simp[ay,hG,aj]);have bX:jJ G1 s1.rg n ⟨e.az,e.tag,.box ty (splice ps off val.cells)⟩ (G1 n):=λe' bb=>by rw[he] at bb;cases bb;exact .inr ⟨rfl,λ_=>⟨by rw[aP];rfl,rfl⟩⟩
      have jm:=cI bX;rw[aK] at jm;have hF: ∀c,F c->(w.setRow b (cs.toList.take off++v.cells.toList++cs.toList.drop (off+k)).toArray).heap[c]?=w.heap[c]?:=λc hc=>ey w b _ c (λe=>ES (e▸hc));have JG:off+val.cells.length<=ps.length:=by omega
      have hval:off+v.cells.toList.length<=cs.toList.length:=by rw[c1];simp;omega
      have e2:cs.toList.drop (off+k)=cs.toList.drop (off+v.cells.toList.length):=by rw[c1]
      obtain⟨d1,d2⟩:=a1.iH (e1:=⟨e.az,e.tag,.box ty (splice ps off val.cells)⟩) (g1:=G1 n) (w':=w.setRow b (cs.toList.take off++v.cells.toList++cs.toList.drop (off+k)).toArray) bX
       (λc hc bg=>ey w b _ c (λe'=>bg ⟨e,he,by rw[e',aP];simp[ay,hG,aj]⟩)) (by simp) rfl rfl rfl
       (λc hc=> .inr ⟨e,he,by rw[aP];exact hc⟩)
       (by
        rw[aK];refine⟨b,_,hG,setRow_heap w b cs _ ty _ hh,?_,?_,?_⟩
        ·simp only[splice,zbF];rw[e2,ff _ _ _ hval,ff _ _ _ JG];simpa using cp
        ·intro c hc;simp only[zaH] at hc;rcases hc with(hc |hc)|hc
         ·exact aW c (zbP hc)
         ·exact fc c hc
         exact aW c (zbO hc)
        intro i p hp;simp only[splice] at hp;rw[dX _ _ _ _ JG] at hp;rw[cK];simp only[];rw[e2,dX _ _ _ _ hval,c1];rw[hlen] at hp;by_cases hi:off<=i/\i<off+k
        ·rw[zat hi] at hp⊢;have bj:i-off<v.cells.toList.length:=by omega
         rw[zac bj];exact(c2 _ _ p (zac bj) hp).mono (λ_ h=>h) hF jm
        rw[zaB hi] at hp⊢;have:=km i p hp;rw[cK] at this;exact this.mono (λ_ h=>h) hF jm)
       (λi hi hl=>a1.tag n e i he hi (by rw[aP];rfl))
      rw[aK] at d1 d2;exact⟨d1,a2.trans d2⟩
    cases hs
   cases hs
  cases hs
 next n az i k0 off=>
  split at hs
  next ty es jL ho ds q Mg=>
   obtain⟨p0,ps,Ak,rfl,Me⟩:=tQ Mg;obtain⟨q1,q2,q3⟩:=pQ _ _ Me;split at hs
   ·rename_i y k2 hy rn;split at hs
    ·rename_i cv;simp only[zad,zaI] at cv;obtain⟨⟨⟨⟨dW,xQ⟩,ET⟩,Hc⟩,JD⟩:=cv;have dW:=zab dW;have xQ:=zab xQ;have ET:=zab ET;have Hc:=zab Hc;subst dW Hc;rw[<-ET] at rn ha;clear ET;subst JD;simp only[zaf] at hs;subst hs;obtain⟨e,he,bN,aP⟩:=S.aJ Ak;cases hv with
     |agg vs _ hl Cv Gg=>
     cases ha with
     |bR _ _ _ _ _ _ h1 hr=>
      obtain⟨b,N,cap,hG,rfl⟩:=hr.at he bN (by rw[aP];rfl);have hO:=h.rg n e he;rw[aP] at hO;rcases hO with⟨gH,_⟩| ⟨b',dV,cs,k3,gH,hh,Ca,jS,sg,qX,cp,hE⟩
      ·rw[hG] at gH;cases gH
      rw[rn] at Ca;cases Ca;rw[hG] at gH;simp at gH;obtain⟨rfl,rfl,rfl⟩:=gH;have c1:(Value.agg ⟨vs⟩).cells.toList.length=k:=by show vs.length=k;rw[hl,<-q1,xQ]
      have hi:jL<es.length:=(zaa.1 hy).1;have Mh:jL*k+k<=cs.size:=by
       rw[cp]
       calc jL*k+k=(jL+1)*k:=by rw[zaz,zaV]
        _<=cap*k:=zah _ (by omega)
      refine⟨_,F,G,kz (v:= .agg ⟨vs⟩) hk hh c1 (by omega) Cv,?_⟩;rw[S.a8 he];have ES: ¬F b:=h.gG n e b he (by rw[aP];simp[ay,hG,aj]);have bX:jJ G s.rg n ⟨e.az,e.tag,.bC ty (es.set jL (.agg ds)) (some (jL,ho,q))⟩ (G n):=λe' bb=>by rw[he] at bb;cases bb;exact .inr ⟨rfl,λ_=>⟨by rw[aP];rfl,rfl⟩⟩
      have jm:=cI bX;rw[aK] at jm;have hF: ∀c,F c->(w.setRow b (cs.toList.take (jL*k+0)++(Value.agg ⟨vs⟩).cells.toList++cs.toList.drop (jL*k+0+k)).toArray).heap[c]?=w.heap[c]?:=λc hc=>ey w b _ c (λe=>ES (e▸hc));have hval:jL*k+0+(Value.agg ⟨vs⟩).cells.toList.length<=cs.toList.length:=by rw[c1];simp;omega
      have e2:cs.toList.drop (jL*k+0+k)=cs.toList.drop (jL*k+0+(Value.agg ⟨vs⟩).cells.toList.length):=by rw[c1]
      have lr: ∀j,(cs.toList.take (jL*k+0)++(Value.agg ⟨vs⟩).cells.toList++cs.toList.drop (jL*k+0+k)).toArray.getD j undef=if jL*k+0<=j/\j<jL*k+0+k then(vs[j-(jL*k+0)]?).getD undef else cs.getD j undef:=λj=>by
       rw[cK];simp only[];rw[e2,dX _ _ _ _ hval,c1];split
       ·rfl
       rw[cK]
      have Oo: ∀j,j<k-> ∃u,vs[j]?=some u/\(cs.toList.take (jL*k+0)++(Value.agg ⟨vs⟩).cells.toList++cs.toList.drop (jL*k+0+k)).toArray.getD (jL*k+j) undef=u:=λj hj=>by
       have yY:j<vs.length:=by rw[hl,<-q1,xQ];exact hj
       refine⟨vs[j],zac yY,?_⟩;rw[lr,zat (by omega)];have e4:jL*k+j-(jL*k+0)=j:=by omega
       rw[e4,zac yY];rfl
      obtain⟨d1,d2⟩:=h.iH (e1:=⟨e.az,e.tag,.bC ty (es.set jL (.agg ds)) (some (jL,ho,q))⟩) (g1:=G n)
       (w':=w.setRow b (cs.toList.take (jL*k+0)++(Value.agg ⟨vs⟩).cells.toList++cs.toList.drop (jL*k+0+k)).toArray) bX
       (λc hc bg=>ey w b _ c (λe'=>bg ⟨e,he,by rw[e',aP];simp[ay,hG,aj]⟩)) (by simp) rfl rfl rfl
       (λc hc=> .inr ⟨e,he,by rw[aP];exact hc⟩)
       (by
        rw[aK];refine .inr ⟨b,cap,_,k,by rw[hG,zas],setRow_heap w b cs _ ty _ hh,rn,jS,by rw[zas];exact sg,qX,?_,?_,?_⟩
        ·simp only[zbF];rw[e2,ff _ _ _ hval];simpa using cp
        ·intro m z hz;by_cases hm:jL=m
         ·subst hm;rw[zaE hi] at hz;cases hz;refine⟨xQ,λc hc=> ?_,λj c hc ca=> ?_⟩
          ·obtain⟨j,hj⟩:=zao (show c∈ds from hc);rcases q3 j c hj with⟨_,rfl⟩| ⟨_,hp⟩
           ·rfl
           have yY:j<vs.length:=by rw[hl,<-q1];exact(zaa.1 hj).1
           have h4: ∀u,u.oneCell'=true->ao F w G s.rg u (.d c)->c.aI=true:=λu h5 h6=>by cases h6 with |d h6=>exact h6.aI h5
           exact h4 _ (Cv _ (zaX yY)) (Gg j _ _ (zac yY) hp)
          have hj:j<k:=by rw[<-xQ];exact(zaa.1 (show ds[j]?=some c from hc)).1
          obtain⟨u,hu,e5⟩:=Oo j hj;rw[e5];rcases q3 j c hc with⟨rfl,_⟩| ⟨_,hp⟩
          ·exact absurd rfl (ca q)
          have h4:=Gg j _ _ hu hp;have h5:ao F w G s.rg u (.d c)->aA F w u c:=λh6=>by cases h6 with |d h6=>exact h6
          exact(h5 h4).mono (λ_ h=>h) hF
         rw[zau hm] at hz;obtain⟨z1,z2,z3⟩:=hE.1 m z hz;refine⟨z1,z2,λj c hc _=> ?_⟩;rw[lr];have hj:j<k:=by have:=(zaa.1 hc).1;omega
         have ca: ¬(jL*k+0<=m*k+j/\m*k+j<jL*k+0+k):=by
          intro Pc;rcases zbC hm with bj |Mi
          ·have:(jL+1)*k<=m*k:=zah _ (by omega);rw[zaz,zaV] at this;omega
          have:(m+1)*k<=jL*k:=zah _ (by omega);rw[zaz,zaV] at this;omega
         rw[zaB ca];exact(z3 j c hc λp e=>by cases e;exact hm rfl).mono (λ_ h=>h) hF
        intro i' j' p' Ln;cases Ln;have hj:ho<k:=by rw[<-xQ,q1];exact(zaa.1 q2).1
        obtain⟨u,hu,e5⟩:=Oo ho hj;rw[e5];exact⟨by rw[zas];exact hi,hj,Cv u (zak hu),(Gg ho u q hu q2).mono (λ_ h=>h) hF jm⟩)
       (λi hi hl=>h.tag n e i he hi (by rw[aP];rfl))
      rw[aK] at d1 d2;exact⟨d1,d2⟩
    cases hs
   cases hs
  split at hs
  next s1 x vK=>
   split at hs
   ·rename_i ty es ho;split at hs
    ·rename_i y k2 hy rn;split at hs
     ·rename_i cv;simp only[zad,zbd] at cv;obtain⟨⟨dW,xQ⟩,hle⟩:=cv;have dW:k0=k2:=by simpa using dW
      have xQ:x.cells.length=k:=by simpa using xQ
      subst dW;simp only[zaf] at hs;subst hs;obtain⟨F1,a1,a2,a3,a4,a5⟩:=oX h vK hv;obtain⟨e,he,bN,aP⟩:=S.aJ ho;have Cd:=ha.mono a4 (λ_ _=>rfl) a3;cases Cd with
      |bR _ _ _ _ _ _ h1 hr=>
       obtain⟨b,N,cap,hG,rfl⟩:=hr.at he bN (by rw[aP];rfl);have hO:=a1.rg n e he;rw[aP] at hO;rcases hO with⟨gH,_⟩| ⟨b',dV,cs,k3,gH,hh,Ca,jS,sg,qX,cp,_,hE⟩
       ·rw[hG] at gH;cases gH
       rw[rn] at Ca;cases Ca;rw[hG] at gH;simp at gH;obtain⟨rfl,rfl,rfl⟩:=gH;obtain⟨c1,c2,c3⟩:=cH a5;rw[xQ] at c1;have hi:i<es.length:=(zaa.1 hy).1;obtain⟨y1,y2,y3⟩:=hE i y hy;have Mh:i*k0+k0<=cs.size:=by
        rw[cp]
        calc i*k0+k0=(i+1)*k0:=by rw[zaz,zaV]
         _<=cap*k0:=zah _ (by omega)
       have fc:=gI a5;refine⟨_,F1,G,kz hk hh c1 (by omega) fc,?_⟩;rw[S.a8 he];have ES: ¬F1 b:=a1.gG n e b he (by rw[aP];simp[ay,hG,aj]);have bX:jJ G s1.rg n ⟨e.az,e.tag,.arr ty false (es.set i (y.cm (y.cells.take off++x.cells++y.cells.drop (off+k))))⟩ (G n):=λe' bb=>by rw[he] at bb;cases bb;exact .inr ⟨rfl,λ_=>⟨by rw[aP];rfl,rfl⟩⟩
       have hF: ∀c,F1 c->(w.setRow b (cs.toList.take (i*k0+off)++v.cells.toList++cs.toList.drop (i*k0+off+k)).toArray).heap[c]?=w.heap[c]?:=λc hc=>ey w b _ c (λe=>ES (e▸hc));have Lo:off+x.cells.length<=y.cells.length:=by omega
       have hval:i*k0+off+v.cells.toList.length<=cs.toList.length:=by rw[c1];simp;omega
       have e2:cs.toList.drop (i*k0+off+k)=cs.toList.drop (i*k0+off+v.cells.toList.length):=by rw[c1]
       have e3:y.cells.drop (off+k)=y.cells.drop (off+x.cells.length):=by rw[xQ]
       have EU:(y.cells.take off++x.cells++y.cells.drop (off+k)).length=y.cells.length:=by rw[e3,ff _ _ _ Lo]
       have Gf: ∀c∈y.cells.take off++x.cells++y.cells.drop (off+k),c.aI=true:=λc hc=>by
        simp only[zaH] at hc;rcases hc with(hc |hc)|hc
        ·exact y2 c (zbP hc)
        ·exact c2 c hc
        exact y2 c (zbO hc)
       have Pd:=D.jK (x:=y) EU Gf;obtain⟨d1,d2⟩:=a1.iH (e1:=⟨e.az,e.tag,.arr ty false (es.set i (y.cm (y.cells.take off++x.cells++y.cells.drop (off+k))))⟩) (g1:=G n)
        (w':=w.setRow b (cs.toList.take (i*k0+off)++v.cells.toList++cs.toList.drop (i*k0+off+k)).toArray) bX
        (λc hc bg=>ey w b _ c (λe'=>bg ⟨e,he,by rw[e',aP];simp[ay,hG,aj]⟩)) (by simp) rfl rfl rfl
        (λc hc=> .inr ⟨e,he,by rw[aP];exact hc⟩)
        (by
         rw[aK];refine .inr ⟨b,cap,_,k0,by rw[hG,zas],setRow_heap w b cs _ ty _ hh,rn,jS,by rw[zas];exact sg,qX,?_,(λh=>by cases h),?_⟩
         ·simp only[zbF];rw[e2,ff _ _ _ hval];simpa using cp
         intro m z hz;have lr: ∀j,(cs.toList.take (i*k0+off)++v.cells.toList++cs.toList.drop (i*k0+off+k)).toArray.getD j undef=if i*k0+off<=j/\j<i*k0+off+k then(v.cells.toList[j-(i*k0+off)]?).getD undef else cs.getD j undef:=λj=>by
          rw[cK];simp only[];rw[e2,dX _ _ _ _ hval,c1];split
          ·rfl
          rw[cK]
         by_cases hm:i=m
         ·subst hm;rw[zaE hi] at hz;cases hz;rw[Pd];refine⟨by rw[EU,y1],Gf,λj c hc=> ?_⟩;rw[e3,dX _ _ _ _ Lo,xQ] at hc;rw[lr];by_cases hj:off<=j/\j<off+k
          ·rw[zat hj] at hc;rw[zat (by omega)];have yY:j-off<v.cells.toList.length:=by omega
           have e4:i*k0+j-(i*k0+off)=j-off:=by omega
           rw[e4,zac yY];exact(c3 _ _ c (zac yY) hc).mono (λ_ h=>h) hF
          rw[zaB hj] at hc;rw[zaB (by omega)];exact(y3 j c hc).mono (λ_ h=>h) hF
         rw[zau hm] at hz;obtain⟨z1,z2,z3⟩:=hE m z hz;refine⟨z1,z2,λj c hc=> ?_⟩;rw[lr];have hj:j<k0:=by have:=(zaa.1 hc).1;omega
         have ca: ¬(i*k0+off<=m*k0+j/\m*k0+j<i*k0+off+k):=by
          intro Pc;rcases zbC hm with bj |Mi
          ·have:(i+1)*k0<=m*k0:=zah _ (by omega);rw[zaz,zaV] at this;omega
          have:(m+1)*k0<=i*k0:=zah _ (by omega);rw[zaz,zaV] at this;omega
         rw[zaB ca];exact(z3 j c hc).mono (λ_ h=>h) hF)
        (λi hi hl=>a1.tag n e i he hi (by rw[aP];rfl))
       rw[aK] at d1 d2;exact⟨d1,a2.trans d2⟩
     cases hs
    cases hs
   cases hs
  cases hs
 cases hs
end
end Pi
