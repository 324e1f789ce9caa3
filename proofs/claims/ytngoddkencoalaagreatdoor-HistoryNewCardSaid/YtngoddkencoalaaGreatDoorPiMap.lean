/- The text PiMap. -/
import Derived.Test.YtngoddkencoalaaGreatDoorPiEq
import Derived.MapKept
namespace Pi
open Go
mutual
theorem D.gV: ∀(x y:D),D.ob x y=true↔x=y
 | .bool a,y=>by cases y<;>simp[D.ob]
 | .int k a,y=>by cases y<;>simp[D.ob]
 | .str a,y=>by cases y<;>simp[D.ob]
 | .agg a,y=>by cases y<;>simp[D.ob,D.xb a]
 | .sl k a,y=>by cases y<;>simp[D.ob,D.xb a]
 | .fP,y=>by cases y<;>simp[D.ob]
 | .rh,y=>by cases y<;>simp[D.ob]
 | .sg,y=>by cases y<;>simp[D.ob]
 | .BZ,y=>by cases y<;>simp[D.ob]
 | .B0,y=>by cases y<;>simp[D.ob]
theorem D.xb: ∀(x y:List D),D.HB x y=true↔x=y
 | [],y=>by cases y<;>simp[D.HB]
 |x::xs,y=>by
  cases y with
  |nil=>simp[D.HB]
  |cons y ys=>simp[D.HB,D.gV x,D.xb xs]
end
theorem AN(k v:D)(get:D->Option D):cZ k v get k=some v:=by unfold cZ;rw[(D.gV k k).2 rfl];rfl
theorem Kc{k k':D}(v:D)(get:D->Option D)(h:k≠k'):cZ k v get k'=get k':=by
 unfold cZ;cases hb:D.ob k k' with
 |false=>rfl
 |true=>exact absurd ((D.gV k k').1 hb) h
theorem HU{Q:Program}{t:TypeId}{k:Nat}(h:sz Q t=some k):Q.cellsOf t=k:=by obtain⟨i,d,hi,_,rfl⟩:=gm h;unfold Program.cellsOf;rw[hi];rfl
theorem Pe{Q:Program}{t:TypeId}{xs ys:List D}{off:Nat}{x y:D}(V2:(dA Q t ||Nat.beq (Q.cellsOf t) 1)=true)(h1:jf Q t xs off=some x)(h2:jf Q t ys off=some y):
  x=y↔(xs.drop off).take (Q.cellsOf t)=(ys.drop off).take (Q.cellsOf t):=by
 unfold jf at h1 h2;cases hk:sz Q t with
 |none=>rw[hk] at h1;cases h1
 |some k=>
  rw[hk] at h1 h2;have e:=HU hk;rw[e] at V2⊢;simp only at h1 h2;cases ha:dA Q t with
  |true=>
   rw[ha] at h1 h2;simp only[zbb] at h1 h2;split at h1
   ·split at h2
    ·cases h1;cases h2;simp
    cases h2
   cases h1
  |false=>
   rw[ha] at h1 h2 V2;simp only[zaB,zbj] at h1 h2;have fV:k=1:=by simpa using V2
   subst fV;have l1:=(zad.1 h1).1;have l2:=(zad.1 h2).1;have e1:(xs.drop off).take 1=[x]:=by rw[za3 l1];simp[(zad.1 h1).2]
   have e2:(ys.drop off).take 1=[y]:=by rw[za3 l2];simp[(zad.1 h2).2]
   rw[e1,e2];simp
theorem xc{Q:Program}{go:TypeId->D->D->Option Bool}{xs ys:List D}{ri:Nat}(hx:xs.length=ri)(hy:ys.length=ri)
  {sh:TypeId->D->Bool} (mA: ∀t x y,sh t x=true->sh t y=true-> ∃c,go t x y=some c/\(c=true↔x=y)): ∀(fs:List Field) (off:Nat),oT Q off fs ri=true->off<=ri->
  (∀f∈fs,(!(f.name== "_")&&(dA Q f.type ||Nat.beq (Q.cellsOf f.type) 1)&&(match jf Q f.type xs f.offset with |some y=>sh f.type y |none=>false))=true)->
  (∀f∈fs,(!(f.name== "_")&&(dA Q f.type ||Nat.beq (Q.cellsOf f.type) 1)&&(match jf Q f.type ys f.offset with |some y=>sh f.type y |none=>false))=true)->
  ∃c,Ek Q go fs xs ys=some c/\(c=true↔xs.drop off=ys.drop off)
 | [],off,ht,hle,_,_=>by have:off=ri:=zaf ht;refine⟨true,rfl,?_⟩;rw[zcz (by omega),zcz (by omega)];simp
 |f::r,off,ht,hle,h1,h2=>by
  simp only[oT,zab] at ht;have ho:f.offset=off:=zaf ht.1;have V3:off+Q.cellsOf f.type<=ri:=by
   have: ∀(fs:List Field) (o:Nat),oT Q o fs ri=true->o<=ri:=by
    intro fs
    induction fs with
    |nil=>intro o h;exact Nat.le_of_eq (zaf h)
    |cons g gs ih=>intro o h;simp only[oT,zab] at h;have:=ih _ h.2;omega
   exact this r _ ht.2
  obtain⟨c,hc,jI⟩:=xc hx hy mA r _ ht.2 V3 (λg hg=>h1 g (by simp[hg])) (λg hg=>h2 g (by simp[hg]));have a1:=h1 f (by simp);have a2:=h2 f (by simp);simp only[zab] at a1 a2;obtain⟨⟨hn,V2⟩,b1⟩:=a1;obtain⟨_,b2⟩:=a2;have hn:(f.name== "_")=false:=by simpa using hn
  unfold Ek;rw[hn];simp only;cases p1:jf Q f.type xs f.offset with
  |none=>rw[p1] at b1;cases b1
  |some x=>
   cases p2:jf Q f.type ys f.offset with
   |none=>rw[p2] at b2;cases b2
   |some y=>
    rw[p1] at b1;rw[p2] at b2;obtain⟨a,ha,haa⟩:=mA f.type x y b1 b2;simp only[ha,hc];refine⟨a&&c,rfl,?_⟩;rw[zab,haa,jI,Pe V2 p1 p2,ho];have Pf: ∀l:List D,l.drop off=(l.drop off).take (Q.cellsOf f.type)++l.drop (off+Q.cellsOf f.type):=λl=>by rw[<-zc8,zbR]
    constructor
    ·rintro⟨e1,e2⟩;rw[Pf xs,Pf ys,e1,e2]
    intro e;refine⟨by rw[e],?_⟩;rw[<-zc8,<-zc8,e]
theorem p8{Q:Program}: ∀(n:Nat) (t:TypeId) (x y:D),iH Q n t x=true->iH Q n t y=true-> ∃c,VT Q n t x y=some c/\(c=true↔x=y)
 |0,_,_,_,h,_=>by simp[iH] at h
 |n+1,t,x,y,h1,h2=>by
  unfold iH at h1 h2;unfold VT;cases hd:Q.underlying t with
  |none=>rw[hd] at h1;simp at h1
  |some d=>
   rw[hd] at h1 h2;cases d with
   |bool=>
    cases x<;>try (simp at h1;done)
    cases y<;>try (simp at h2;done)
    exact⟨_,rfl,by simp⟩
   |int k=>
    cases x<;>try (simp at h1;done)
    cases y<;>try (simp at h2;done)
    rename_i k1 a k2 b;have e1:k=k1:=by simpa using h1
    have e2:k=k2:=by simpa using h2
    subst e1 e2;exact⟨a==b,by simp,by simp⟩
   |string=>
    cases x<;>try (simp at h1;done)
    cases y<;>try (simp at h2;done)
    exact⟨_,rfl,by simp⟩
   |struct fs=>
    cases x<;>try (simp at h1;done)
    cases y<;>try (simp at h2;done)
    rename_i xs ys;simp only[zab] at h1 h2;obtain⟨⟨⟨l1,t1⟩,s1⟩,f1⟩:=h1;obtain⟨⟨⟨l2,_⟩,_⟩,f2⟩:=h2;have s1:Q.stoodInHeld t=false:=by simpa using s1
    obtain⟨c,hc,jI⟩:=xc (Q:=Q) (go:=VT Q n) (xs:=xs) (ys:=ys) (zaf l1) (zaf l2) (sh:=iH Q n) (λt x y a b=>p8 n t x y a b) fs.toList 0 t1 (za6 _)
     (λf hf=>zbk.1 f1 f hf) (λf hf=>zbk.1 f2 f hf)
    refine⟨c,by simp only[s1];exact hc,?_⟩;rw[jI];simp
   |_=>simp at h1
theorem cy{Q:Program}{kt:TypeId}{k:D}(h:fQ Q kt k=true):iH Q 20 kt k=true/\(∀c∈k.cells,c.LV=true)/\ ∃v,k.cA=some v/\ ∀em,∃u,ax Q (Instr.checkKey em 10000 kt v)=some u:=by
 simp only[fQ,zab] at h;refine⟨h.1.1,zbk.1 h.1.2,?_⟩;have h2:=h.2;split at h2
 next v hv=>
  split at h2
  next a b ha hb=>exact⟨v,hv,λem=>by cases em;exact⟨_,ha⟩;exact⟨_,hb⟩⟩
  cases h2
 cases h2
theorem uH{Q:Program}{kt:TypeId}{k:D}{v:Value}(hs:iH Q 20 kt k=true)(hv:k.cA=some v): ∀(ks:List (D×D)) (es:List MapEntry) (i0:Nat),ks.length=es.length->
  (∀(i:Nat) (p:D×D) (e:MapEntry),ks[i]?=some p->es[i]?=some e->iH Q 20 kt p.1=true/\p.1.cA=some e.key)->
  ∃r,ax Q (Instr.findAsking kt v es i0)=some r/\((r=none/\ ∀p∈ks,p.1≠k)\/ ∃i p e,r=some (i0+i,e.val)/\ks[i]?=some p/\es[i]?=some e/\p.1=k)
 | [],[],i0,_,_=>⟨none,rfl,.inl ⟨rfl,by simp⟩⟩
 | [],e::es,i0,h,_=>by simp at h
 |p::ks,[],i0,h,_=>by simp at h
 |p::ks,e::es,i0,hl,h=>by
  obtain⟨h1,h2⟩:=h 0 p e rfl rfl;obtain⟨c,hc,jI⟩:=p8 20 kt k p.1 hs h1;have he:=fC 20 10000 kt k p.1 c v e.key (by omega) hc hv h2;unfold Instr.findAsking;have eq:Op.equal kt v e.key=Op.equalIn 10000 kt v e.key:=rfl;rw[aw,eq,he,zau];cases c with
  |true=>exact⟨_,rfl,.inr ⟨0,p,e,rfl,rfl,rfl,(jI.1 rfl).symm⟩⟩
  |false=>
   obtain⟨r,hr,uI⟩:=uH hs hv ks es (i0+1) (by simpa using hl) λi p e hp he=>h (i+1) p e (by simpa using hp) (by simpa using he);refine⟨r,hr,?_⟩;have dI:p.1≠k:=λe=>by have:=jI.2 e.symm;cases this
   rcases uI with⟨rfl,iq⟩| ⟨i,p',e',rfl,a,b,c⟩
   ·exact .inl ⟨rfl,λq hq=>by
     rcases zav.1 hq with rfl |hq
     ·exact dI
     exact iq q hq⟩
   exact .inr ⟨i+1,p',e',by rw[show i0+(i+1)=i0+1+i by omega],by simpa using a,by simpa using b,c⟩
theorem Ez{Q:Program}{kt:TypeId}{d:TypeDesc}(hd:Q.underlying kt=some d){v u:Value}{c:Bool}(h:Instr.sameNow d v u=some c):ax Q (Op.equal kt v u)=some c:=by
 have eq:Op.equal kt v u=Op.equalIn (9999+1) kt v u:=rfl;unfold Instr.sameNow at h;split at h
 ·split at h
  next hk=>subst hk;rw[eq,Op.equalIn,aw,aL hd];simp only[zau,zbb];exact h
  cases h
 ·rw[eq,Op.equalIn,aw,aL hd];exact h
 ·rw[eq,Op.equalIn,aw,aL hd];exact h
 cases h
theorem xd{Q:Program}{kt:TypeId}{d:TypeDesc}(hd:Q.underlying kt=some d){v:Value}: ∀(es:List MapEntry) (i:Nat) (r:Option (Nat×Value)),Instr.findNow d v es i=some r->ax Q (Instr.findAsking kt v es i)=some r
 | [],i,r,h=>by simp[Instr.findNow] at h;subst h;rfl
 |e::es,i,r,h=>by
  unfold Instr.findNow at h;unfold Instr.findAsking;split at h
  next hs=>simp only[zal] at h;subst h;rw[aw,Ez hd hs];rfl
  next hs=>rw[aw,Ez hd hs];exact xd hd es (i+1) r h
  cases h
theorem xe{Q:Program}{kt:TypeId}{k:D}{v:Value}(hs:iH Q 20 kt k=true)(hv:k.cA=some v){ks:List (D×D)}{es:List MapEntry}(hl:ks.length=es.length)
  (h: ∀(i:Nat) (p:D×D) (e:MapEntry),ks[i]?=some p->es[i]?=some e->iH Q 20 kt p.1=true/\p.1.cA=some e.key) (w:World):
  ∃r,(Instr.findKey kt v es).run Q w= .ok r w/\((r=none/\ ∀p∈ks,p.1≠k)\/ ∃i p e,r=some (i,e.val)/\ks[i]?=some p/\es[i]?=some e/\p.1=k):=by
 obtain⟨r,hr,uI⟩:=uH hs hv ks es 0 hl h;refine⟨r,?_,?_⟩
 ·have hd: ∃d,Q.underlying kt=some d:=by
   unfold iH at hs;cases hd:Q.underlying kt with
   |none=>rw[hd] at hs;simp at hs
   |some d=>exact⟨d,rfl⟩
  obtain⟨d,hd⟩:=hd;refine dD ?_ w;unfold Instr.findKey;rw[aw,aL hd,zau];cases hn:Instr.findNow d v es 0 with
  |none=>exact hr
  |some r'=>have:=xd hd es 0 r' hn;rw[hr] at this;cases this;rfl
 simpa using uI
theorem AO: ∀(x:D) (v:Value),(∀c∈x.cells,c.LV=true)->x.cA=some v->Instr.sameBits 10000 v v=true:=by
 have cell: ∀(n:Nat) (x:D) (v:Value),x.LV=true->x.gw=some v->Instr.sameBits (n+1) v v=true:=by
  intro n x v hl h;cases x<;>simp[D.gw] at h<;>simp[D.LV] at hl<;>subst h
  ·simp[Instr.sameBits]
  ·simp[Instr.sameBits]
  rename_i s;show((⟨⟨s⟩⟩:ByteArray)==⟨⟨s⟩⟩)=true;show((⟨s⟩:Array UInt8)==⟨s⟩)=true;simp
 intro x v L3 h;cases x with
 |agg cs=>
  simp only[D.cA] at h;split at h
  next vs L2=>
   simp only[zal] at h;subst h;simp only[Instr.sameBits,zbl,zaQ];rw[zbk];intro p hp;have: ∀(l:List Value) (p:Value×Value),p∈l.zip l->p.1=p.2/\p.1∈l:=by
    intro l
    induction l with
    |nil=>intro p hp;cases hp
    |cons y l ih=>
     intro p hp;rcases zav.1 hp with rfl |hp
     ·exact⟨rfl,by simp⟩
     have:=ih p hp;exact⟨this.1,by simp[this.2]⟩
   obtain⟨e1,e2⟩:=this vs p hp;obtain⟨a,b⟩:=p;simp only at e1 e2⊢;subst e1;obtain⟨i,hi,rfl⟩:=zaW e2;have hl:=Ey L2;obtain⟨u,h1,h2⟩:=xa (i:=i) (x:=cs[i]'(by omega)) L2 (by simp);rw[zae hi] at h1;cases h1;exact cell 9998 _ _ (L3 _ (by simp[D.cells])) h2
  cases h
 |bool b=>exact cell 9999 (.bool b) _ rfl h
 |int k n=>exact cell 9999 (.int k n) _ rfl h
 |str s=>exact cell 9999 (.str s) _ rfl h
 |_=>simp[D.cells,D.LV] at L3
section
variable{Q:Program}{T:Tg}{F:Nat->Prop}{G:Nat->Value}{w:World}{a:Act}{s:S}
theorem o8{t:TypeId}{z:D}(hz:ey Q t=some z)(w:World): ∃zv,(zeroValue t).run Q w= .ok zv w/\a8 F w zv z:=by
 unfold ey at hz;split at hz
 next i hi=>
  split at hz
  next zv Kd=>exact⟨zv,by simp[zeroValue,typeInfo,hi,Kd],a8.tM F w hz⟩
  cases hz
 cases hz
theorem iL{t kt e:TypeId}(h:jW Q t=some (kt,e)):Q.underlying t=some (.map kt e):=by
 unfold jW at h;split at h
 ·simp only[zal,zbC] at h;obtain⟨rfl,rfl⟩:=h;assumption
 cases h
theorem oA.look{kt:TypeId}{get:D->Option D}{n:Int}{es:List MapEntry}{clock:Nat}(h:oA Q F w kt get n es clock){k:D}{v:Value}(hk:fQ Q kt k=true)(hv:k.cA=some v):
  ∃r,(Instr.findKey kt v es).run Q w= .ok r w/\((r=none/\get k=none)\/ ∃i e y,r=some (i,e.val)/\es[i]?=some e/\e.key=v/\get k=some y/\a8 F w e.val y):=by
 obtain⟨ks,h1,h2,h3,h4,h5,h6,h7⟩:=h;obtain⟨r,hr,uI⟩:=xe (cy hk).1 hv h1 (λi p e hp he=>⟨(cy (h3 i p e hp he).1).1,(h3 i p e hp he).2.1⟩) w;refine⟨r,hr,?_⟩;rcases uI with⟨rfl,iq⟩| ⟨i,p,e,rfl,hp,he,hpk⟩
 ·refine .inl ⟨rfl,?_⟩;cases hg:get k with
  |none=>rfl
  |some y=>exact absurd rfl (iq _ ((h5 k y).1 hg))
 obtain⟨_,a2,a3⟩:=h3 i p e hp he;refine .inr ⟨i,e,p.2,rfl,he,?_,(h5 k p.2).2 ?_,a3⟩
 ·rw[hpk,hv] at a2;exact(zb2 a2).symm
 rw[<-hpk];exact zaC hp
theorem EA(h:aD Q T F G w a s){n aY:Nat}{v:Value}{kt:Nat}{get:D->Option D}{c:Int}{last:Bool}(hv:aF F w G s.rg v (.mp n aY))(ho:s.obj n aY=some (.map kt get c last)):
  ∃e,lk s.rg n=some e/\e.aY=aY/\e.obj= .map kt get c last/\v=G n/\ ∃b es clock,G n= .map (some b)/\w.heap[b]?=some (.map es clock)/\oA Q F w kt get c es.toList clock:=by
 obtain⟨e,he,dR,bV⟩:=S.bJ ho;cases hv with
 |mp _ _ _ _ hr=>obtain⟨e',cK,hle,hc⟩:=hr;rw[he] at cK;cases cK;have hv:=hc dR.symm (by rw[bV];rfl);have:=h.rg n e he;rw[bV] at this;obtain⟨b,es,clock,h1,h2,h3,_⟩:=this;exact⟨e,he,dR,bV,hv,b,es,clock,h1,h2,h3⟩
theorem Pg(h:aD Q T F G w a s){n aY:Nat}{v:Value}{kt:Nat}{get:D->Option D}{c:Int}{p:P}{kd:D}(hv:aF F w G s.rg v (.mp n aY))(ho:s.obj n aY=some (.j7 kt get c p kd)):
  ∃e,lk s.rg n=some e/\e.aY=aY/\e.obj= .j7 kt get c p kd/\v=G n/\ ∃b es clock,G n= .map (some b)/\w.heap[b]?=some (.map es clock)/\oA Q F w kt get c es.toList clock/\ ∃(i:Nat) (en:MapEntry),es[i]?=some en/\aF F w G s.rg (.int .i64 (en.born:Int)) p/\kd.cA=some en.key/\(get kd).isSome=true:=by
 obtain⟨e,he,dR,bV⟩:=S.bJ ho;cases hv with
 |mp _ _ _ _ hr=>obtain⟨e',cK,hle,hc⟩:=hr;rw[he] at cK;cases cK;have hv:=hc dR.symm (by rw[bV];rfl);have:=h.rg n e he;rw[bV] at this;obtain⟨b,es,clock,h1,h2,h3,h4⟩:=this;exact⟨e,he,dR,bV,hv,b,es,clock,h1,h2,h3,h4⟩
theorem HV(h:aD Q T F G w a s){t kt e:TypeId}{p i q:P}{ok:Bool}{z:D}(ht:jW Q t=some (kt,e))(hz:ey Q e=some z){v u:Value}(hv:aF F w G s.rg v p)(hu:aF F w G s.rg u i)
  (hq:eB Q s t p i ok z=some q): ∃r,(Instr.lookup t v u ok).run Q w= .ok r w/\aF F w G s.rg r q:=by
 have od:=iL ht;obtain⟨zv,AP,GY⟩:=o8 (F:=F) hz w;have two: ∀(v1:Value) (x:D) (b:Bool),a8 F w v1 x->aF F w G s.rg (.tuple #[v1,.bool b]) (.cX [.d x,.d (.bool b)]):=λv1 x b hx=>
  .cX [v1,.bool b] _ rfl (λi v c hv hc=>by
   match i with
   |0=>simp at hv hc;subst hv;subst hc;exact .d hx
   |1=>simp at hv hc;subst hv;subst hc;exact .d (.bool b)
   |i+2=>simp at hv)
 unfold eB at hq;rw[ht] at hq;split at hq
 next zK e' n aY k Ke=>
  simp only[zal,zbC] at Ke;obtain⟨rfl,rfl⟩:=Ke;split at hq
  next kt2 get c last ho=>
   split at hq
   ·rename_i hc;simp only[zab] at hc;have DW:=zaf hc.1;subst DW;obtain⟨_,_,⟨kv,xf,Ce⟩⟩:=cy hc.2;have hu':u=kv:=hu.cA (p:= .d k) xf;subst hu';obtain⟨e0,_,_,_,AQ,b,es,clock,hG,hb,hM⟩:=EA h hv ho;rw[hG] at AQ;subst AQ;obtain⟨ck,oe⟩:=Ce es.isEmpty;have oe:=dD oe w;obtain⟨r,hr,uI⟩:=hM.look hc.2 xf;rcases uI with⟨rfl,hg⟩| ⟨j,en,y,rfl,_,_,hg,hy⟩
    ·rw[hg] at hq;cases ok with
     |true=>simp at hq;subst hq;exact⟨.tuple #[zv,.bool false],by simp[Instr.lookup,run_underlying od,MapKept.run_getObj_map hb,oe,hr,AP],two _ _ _ GY⟩
     |false=>simp at hq;subst hq;exact⟨zv,by simp[Instr.lookup,run_underlying od,MapKept.run_getObj_map hb,oe,hr,AP],.d GY⟩
    rw[hg] at hq;cases ok with
    |true=>simp at hq;subst hq;exact⟨.tuple #[en.val,.bool true],by simp[Instr.lookup,run_underlying od,MapKept.run_getObj_map hb,oe,hr],two _ _ _ hy⟩
    |false=>simp at hq;subst hq;exact⟨en.val,by simp[Instr.lookup,run_underlying od,MapKept.run_getObj_map hb,oe,hr],.d hy⟩
   cases hq
  next kt2 get c pE kdE ho=>
   split at hq
   ·rename_i hc;simp only[zab,zbu] at hc;obtain⟨⟨nf,DW⟩,Vb⟩:=hc;have DW:=zaf DW;subst DW;subst nf;obtain⟨_,_,⟨kv,xf,Ce⟩⟩:=cy Vb;have hu':u=kv:=hu.cA (p:= .d k) xf;subst hu';obtain⟨e0,_,_,_,AQ,b,es,clock,hG,hb,hM,_⟩:=Pg h hv ho;rw[hG] at AQ;subst AQ;obtain⟨ck,oe⟩:=Ce es.isEmpty;have oe:=dD oe w;obtain⟨r,hr,uI⟩:=hM.look Vb xf;rcases uI with⟨rfl,hg⟩| ⟨j,en,y,rfl,_,_,hg,hy⟩
    ·rw[hg] at hq;simp at hq;subst hq;exact⟨zv,by simp[Instr.lookup,run_underlying od,MapKept.run_getObj_map hb,oe,hr,AP],.d GY⟩
    rw[hg] at hq;simp at hq;subst hq;exact⟨en.val,by simp[Instr.lookup,run_underlying od,MapKept.run_getObj_map hb,oe,hr],.d hy⟩
   cases hq
  cases hq
 next zK e' k Ke=>
  simp only[zal,zbC] at Ke;obtain⟨rfl,rfl⟩:=Ke;split at hq
  next hc=>
   obtain⟨V2,_,⟨kv,xf,Ce⟩⟩:=cy hc;have hu':u=kv:=hu.cA (p:= .d k) xf;subst hu';have Kb:v= .map none:=hv.cA (p:= .d .sg) rfl;subst Kb;obtain⟨ck,oe⟩:=Ce true;have oe:=dD oe w;obtain⟨r,hr,uI⟩:=xe (ks:=[]) (es:=[]) V2 xf rfl (λi p e hp=>by simp at hp) w;have tF:r=none:=by
    rcases uI with⟨rfl,_⟩| ⟨i,p,e,_,hp,_⟩
    ·rfl
    simp at hp
   subst tF;cases ok with
   |true=>simp at hq;subst hq;exact⟨.tuple #[zv,.bool false],by simp[Instr.lookup,run_underlying od,oe,hr,AP],two _ _ _ GY⟩
   |false=>simp at hq;subst hq;exact⟨zv,by simp[Instr.lookup,run_underlying od,oe,hr,AP],.d GY⟩
  cases hq
 cases hq
theorem a8.Kf(F:Nat->Prop)(w:World){x:D}{v:Value}(h:x.gw=some v):a8 F w v x:=by cases x<;>simp[D.gw] at h<;>subst h<;>constructor
theorem Kg: ∀(cs:List D) (vs:List Value),D.c8 cs=some vs->vs.length=cs.length/\ ∀(i:Nat) (v:Value) (c:D),vs[i]?=some v->cs[i]?=some c->c.gw=some v
 | [],vs,h=>by simp[D.c8] at h;subst h;exact⟨rfl,λi v c hv=>by simp at hv⟩
 |x::r,vs,h=>by
  simp only[D.c8] at h;split at h
  next v1 vs1 h1 h2=>
   simp at h;subst h;obtain⟨k1,k2⟩:=Kg r vs1 h2;refine⟨by simp[k1],λi v c hv hc=> ?_⟩;cases i with
   |zero=>simp at hv hc;subst hv;subst hc;exact h1
   |succ i=>exact k2 i v c (by simpa using hv) (by simpa using hc)
  cases h
theorem a8.Ph(F:Nat->Prop)(w:World){x:D}{v:Value}(h:x.cA=some v):a8 F w v x:=by
 cases x with
 |agg cs=>
  simp only[D.cA] at h;split at h
  next vs L2=>
   simp at h;subst h;obtain⟨k1,k2⟩:=Kg cs vs L2;refine .agg vs cs k1 (λc hc=> ?_) λi v c hv hc=>a8.Kf F w (k2 i v c hv hc);obtain⟨i,hi⟩:=zaS hc;have bI:i<vs.length:=by have:=(zad.1 hi).1;omega
   have:=k2 i _ c (zae bI) hi;cases c<;>first |rfl |simp[D.gw] at this
  cases h
 |_=>exact a8.Kf F w h
theorem xg(e:MapEntry): ∀l:List MapEntry,e∈l->(l.map (·.born)).Nodup->l.find? (λx=>x.born==e.born)=some e
 | [],h,_=>by cases h
 |x::r,h,hn=>by
  rw[zbm,za8] at hn;rw[List.find?_cons];rcases zav.1 h with rfl |h
  ·simp
  have dI:x.born≠e.born:=λhx=>hn.1 (zaA.2 ⟨e,h,hx.symm⟩);have:(x.born==e.born)=false:=by simpa using dI
  rw[this];exact xg e r h hn.2
theorem Cf{r m since:Nat}{seen:Array Nat}{es:Array MapEntry}{clock:Nat}{e:MapEntry}(hr:w.heap[r]?=some (.mapIter (some m) since (seen.push e.born) clock))(hm:w.heap[m]?=some (.map es clock))(he:e∈es.toList)(hn:(es.toList.map (·.born)).Nodup):
  (Instr.entry (.pointer (some ⟨r,0,none⟩))).run Q w= .ok (.tuple #[e.key,e.val]) w:=by
 have hf:es.find? (λx=>x.born==e.born)=some e:=by rw[<-Array.find?_toList];exact xg e _ he hn
 have hc:(clock !=clock)=false:=by simp
 simp only[Instr.entry,getObj,Sem.run_bind,Sem.run,hr,hm,Result.andThen,Array.back?_push,hc,zaB,zbj,hf];rfl
theorem L4(h:aD Q T F G w a s){p q:P}{v:Value}(hv:aF F w G s.rg v p)(hq:oV s p=some q): ∃r,(Instr.entry v).run Q w= .ok r w/\aF F w G s.rg r q:=by
 unfold oV at hq;split at hq
 next n aY=>
  split at hq
  next kt vt left k x ho=>
   simp only[zal] at hq;subst hq;obtain⟨e,he,dR,bV⟩:=S.bJ ho;have hO:=h.rg n e he;rw[bV] at hO;obtain⟨b,mo,since,seen,last,hg,hh,hO⟩:=hO;cases hv with
   |ref _ _ _ _ hr h1=>
    obtain⟨b',GZ,rfl⟩:=hr.at he dR (by rw[bV];rfl);rw[hg] at GZ;simp at GZ;subst GZ;rcases hO with⟨_,_,hc⟩| ⟨m,es,rfl,hF,hm,Pj,⟨ks,g1,g3,g4,g5,g6,g7⟩,hc⟩
    ·cases hc
    subst Pj;obtain⟨en,mJ,jY,hk,hx⟩:=hc k x rfl;obtain⟨sn,rfl⟩:=Array.back?_eq_some_iff.1 jY;refine⟨_,Cf hh hm mJ g6,.cX [en.key,en.val] _ rfl λi v c hv hc=> ?_⟩
    match i with
    |0=>simp at hv hc;subst hv;subst hc;exact .d (a8.Ph F w hk)
    |1=>simp at hv hc;subst hv;subst hc;exact .d hx
    |i+2=>simp at hv
  cases hq
 cases hq
end
end Pi
