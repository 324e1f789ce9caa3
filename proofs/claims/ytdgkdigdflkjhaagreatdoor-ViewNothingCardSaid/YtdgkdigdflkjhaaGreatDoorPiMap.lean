/- The text PiMap. -/
import Derived.Test.YtdgkdigdflkjhaaGreatDoorPiEq
import Derived.MapKept
namespace Pi
open Go
mutual
theorem D.bS: ∀(x y:D),D.gH x y=true↔x=y
 | .bool a,y=>by cases y<;>simp[D.gH]
 | .int k a,y=>by cases y<;>simp[D.gH]
 | .str a,y=>by cases y<;>simp[D.gH]
 | .agg a,y=>by cases y<;>simp[D.gH,D.zA a]
 | .sl k a,y=>by cases y<;>simp[D.gH,D.zA a]
 | .e9,y=>by cases y<;>simp[D.gH]
 | .sW,y=>by cases y<;>simp[D.gH]
 | .ui,y=>by cases y<;>simp[D.gH]
 | .ES,y=>by cases y<;>simp[D.gH]
 | .ET,y=>by cases y<;>simp[D.gH]
theorem D.zA: ∀(x y:List D),D.Lh x y=true↔x=y
 | [],y=>by cases y<;>simp[D.Lh]
 |x::xs,y=>by
  cases y with
  |nil=>simp[D.Lh]
  |cons y ys=>simp[D.Lh,D.bS x,D.zA xs]
end
theorem Dq k v get:aX k v get k=some v:=by unfold aX;rw[(D.bS k k).2 rfl];rfl
theorem NH{k k'} v get (h:k≠k'):aX k v get k'=get k':=by
 unfold aX;cases hb:D.gH k k' with
 |false=>rfl
 |true=>exact absurd ((D.bS k k').1 hb) h
theorem Ly{Q t k}(h:sz Q t=some k):Q.cellsOf t=k:=by obtain⟨i,d,hi,_,rfl⟩:=gN h;unfold Program.cellsOf;rw[hi];rfl
theorem TP{Q t xs ys off}{x y}(hsh:(dT Q t ||Nat.beq (Q.cellsOf t) 1)=true)(h1:jI Q t xs off=some x)(h2:jI Q t ys off=some y):
  x=y↔(xs.drop off).take (Q.cellsOf t)=(ys.drop off).take (Q.cellsOf t):=by
 unfold jI at h1 h2;cases hk:sz Q t with
 |none=>rw[hk] at h1;cases h1
 |some k=>
  rw[hk] at h1 h2;have e:=Ly hk;rw[e] at hsh⊢;simp only at h1 h2;cases ha:dT Q t with
  |true=>
   rw[ha] at h1 h2;simp only[zbo] at h1 h2;split at h1
   ·split at h2
    ·cases h1;cases h2;simp
    cases h2
   cases h1
  |false=>
   rw[ha] at h1 h2 hsh;simp only[zaE,zbn] at h1 h2;have fU:k=1:=by simpa using hsh
   subst fU;have l1:=(zae.1 h1).1;have l2:=(zae.1 h2).1;have e1:(xs.drop off).take 1=[x]:=by rw[za5 l1];simp[(zae.1 h1).2]
   have e2:(ys.drop off).take 1=[y]:=by rw[za5 l2];simp[(zae.1 h2).2]
   rw[e1,e2];simp
theorem zB{Q go xs ys rU}(hx:xs.length=rU)(hy:ys.length=rU)
  {sh:TypeId->D->Bool} (lI: ∀t x y,sh t x=true->sh t y=true-> ∃c,go t x y=some c/\(c=true↔x=y)): ∀fs off,qp Q off fs rU=true->off<=rU->
  (∀f∈fs,(!(f.name== "_")&&(dT Q f.type ||Nat.beq (Q.cellsOf f.type) 1)&&(match jI Q f.type xs f.offset with |some y=>sh f.type y |none=>false))=true)->
  (∀f∈fs,(!(f.name== "_")&&(dT Q f.type ||Nat.beq (Q.cellsOf f.type) 1)&&(match jI Q f.type ys f.offset with |some y=>sh f.type y |none=>false))=true)->
  ∃c,HO Q go fs xs ys=some c/\(c=true↔xs.drop off=ys.drop off)
 | [],off,ht,hle,_,_=>by have:off=rU:=zag ht;refine⟨true,rfl,?_⟩;rw[zcT (by omega),zcT (by omega)];simp
 |f::r,off,ht,hle,h1,h2=>by
  simp only[qp,zac] at ht;have ho:f.offset=off:=zag ht.1;have qai:off+Q.cellsOf f.type<=rU:=by
   have: ∀(fs:List Field) (o:Nat),qp Q o fs rU=true->o<=rU:=by
    intro fs
    induction fs with
    |nil=>intro o h;exact Nat.le_of_eq (zag h)
    |cons g gs ih=>intro o h;simp only[qp,zac] at h;have:=ih _ h.2;omega
   exact this r _ ht.2
  obtain⟨c,hc,lF⟩:=zB hx hy lI r _ ht.2 qai (λg hg=>h1 g (by simp[hg])) (λg hg=>h2 g (by simp[hg]));have a1:=h1 f (by simp);have a2:=h2 f (by simp);simp only[zac] at a1 a2;obtain⟨⟨hn,hsh⟩,b1⟩:=a1;obtain⟨_,b2⟩:=a2;have hn:(f.name== "_")=false:=by simpa using hn
  unfold HO;rw[hn];simp only;cases p1:jI Q f.type xs f.offset with
  |none=>rw[p1] at b1;cases b1
  |some x=>
   cases p2:jI Q f.type ys f.offset with
   |none=>rw[p2] at b2;cases b2
   |some y=>
    rw[p1] at b1;rw[p2] at b2;obtain⟨a,ha,haa⟩:=lI f.type x y b1 b2;simp only[ha,hc];refine⟨a&&c,rfl,?_⟩;rw[zac,haa,lF,TP hsh p1 p2,ho];have TQ: ∀l:List D,l.drop off=(l.drop off).take (Q.cellsOf f.type)++l.drop (off+Q.cellsOf f.type):=λl=>by rw[<-zdx,zbJ]
    constructor
    ·rintro⟨e1,e2⟩;rw[TQ xs,TQ ys,e1,e2]
    intro e;refine⟨by rw[e],?_⟩;rw[<-zdx,<-zdx,e]
theorem k9{Q}: ∀n t x y,jh Q n t x=true->jh Q n t y=true-> ∃c,eqD Q n t x y=some c/\(c=true↔x=y)
 |0,_,_,_,h,_=>by simp[jh] at h
 |n+1,t,x,y,h1,h2=>by
  unfold jh at h1 h2;unfold eqD;cases hd:Q.underlying t with
  |none=>rw[hd] at h1;simp at h1
  |some d=>
   rw[hd] at h1 h2;cases d with
   |bool=>
    cases x<;>try (simp at h1;done)
    cases y<;>try (simp at h2;done)
    exact⟨_,rfl,by simp⟩
   |int k=>
    cases x<;>try (simp at h1;done)
    cases y<;>try (simp at h2;done)
    rename_i k1 a k2 b;have e1:k=k1:=by simpa using h1
    have e2:k=k2:=by simpa using h2
    subst e1 e2;exact⟨a==b,by simp,by simp⟩
   |string=>
    cases x<;>try (simp at h1;done)
    cases y<;>try (simp at h2;done)
    exact⟨_,rfl,by simp⟩
   |struct fs=>
    cases x<;>try (simp at h1;done)
    cases y<;>try (simp at h2;done)
    rename_i xs ys;simp only[zac] at h1 h2;obtain⟨⟨⟨l1,t1⟩,s1⟩,f1⟩:=h1;obtain⟨⟨⟨l2,_⟩,_⟩,f2⟩:=h2;have s1:Q.stoodInHeld t=false:=by simpa using s1
    obtain⟨c,hc,lF⟩:=zB (Q:=Q) (go:=eqD Q n) (xs:=xs) (ys:=ys) (zag l1) (zag l2) (sh:=jh Q n) (λt x y a b=>k9 n t x y a b) fs.toList 0 t1 (zbd _)
     (λf hf=>zbj.1 f1 f hf) (λf hf=>zbj.1 f2 f hf)
    refine⟨c,by simp only[s1];exact hc,?_⟩;rw[lF];simp
   |_=>simp at h1
theorem bQ{Q kt k}(h:fp Q kt k=true):jh Q 20 kt k=true/\(∀c∈k.cells,c.Qb=true)/\ ∃v,k.cD=some v/\ ∀em,∃u,ax Q (Instr.checkKey em 10000 kt v)=some u:=by
 simp only[fp,zac] at h;refine⟨h.1.1,zbj.1 h.1.2,?_⟩;have h2:=h.2;split at h2
 next v hv=>
  split at h2
  next a b ha hb=>exact⟨v,hv,λem=>by cases em;exact⟨_,ha⟩;exact⟨_,hb⟩⟩
  cases h2
 cases h2
theorem wY{Q kt k v}(hs:jh Q 20 kt k=true)(hv:k.cD=some v): ∀(ks:List (D×D)) (es:List MapEntry) (i0:Nat),ks.length=es.length->
  (∀(i:Nat) (p:D×D) (e:MapEntry),ks[i]?=some p->es[i]?=some e->jh Q 20 kt p.1=true/\p.1.cD=some e.key)->
  ∃r,ax Q (Instr.findAsking kt v es i0)=some r/\((r=none/\ ∀p∈ks,p.1≠k)\/ ∃i p e,r=some (i0+i,e.val)/\ks[i]?=some p/\es[i]?=some e/\p.1=k)
 | [],[],i0,_,_=>⟨none,rfl,.inl ⟨rfl,by simp⟩⟩
 | [],e::es,i0,h,_=>by simp at h
 |p::ks,[],i0,h,_=>by simp at h
 |p::ks,e::es,i0,hl,h=>by
  obtain⟨h1,h2⟩:=h 0 p e rfl rfl;obtain⟨c,hc,lF⟩:=k9 20 kt k p.1 hs h1;have he:=dN 20 10000 kt k p.1 c v e.key (by omega) hc hv h2;unfold Instr.findAsking;have eq:Op.equal kt v e.key=Op.equalIn 10000 kt v e.key:=rfl;rw[aw,eq,he,zaw];cases c with
  |true=>exact⟨_,rfl,.inr ⟨0,p,e,rfl,rfl,rfl,(lF.1 rfl).symm⟩⟩
  |false=>
   obtain⟨r,hr,vK⟩:=wY hs hv ks es (i0+1) (by simpa using hl) λi p e hp he=>h (i+1) p e (by simpa using hp) (by simpa using he);refine⟨r,hr,?_⟩;have cO:p.1≠k:=λe=>by have:=lF.2 e.symm;cases this
   rcases vK with⟨rfl,ix⟩| ⟨i,p',e',rfl,a,b,c⟩
   ·exact .inl ⟨rfl,λq hq=>by
     rcases zat.1 hq with rfl |hq
     ·exact cO
     exact ix q hq⟩
   exact .inr ⟨i+1,p',e',by rw[show i0+(i+1)=i0+1+i by omega],by simpa using a,by simpa using b,c⟩
theorem H0{Q kt d}(hd:Q.underlying kt=some d){v u c}(h:Instr.sameNow d v u=some c):ax Q (Op.equal kt v u)=some c:=by
 have eq:Op.equal kt v u=Op.equalIn (9999+1) kt v u:=rfl;unfold Instr.sameNow at h;split at h
 ·split at h
  next hk=>subst hk;rw[eq,Op.equalIn,aw,aK hd];simp only[zaw,zbo];exact h
  cases h
 ·rw[eq,Op.equalIn,aw,aK hd];exact h
 ·rw[eq,Op.equalIn,aw,aK hd];exact h
 cases h
theorem zC{Q kt d}(hd:Q.underlying kt=some d){v}: ∀es i r,Instr.findNow d v es i=some r->ax Q (Instr.findAsking kt v es i)=some r
 | [],i,r,h=>by simp[Instr.findNow] at h;subst h;rfl
 |e::es,i,r,h=>by
  unfold Instr.findNow at h;unfold Instr.findAsking;split at h
  next hs=>simp only[zam] at h;subst h;rw[aw,H0 hd hs];rfl
  next hs=>rw[aw,H0 hd hs];exact zC hd es (i+1) r h
  cases h
theorem zD{Q kt k v}(hs:jh Q 20 kt k=true)(hv:k.cD=some v){ks:List (D×D)}{es}(hl:ks.length=es.length)
  (h: ∀(i:Nat) (p:D×D) (e:MapEntry),ks[i]?=some p->es[i]?=some e->jh Q 20 kt p.1=true/\p.1.cD=some e.key) w:
  ∃r,(Instr.findKey kt v es).run Q w= .ok r w/\((r=none/\ ∀p∈ks,p.1≠k)\/ ∃i p e,r=some (i,e.val)/\ks[i]?=some p/\es[i]?=some e/\p.1=k):=by
 obtain⟨r,hr,vK⟩:=wY hs hv ks es 0 hl h;refine⟨r,?_,?_⟩
 ·have hd: ∃d,Q.underlying kt=some d:=by
   unfold jh at hs;cases hd:Q.underlying kt with
   |none=>rw[hd] at hs;simp at hs
   |some d=>exact⟨d,rfl⟩
  obtain⟨d,hd⟩:=hd;refine db ?_ w;unfold Instr.findKey;rw[aw,aK hd,zaw];cases hn:Instr.findNow d v es 0 with
  |none=>exact hr
  |some r'=>have:=zC hd es 0 r' hn;rw[hr] at this;cases this;rfl
 simpa using vK
theorem Dr: ∀(x:D) (v:Value),(∀c∈x.cells,c.Qb=true)->x.cD=some v->Instr.sameBits 10000 v v=true:=by
 have cell: ∀(n:Nat) (x:D) (v:Value),x.Qb=true->x.gG=some v->Instr.sameBits (n+1) v v=true:=by
  intro n x v hl h;cases x<;>simp[D.gG] at h<;>simp[D.Qb] at hl<;>subst h
  ·simp[Instr.sameBits]
  ·simp[Instr.sameBits]
  rename_i s;show((⟨⟨s⟩⟩:ByteArray)==⟨⟨s⟩⟩)=true;show((⟨s⟩:Array UInt8)==⟨s⟩)=true;simp
 intro x v Lz h;cases x with
 |agg cs=>
  simp only[D.cD] at h;split at h
  next vs Qj=>
   simp only[zam] at h;subst h;simp only[Instr.sameBits,zbA,zaW];rw[zbj];intro p hp;have: ∀(l:List Value) (p:Value×Value),p∈l.zip l->p.1=p.2/\p.1∈l:=by
    intro l
    induction l with
    |nil=>intro p hp;cases hp
    |cons y l ih=>
     intro p hp;rcases zat.1 hp with rfl |hp
     ·exact⟨rfl,by simp⟩
     have:=ih p hp;exact⟨this.1,by simp[this.2]⟩
   obtain⟨e1,e2⟩:=this vs p hp;obtain⟨a,b⟩:=p;simp only at e1 e2⊢;subst e1;obtain⟨i,hi,rfl⟩:=zaQ e2;have hl:=HZ Qj;obtain⟨u,h1,h2⟩:=zz (i:=i) (x:=cs[i]'(by omega)) Qj (by simp);rw[zad hi] at h1;cases h1;exact cell 9998 _ _ (Lz _ (by simp[D.cells])) h2
  cases h
 |bool b=>exact cell 9999 (.bool b) _ rfl h
 |int k n=>exact cell 9999 (.int k n) _ rfl h
 |str s=>exact cell 9999 (.str s) _ rfl h
 |_=>simp[D.cells,D.Qb] at Lz
section
variable{Q:Program}{T:Tg}{F:Nat->Prop}{G:Nat->Value}{w:World}{a:Act}{s:S}
theorem qC{t z}(hz:eK Q t=some z) w: ∃zv,(zeroValue t).run Q w= .ok zv w/\aY F w zv z:=by
 unfold eK at hz;split at hz
 next i hi=>
  split at hz
  next zv NI=>exact⟨zv,by simp[zeroValue,typeInfo,hi,NI],aY.vQ F w hz⟩
  cases hz
 cases hz
theorem gX{t kt e}(h:jJ Q t=some (kt,e)):Q.underlying t=some (.map kt e):=by
 unfold jJ at h;split at h
 ·simp only[zam,zbt] at h;obtain⟨rfl,rfl⟩:=h;assumption
 cases h
theorem lG.look{kt get n es}{clock}(h:lG Q F w kt get n es clock){k v}(hk:fp Q kt k=true)(hv:k.cD=some v):
  ∃r,(Instr.findKey kt v es).run Q w= .ok r w/\((r=none/\get k=none)\/ ∃i e y,r=some (i,e.val)/\es[i]?=some e/\e.key=v/\get k=some y/\aY F w e.val y):=by
 obtain⟨ks,h1,h2,h3,h4,h5,h6,h7⟩:=h;obtain⟨r,hr,vK⟩:=zD (bQ hk).1 hv h1 (λi p e hp he=>⟨(bQ (h3 i p e hp he).1).1,(h3 i p e hp he).2.1⟩) w;refine⟨r,hr,?_⟩;rcases vK with⟨rfl,ix⟩| ⟨i,p,e,rfl,hp,he,hpk⟩
 ·refine .inl ⟨rfl,?_⟩;cases hg:get k with
  |none=>rfl
  |some y=>exact absurd rfl (ix _ ((h5 k y).1 hg))
 obtain⟨_,a2,a3⟩:=h3 i p e hp he;refine .inr ⟨i,e,p.2,rfl,he,?_,(h5 k p.2).2 ?_,a3⟩
 ·rw[hpk,hv] at a2;exact(zbQ a2).symm
 rw[<-hpk];exact zaA hp
theorem Ds(h:aC Q T F G w a s){n aV v kt get}{c last}(hv:aH F w G s.rg v (.mp n aV))(ho:s.obj n aV=some (.map kt get c last)):
  ∃e,lk s.rg n=some e/\e.aV=aV/\e.obj= .map kt get c last/\v=G n/\ ∃b es clock,G n= .map (some b)/\w.heap[b]?=some (.map es clock)/\lG Q F w kt get c es.toList clock:=by
 obtain⟨e,he,eb,b8⟩:=S.bM ho;cases hv with
 |mp _ _ _ _ hr=>obtain⟨e',cR,hle,hc⟩:=hr;rw[he] at cR;cases cR;have hv:=hc eb.symm (by rw[b8];rfl);have:=h.rg n e he;rw[b8] at this;obtain⟨b,es,clock,h1,h2,h3,_⟩:=this;exact⟨e,he,eb,b8,hv,b,es,clock,h1,h2,h3⟩
theorem TR(h:aC Q T F G w a s){n aV v kt get}{c p kd}(hv:aH F w G s.rg v (.mp n aV))(ho:s.obj n aV=some (.kM kt get c p kd)):
  ∃e,lk s.rg n=some e/\e.aV=aV/\e.obj= .kM kt get c p kd/\v=G n/\ ∃b es clock,G n= .map (some b)/\w.heap[b]?=some (.map es clock)/\lG Q F w kt get c es.toList clock/\ ∃(i:Nat) (en:MapEntry),es[i]?=some en/\aH F w G s.rg (.int .i64 (en.born:Int)) p/\kd.cD=some en.key/\(get kd).isSome=true:=by
 obtain⟨e,he,eb,b8⟩:=S.bM ho;cases hv with
 |mp _ _ _ _ hr=>obtain⟨e',cR,hle,hc⟩:=hr;rw[he] at cR;cases cR;have hv:=hc eb.symm (by rw[b8];rfl);have:=h.rg n e he;rw[b8] at this;obtain⟨b,es,clock,h1,h2,h3,h4⟩:=this;exact⟨e,he,eb,b8,hv,b,es,clock,h1,h2,h3,h4⟩
theorem LA(h:aC Q T F G w a s){t kt e p i q ok z}(ht:jJ Q t=some (kt,e))(hz:eK Q e=some z){v u}(hv:aH F w G s.rg v p)(hu:aH F w G s.rg u i)
  (hq:eM Q s t p i ok z=some q): ∃r,(Instr.lookup t v u ok).run Q w= .ok r w/\aH F w G s.rg r q:=by
 have nC:=gX ht;obtain⟨zv,Dt,E5⟩:=qC (F:=F) hz w;have two: ∀(v1:Value) (x:D) (b:Bool),aY F w v1 x->aH F w G s.rg (.tuple #[v1,.bool b]) (.dz [.d x,.d (.bool b)]):=λv1 x b hx=>
  .dz [v1,.bool b] _ rfl (λi v c hv hc=>by
   match i with
   |0=>simp at hv hc;subst hv;subst hc;exact .d hx
   |1=>simp at hv hc;subst hv;subst hc;exact .d (.bool b)
   |i+2=>simp at hv)
 unfold eM at hq;rw[ht] at hq;split at hq
 next zq e' n aV k NJ=>
  simp only[zam,zbt] at NJ;obtain⟨rfl,rfl⟩:=NJ;split at hq
  next kt2 get c last ho=>
   split at hq
   ·rename_i hc;simp only[zac] at hc;have Du:=zag hc.1;subst Du;obtain⟨_,_,⟨kv,vW,zF⟩⟩:=bQ hc.2;have hu':u=kv:=hu.cD (p:= .d k) vW;subst hu';obtain⟨e0,_,_,_,zG,b,es,clock,hG,hb,hM⟩:=Ds h hv ho;rw[hG] at zG;subst zG;obtain⟨ck,nD⟩:=zF es.isEmpty;have nD:=db nD w;obtain⟨r,hr,vK⟩:=hM.look hc.2 vW;rcases vK with⟨rfl,hg⟩| ⟨j,en,y,rfl,_,_,hg,hy⟩
    ·rw[hg] at hq;cases ok with
     |true=>simp at hq;subst hq;exact⟨.tuple #[zv,.bool false],by simp[Instr.lookup,run_underlying nC,MapKept.run_getObj_map hb,nD,hr,Dt],two _ _ _ E5⟩
     |false=>simp at hq;subst hq;exact⟨zv,by simp[Instr.lookup,run_underlying nC,MapKept.run_getObj_map hb,nD,hr,Dt],.d E5⟩
    rw[hg] at hq;cases ok with
    |true=>simp at hq;subst hq;exact⟨.tuple #[en.val,.bool true],by simp[Instr.lookup,run_underlying nC,MapKept.run_getObj_map hb,nD,hr],two _ _ _ hy⟩
    |false=>simp at hq;subst hq;exact⟨en.val,by simp[Instr.lookup,run_underlying nC,MapKept.run_getObj_map hb,nD,hr],.d hy⟩
   cases hq
  next kt2 get c pE kdE ho=>
   split at hq
   ·rename_i hc;simp only[zac,zbv] at hc;obtain⟨⟨oc,Du⟩,hkB⟩:=hc;have Du:=zag Du;subst Du;subst oc;obtain⟨_,_,⟨kv,vW,zF⟩⟩:=bQ hkB;have hu':u=kv:=hu.cD (p:= .d k) vW;subst hu';obtain⟨e0,_,_,_,zG,b,es,clock,hG,hb,hM,_⟩:=TR h hv ho;rw[hG] at zG;subst zG;obtain⟨ck,nD⟩:=zF es.isEmpty;have nD:=db nD w;obtain⟨r,hr,vK⟩:=hM.look hkB vW;rcases vK with⟨rfl,hg⟩| ⟨j,en,y,rfl,_,_,hg,hy⟩
    ·rw[hg] at hq;simp at hq;subst hq;exact⟨zv,by simp[Instr.lookup,run_underlying nC,MapKept.run_getObj_map hb,nD,hr,Dt],.d E5⟩
    rw[hg] at hq;simp at hq;subst hq;exact⟨en.val,by simp[Instr.lookup,run_underlying nC,MapKept.run_getObj_map hb,nD,hr],.d hy⟩
   cases hq
  cases hq
 next zq e' k NJ=>
  simp only[zam,zbt] at NJ;obtain⟨rfl,rfl⟩:=NJ;split at hq
  next hc=>
   obtain⟨hsh,_,⟨kv,vW,zF⟩⟩:=bQ hc;have hu':u=kv:=hu.cD (p:= .d k) vW;subst hu';have Qh:v= .map none:=hv.cD (p:= .d .ui) rfl;subst Qh;obtain⟨ck,nD⟩:=zF true;have nD:=db nD w;obtain⟨r,hr,vK⟩:=zD (ks:=[]) (es:=[]) hsh vW rfl (λi p e hp=>by simp at hp) w;have sv:r=none:=by
    rcases vK with⟨rfl,_⟩| ⟨i,p,e,_,hp,_⟩
    ·rfl
    simp at hp
   subst sv;cases ok with
   |true=>simp at hq;subst hq;exact⟨.tuple #[zv,.bool false],by simp[Instr.lookup,run_underlying nC,nD,hr,Dt],two _ _ _ E5⟩
   |false=>simp at hq;subst hq;exact⟨zv,by simp[Instr.lookup,run_underlying nC,nD,hr,Dt],.d E5⟩
  cases hq
 cases hq
theorem aY.NK F w {x v}(h:x.gG=some v):aY F w v x:=by cases x<;>simp[D.gG] at h<;>subst h<;>constructor
theorem NL: ∀cs vs,D.dt cs=some vs->vs.length=cs.length/\ ∀(i:Nat) (v:Value) (c:D),vs[i]?=some v->cs[i]?=some c->c.gG=some v
 | [],vs,h=>by simp[D.dt] at h;subst h;exact⟨rfl,λi v c hv=>by simp at hv⟩
 |x::r,vs,h=>by
  simp only[D.dt] at h;split at h
  next v1 vs1 h1 h2=>
   simp at h;subst h;obtain⟨k1,k2⟩:=NL r vs1 h2;refine⟨by simp[k1],λi v c hv hc=> ?_⟩;cases i with
   |zero=>simp at hv hc;subst hv;subst hc;exact h1
   |succ i=>exact k2 i v c (by simpa using hv) (by simpa using hc)
  cases h
theorem aY.TS F w {x v}(h:x.cD=some v):aY F w v x:=by
 cases x with
 |agg cs=>
  simp only[D.cD] at h;split at h
  next vs Qj=>
   simp at h;subst h;obtain⟨k1,k2⟩:=NL cs vs Qj;refine .agg vs cs k1 (λc hc=> ?_) λi v c hv hc=>aY.NK F w (k2 i v c hv hc);obtain⟨i,hi⟩:=zaV hc;have bK:i<vs.length:=by have:=(zae.1 hi).1;omega
   have:=k2 i _ c (zad bK) hi;cases c<;>first |rfl |simp[D.gG] at this
  cases h
 |_=>exact aY.NK F w h
theorem zH e: ∀l:List MapEntry,e∈l->(l.map (·.born)).Nodup->l.find? (λx=>x.born==e.born)=some e
 | [],h,_=>by cases h
 |x::r,h,hn=>by
  rw[za4,za9] at hn;rw[List.find?_cons];rcases zat.1 h with rfl |h
  ·simp
  have cO:x.born≠e.born:=λhx=>hn.1 (zaq.2 ⟨e,h,hx.symm⟩);have:(x.born==e.born)=false:=by simpa using cO
  rw[this];exact zH e r h hn.2
theorem E6{r m since}{seen:Array Nat}{es clock e}(hr:w.heap[r]?=some (.mapIter (some m) since (seen.push e.born) clock))(hm:w.heap[m]?=some (.map es clock))(he:e∈es.toList)(hn:(es.toList.map (·.born)).Nodup):
  (Instr.entry (.pointer (some ⟨r,0,none⟩))).run Q w= .ok (.tuple #[e.key,e.val]) w:=by
 have hf:es.find? (λx=>x.born==e.born)=some e:=by rw[<-Array.find?_toList];exact zH e _ he hn
 have hc:(clock !=clock)=false:=by simp
 simp only[Instr.entry,getObj,Sem.run_bind,Sem.run,hr,hm,Result.andThen,Array.back?_push,hc,zaE,zbn,hf];rfl
theorem Qk(h:aC Q T F G w a s){p q v}(hv:aH F w G s.rg v p)(hq:qt s p=some q): ∃r,(Instr.entry v).run Q w= .ok r w/\aH F w G s.rg r q:=by
 unfold qt at hq;split at hq
 next n aV=>
  split at hq
  next kt vt left k x ho=>
   simp only[zam] at hq;subst hq;obtain⟨e,he,eb,b8⟩:=S.bM ho;have hO:=h.rg n e he;rw[b8] at hO;obtain⟨b,mo,since,seen,last,hg,hh,hO⟩:=hO;cases hv with
   |ref _ _ _ _ hr h1=>
    obtain⟨b',KQ,rfl⟩:=hr.at he eb (by rw[b8];rfl);rw[hg] at KQ;simp at KQ;subst KQ;rcases hO with⟨_,_,hc⟩| ⟨m,es,rfl,hF,hm,TT,⟨ks,g1,g3,g4,g5,g6,g7⟩,hc⟩
    ·cases hc
    subst TT;obtain⟨en,lJ,kI,hk,hx⟩:=hc k x rfl;obtain⟨sn,rfl⟩:=Array.back?_eq_some_iff.1 kI;refine⟨_,E6 hh hm lJ g6,.dz [en.key,en.val] _ rfl λi v c hv hc=> ?_⟩
    match i with
    |0=>simp at hv hc;subst hv;subst hc;exact .d (aY.TS F w hk)
    |1=>simp at hv hc;subst hv;subst hc;exact .d hx
    |i+2=>simp at hv
  cases hq
 cases hq
end
end Pi
