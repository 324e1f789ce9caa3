/- The text PiMap. -/
import Derived.Test.YtngoddkencoalaaGreatDoorPiEq
import Derived.MapKept
namespace Pi
open Go
mutual
theorem D.hQ: ∀(x y:D),D.pg x y=true↔x=y
 | .bool a,y=>by cases y<;>simp[D.pg]
 | .int k a,y=>by cases y<;>simp[D.pg]
 | .str a,y=>by cases y<;>simp[D.pg]
 | .agg a,y=>by cases y<;>simp[D.pg,D.yE a]
 | .sl k a,y=>by cases y<;>simp[D.pg,D.yE a]
 | .fk,y=>by cases y<;>simp[D.pg]
 | .p9,y=>by cases y<;>simp[D.pg]
 | .rp,y=>by cases y<;>simp[D.pg]
 | .yq,y=>by cases y<;>simp[D.pg]
 | .yr,y=>by cases y<;>simp[D.pg]
theorem D.yE: ∀(x y:List D),D.JR x y=true↔x=y
 | [],y=>by cases y<;>simp[D.JR]
 |x::xs,y=>by
  cases y with
  |nil=>simp[D.JR]
  |cons y ys=>simp[D.JR,D.hQ x,D.yE xs]
end
theorem Cp(k v:D)(get:D->Option D):da k v get k=some v:=by unfold da;rw[(D.hQ k k).2 rfl];rfl
theorem Mm{k k':D}(v:D)(get:D->Option D)(h:k≠k'):da k v get k'=get k':=by
 unfold da;cases hb:D.pg k k' with
 |false=>rfl
 |true=>exact absurd ((D.hQ k k').1 hb) h
theorem J7{Q:Program}{t:TypeId}{k:Nat}(h:sz Q t=some k):Q.cellsOf t=k:=by obtain⟨i,d,hi,_,rfl⟩:=gx h;unfold Program.cellsOf;rw[hi];rfl
theorem RS{Q:Program}{t:TypeId}{xs ys:List D}{off:Nat}{x y:D}(YY:(dE Q t ||Nat.beq (Q.cellsOf t) 1)=true)(h1:jB Q t xs off=some x)(h2:jB Q t ys off=some y):
  x=y↔(xs.drop off).take (Q.cellsOf t)=(ys.drop off).take (Q.cellsOf t):=by
 unfold jB at h1 h2;cases hk:sz Q t with
 |none=>rw[hk] at h1;cases h1
 |some k=>
  rw[hk] at h1 h2;have e:=J7 hk;rw[e] at YY⊢;simp only at h1 h2;cases ha:dE Q t with
  |true=>
   rw[ha] at h1 h2;simp only[zbr] at h1 h2;split at h1
   ·split at h2
    ·cases h1;cases h2;simp
    cases h2
   cases h1
  |false=>
   rw[ha] at h1 h2 YY;simp only[zaK,zbt] at h1 h2;have ft:k=1:=by simpa using YY
   subst ft;have l1:=(zaf.1 h1).1;have l2:=(zaf.1 h2).1;have e1:(xs.drop off).take 1=[x]:=by rw[za4 l1];simp[(zaf.1 h1).2]
   have e2:(ys.drop off).take 1=[y]:=by rw[za4 l2];simp[(zaf.1 h2).2]
   rw[e1,e2];simp
theorem yF{Q:Program}{go:TypeId->D->D->Option Bool}{xs ys:List D}{nx:Nat}(hx:xs.length=nx)(hy:ys.length=nx)
  {sh:TypeId->D->Bool} (nk: ∀t x y,sh t x=true->sh t y=true-> ∃c,go t x y=some c/\(c=true↔x=y)): ∀(fs:List Field) (off:Nat),lh Q off fs nx=true->off<=nx->
  (∀f∈fs,(!(f.name== "_")&&(dE Q f.type ||Nat.beq (Q.cellsOf f.type) 1)&&(match jB Q f.type xs f.offset with |some y=>sh f.type y |none=>false))=true)->
  (∀f∈fs,(!(f.name== "_")&&(dE Q f.type ||Nat.beq (Q.cellsOf f.type) 1)&&(match jB Q f.type ys f.offset with |some y=>sh f.type y |none=>false))=true)->
  ∃c,Gq Q go fs xs ys=some c/\(c=true↔xs.drop off=ys.drop off)
 | [],off,ht,hle,_,_=>by have:off=nx:=zag ht;refine⟨true,rfl,?_⟩;rw[zci (by omega),zci (by omega)];simp
 |f::r,off,ht,hle,h1,h2=>by
  simp only[lh,zab] at ht;have ho:f.offset=off:=zag ht.1;have Ox:off+Q.cellsOf f.type<=nx:=by
   have: ∀(fs:List Field) (o:Nat),lh Q o fs nx=true->o<=nx:=by
    intro fs
    induction fs with
    |nil=>intro o h;exact zdb (zag h)
    |cons g gs ih=>intro o h;simp only[lh,zab] at h;have:=ih _ h.2;omega
   exact this r _ ht.2
  obtain⟨c,hc,l7⟩:=yF hx hy nk r _ ht.2 Ox (λg hg=>h1 g (by simp[hg])) (λg hg=>h2 g (by simp[hg]));have a1:=h1 f (by simp);have a2:=h2 f (by simp);simp only[zab] at a1 a2;obtain⟨⟨hn,YY⟩,b1⟩:=a1;obtain⟨_,b2⟩:=a2;have hn:(f.name== "_")=false:=by simpa using hn
  unfold Gq;rw[hn];simp only;cases p1:jB Q f.type xs f.offset with
  |none=>rw[p1] at b1;cases b1
  |some x=>
   cases p2:jB Q f.type ys f.offset with
   |none=>rw[p2] at b2;cases b2
   |some y=>
    rw[p1] at b1;rw[p2] at b2;obtain⟨a,ha,haa⟩:=nk f.type x y b1 b2;simp only[ha,hc];refine⟨a&&c,rfl,?_⟩;rw[zab,haa,l7,RS YY p1 p2,ho];have RT: ∀l:List D,l.drop off=(l.drop off).take (Q.cellsOf f.type)++l.drop (off+Q.cellsOf f.type):=λl=>by rw[<-zcW,zbi]
    constructor
    ·rintro⟨e1,e2⟩;rw[RT xs,RT ys,e1,e2]
    intro e;refine⟨by rw[e],?_⟩;rw[<-zcW,<-zcW,e]
theorem qZ{Q:Program}: ∀(n:Nat) (t:TypeId) (x y:D),iU Q n t x=true->iU Q n t y=true-> ∃c,YQ Q n t x y=some c/\(c=true↔x=y)
 |0,_,_,_,h,_=>by simp[iU] at h
 |n+1,t,x,y,h1,h2=>by
  unfold iU at h1 h2;unfold YQ;cases hd:Q.underlying t with
  |none=>rw[hd] at h1;simp at h1
  |some d=>
   rw[hd] at h1 h2;cases d with
   |bool=>
    cases x<;>try (simp at h1;done)
    cases y<;>try (simp at h2;done)
    exact⟨_,rfl,by simp⟩
   |int k=>
    cases x<;>try (simp at h1;done)
    cases y<;>try (simp at h2;done)
    rename_i k1 a k2 b;have e1:k=k1:=by simpa using h1
    have e2:k=k2:=by simpa using h2
    subst e1 e2;exact⟨a==b,by simp,by simp⟩
   |string=>
    cases x<;>try (simp at h1;done)
    cases y<;>try (simp at h2;done)
    exact⟨_,rfl,by simp⟩
   |struct fs=>
    cases x<;>try (simp at h1;done)
    cases y<;>try (simp at h2;done)
    rename_i xs ys;simp only[zab] at h1 h2;obtain⟨⟨⟨l1,t1⟩,s1⟩,f1⟩:=h1;obtain⟨⟨⟨l2,_⟩,_⟩,f2⟩:=h2;have s1:Q.stoodInHeld t=false:=by simpa using s1
    obtain⟨c,hc,l7⟩:=yF (Q:=Q) (go:=YQ Q n) (xs:=xs) (ys:=ys) (zag l1) (zag l2) (sh:=iU Q n) (λt x y a b=>qZ n t x y a b) fs.toList 0 t1 (za1 _)
     (λf hf=>zbm.1 f1 f hf) (λf hf=>zbm.1 f2 f hf)
    refine⟨c,by simp only[s1];exact hc,?_⟩;rw[l7];simp
   |_=>simp at h1
theorem cB{Q:Program}{kt:TypeId}{k:D}(h:fY Q kt k=true):iU Q 20 kt k=true/\(∀c∈k.cells,c.Om=true)/\ ∃v,k.cF=some v/\ ∀em,∃u,aC Q (Instr.checkKey em 10000 kt v)=some u:=by
 simp only[fY,zab] at h;refine⟨h.1.1,zbm.1 h.1.2,?_⟩;have h2:=h.2;split at h2
 next v hv=>
  split at h2
  next a b ha hb=>exact⟨v,hv,λem=>by cases em;exact⟨_,ha⟩;exact⟨_,hb⟩⟩
  cases h2
 cases h2
theorem wi{Q:Program}{kt:TypeId}{k:D}{v:Value}(hs:iU Q 20 kt k=true)(hv:k.cF=some v): ∀(ks:List (D×D)) (es:List MapEntry) (i0:Nat),ks.length=es.length->
  (∀(i:Nat) (p:D×D) (e:MapEntry),ks[i]?=some p->es[i]?=some e->iU Q 20 kt p.1=true/\p.1.cF=some e.key)->
  ∃r,aC Q (Instr.findAsking kt v es i0)=some r/\((r=none/\ ∀p∈ks,p.1≠k)\/ ∃i p e,r=some (i0+i,e.val)/\ks[i]?=some p/\es[i]?=some e/\p.1=k)
 | [],[],i0,_,_=>⟨none,rfl,.inl ⟨rfl,by simp⟩⟩
 | [],e::es,i0,h,_=>by simp at h
 |p::ks,[],i0,h,_=>by simp at h
 |p::ks,e::es,i0,hl,h=>by
  obtain⟨h1,h2⟩:=h 0 p e rfl rfl;obtain⟨c,hc,l7⟩:=qZ 20 kt k p.1 hs h1;have he:=fK 20 10000 kt k p.1 c v e.key (by omega) hc hv h2;unfold Instr.findAsking;have eq:Op.equal kt v e.key=Op.equalIn 10000 kt v e.key:=rfl;rw[az,eq,he,zaw];cases c with
  |true=>exact⟨_,rfl,.inr ⟨0,p,e,rfl,rfl,rfl,(l7.1 rfl).symm⟩⟩
  |false=>
   obtain⟨r,hr,uW⟩:=wi hs hv ks es (i0+1) (by simpa using hl) λi p e hp he=>h (i+1) p e (by simpa using hp) (by simpa using he);refine⟨r,hr,?_⟩;have dQ:p.1≠k:=λe=>by have:=l7.2 e.symm;cases this
   rcases uW with⟨rfl,gU⟩| ⟨i,p',e',rfl,a,b,c⟩
   ·exact .inl ⟨rfl,λq hq=>by
     rcases zav.1 hq with rfl |hq
     ·exact dQ
     exact gU q hq⟩
   exact .inr ⟨i+1,p',e',by rw[show i0+(i+1)=i0+1+i by omega],by simpa using a,by simpa using b,c⟩
theorem GC{Q:Program}{kt:TypeId}{d:TypeDesc}(hd:Q.underlying kt=some d){v u:Value}{c:Bool}(h:Instr.sameNow d v u=some c):aC Q (Op.equal kt v u)=some c:=by
 have eq:Op.equal kt v u=Op.equalIn (9999+1) kt v u:=rfl;unfold Instr.sameNow at h;split at h
 ·split at h
  next hk=>subst hk;rw[eq,Op.equalIn,az,aL hd];simp only[zaw,zbr];exact h
  cases h
 ·rw[eq,Op.equalIn,az,aL hd];exact h
 ·rw[eq,Op.equalIn,az,aL hd];exact h
 cases h
theorem yG{Q:Program}{kt:TypeId}{d:TypeDesc}(hd:Q.underlying kt=some d){v:Value}: ∀(es:List MapEntry) (i:Nat) (r:Option (Nat×Value)),Instr.findNow d v es i=some r->aC Q (Instr.findAsking kt v es i)=some r
 | [],i,r,h=>by simp[Instr.findNow] at h;subst h;rfl
 |e::es,i,r,h=>by
  unfold Instr.findNow at h;unfold Instr.findAsking;split at h
  next hs=>simp only[zam] at h;subst h;rw[az,GC hd hs];rfl
  next hs=>rw[az,GC hd hs];exact yG hd es (i+1) r h
  cases h
theorem yH{Q:Program}{kt:TypeId}{k:D}{v:Value}(hs:iU Q 20 kt k=true)(hv:k.cF=some v){ks:List (D×D)}{es:List MapEntry}(hl:ks.length=es.length)
  (h: ∀(i:Nat) (p:D×D) (e:MapEntry),ks[i]?=some p->es[i]?=some e->iU Q 20 kt p.1=true/\p.1.cF=some e.key) (w:World):
  ∃r,(Instr.findKey kt v es).run Q w= .ok r w/\((r=none/\ ∀p∈ks,p.1≠k)\/ ∃i p e,r=some (i,e.val)/\ks[i]?=some p/\es[i]?=some e/\p.1=k):=by
 obtain⟨r,hr,uW⟩:=wi hs hv ks es 0 hl h;refine⟨r,?_,?_⟩
 ·have hd: ∃d,Q.underlying kt=some d:=by
   unfold iU at hs;cases hd:Q.underlying kt with
   |none=>rw[hd] at hs;simp at hs
   |some d=>exact⟨d,rfl⟩
  obtain⟨d,hd⟩:=hd;refine dH ?_ w;unfold Instr.findKey;rw[az,aL hd,zaw];cases hn:Instr.findNow d v es 0 with
  |none=>exact hr
  |some r'=>have:=yG hd es 0 r' hn;rw[hr] at this;cases this;rfl
 simpa using uW
theorem Cq: ∀(x:D) (v:Value),(∀c∈x.cells,c.Om=true)->x.cF=some v->Instr.sameBits 10000 v v=true:=by
 have cell: ∀(n:Nat) (x:D) (v:Value),x.Om=true->x.gj=some v->Instr.sameBits (n+1) v v=true:=by
  intro n x v hl h;cases x<;>simp[D.gj] at h<;>simp[D.Om] at hl<;>subst h
  ·simp[Instr.sameBits]
  ·simp[Instr.sameBits]
  rename_i s;show((⟨⟨s⟩⟩:ByteArray)==⟨⟨s⟩⟩)=true;show((⟨s⟩:Array UInt8)==⟨s⟩)=true;simp
 intro x v Oy h;cases x with
 |agg cs=>
  simp only[D.cF] at h;split at h
  next vs Ow=>
   simp only[zam] at h;subst h;simp only[Instr.sameBits,zbE,zaS];rw[zbm];intro p hp;have: ∀(l:List Value) (p:Value×Value),p∈l.zip l->p.1=p.2/\p.1∈l:=by
    intro l
    induction l with
    |nil=>intro p hp;cases hp
    |cons y l ih=>
     intro p hp;rcases zav.1 hp with rfl |hp
     ·exact⟨rfl,by simp⟩
     have:=ih p hp;exact⟨this.1,by simp[this.2]⟩
   obtain⟨e1,e2⟩:=this vs p hp;obtain⟨a,b⟩:=p;simp only at e1 e2⊢;subst e1;obtain⟨i,hi,rfl⟩:=zaT e2;have hl:=GB Ow;obtain⟨u,h1,h2⟩:=yD (i:=i) (x:=cs[i]'(by omega)) Ow (by simp);rw[zac hi] at h1;cases h1;exact cell 9998 _ _ (Oy _ (by simp[D.cells])) h2
  cases h
 |bool b=>exact cell 9999 (.bool b) _ rfl h
 |int k n=>exact cell 9999 (.int k n) _ rfl h
 |str s=>exact cell 9999 (.str s) _ rfl h
 |_=>simp[D.cells,D.Om] at Oy
section
variable{Q:Program}{T:Tg}{F:Nat->Prop}{G:Nat->Value}{w:World}{a:Act}{s:S}
theorem qk{t:TypeId}{z:D}(hz:ez Q t=some z)(w:World): ∃zv,(zeroValue t).run Q w= .ok zv w/\aS F w zv z:=by
 unfold ez at hz;split at hz
 next i hi=>
  split at hz
  next zv Mn=>exact⟨zv,by simp[zeroValue,typeInfo,hi,Mn],aS.vi F w hz⟩
  cases hz
 cases hz
theorem iY{t kt e:TypeId}(h:kj Q t=some (kt,e)):Q.underlying t=some (.map kt e):=by
 unfold kj at h;split at h
 ·simp only[zam,zbN] at h;obtain⟨rfl,rfl⟩:=h;assumption
 cases h
theorem pF.look{kt:TypeId}{get:D->Option D}{n:Int}{es:List MapEntry}{clock:Nat}(h:pF Q F w kt get n es clock){k:D}{v:Value}(hk:fY Q kt k=true)(hv:k.cF=some v):
  ∃r,(Instr.findKey kt v es).run Q w= .ok r w/\((r=none/\get k=none)\/ ∃i e y,r=some (i,e.val)/\es[i]?=some e/\e.key=v/\get k=some y/\aS F w e.val y):=by
 obtain⟨ks,h1,h2,h3,h4,h5,h6,h7⟩:=h;obtain⟨r,hr,uW⟩:=yH (cB hk).1 hv h1 (λi p e hp he=>⟨(cB (h3 i p e hp he).1).1,(h3 i p e hp he).2.1⟩) w;refine⟨r,hr,?_⟩;rcases uW with⟨rfl,gU⟩| ⟨i,p,e,rfl,hp,he,hpk⟩
 ·refine .inl ⟨rfl,?_⟩;cases hg:get k with
  |none=>rfl
  |some y=>exact absurd rfl (gU _ ((h5 k y).1 hg))
 obtain⟨_,a2,a3⟩:=h3 i p e hp he;refine .inr ⟨i,e,p.2,rfl,he,?_,(h5 k p.2).2 ?_,a3⟩
 ·rw[hpk,hv] at a2;exact(zce a2).symm
 rw[<-hpk];exact zaC hp
theorem GD(h:aG Q T F G w a s){n aV:Nat}{v:Value}{kt:Nat}{get:D->Option D}{c:Int}{last:Bool}(hv:aH F w G s.rg v (.mp n aV))(ho:s.obj n aV=some (.map kt get c last)):
  ∃e,lk s.rg n=some e/\e.aV=aV/\e.obj= .map kt get c last/\v=G n/\ ∃b es clock,G n= .map (some b)/\w.heap[b]?=some (.map es clock)/\pF Q F w kt get c es.toList clock:=by
 obtain⟨e,he,dT,b9⟩:=S.bI ho;cases hv with
 |mp _ _ _ _ hr=>obtain⟨e',cS,hle,hc⟩:=hr;rw[he] at cS;cases cS;have hv:=hc dT.symm (by rw[b9];rfl);have:=h.rg n e he;rw[b9] at this;obtain⟨b,es,clock,h1,h2,h3,_⟩:=this;exact⟨e,he,dT,b9,hv,b,es,clock,h1,h2,h3⟩
theorem RU(h:aG Q T F G w a s){n aV:Nat}{v:Value}{kt:Nat}{get:D->Option D}{c:Int}{p:P}{kd:D}(hv:aH F w G s.rg v (.mp n aV))(ho:s.obj n aV=some (.kD kt get c p kd)):
  ∃e,lk s.rg n=some e/\e.aV=aV/\e.obj= .kD kt get c p kd/\v=G n/\ ∃b es clock,G n= .map (some b)/\w.heap[b]?=some (.map es clock)/\pF Q F w kt get c es.toList clock/\ ∃(i:Nat) (en:MapEntry),es[i]?=some en/\aH F w G s.rg (.int .i64 (en.born:Int)) p/\kd.cF=some en.key/\(get kd).isSome=true:=by
 obtain⟨e,he,dT,b9⟩:=S.bI ho;cases hv with
 |mp _ _ _ _ hr=>obtain⟨e',cS,hle,hc⟩:=hr;rw[he] at cS;cases cS;have hv:=hc dT.symm (by rw[b9];rfl);have:=h.rg n e he;rw[b9] at this;obtain⟨b,es,clock,h1,h2,h3,h4⟩:=this;exact⟨e,he,dT,b9,hv,b,es,clock,h1,h2,h3,h4⟩
theorem J8(h:aG Q T F G w a s){t kt e:TypeId}{p i q:P}{ok:Bool}{z:D}(ht:kj Q t=some (kt,e))(hz:ez Q e=some z){v u:Value}(hv:aH F w G s.rg v p)(hu:aH F w G s.rg u i)
  (hq:eE Q s t p i ok z=some q): ∃r,(Instr.lookup t v u ok).run Q w= .ok r w/\aH F w G s.rg r q:=by
 have pj:=iY ht;obtain⟨zv,Cr,Jq⟩:=qk (F:=F) hz w;have two: ∀(v1:Value) (x:D) (b:Bool),aS F w v1 x->aH F w G s.rg (.tuple #[v1,.bool b]) (.cH [.d x,.d (.bool b)]):=λv1 x b hx=>
  .cH [v1,.bool b] _ rfl (λi v c hv hc=>by
   match i with
   |0=>simp at hv hc;subst hv;subst hc;exact .d hx
   |1=>simp at hv hc;subst hv;subst hc;exact .d (.bool b)
   |i+2=>simp at hv)
 unfold eE at hq;rw[ht] at hq;split at hq
 next Bu e' n aV k Mp=>
  simp only[zam,zbN] at Mp;obtain⟨rfl,rfl⟩:=Mp;split at hq
  next kt2 get c last ho=>
   split at hq
   ·rename_i hc;simp only[zab] at hc;have FO:=zag hc.1;subst FO;obtain⟨_,_,⟨kv,yI,DS⟩⟩:=cB hc.2;have hu':u=kv:=hu.cF (p:= .d k) yI;subst hu';obtain⟨e0,_,_,_,Ct,b,es,clock,hG,hb,hM⟩:=GD h hv ho;rw[hG] at Ct;subst Ct;obtain⟨ck,nq⟩:=DS es.isEmpty;have nq:=dH nq w;obtain⟨r,hr,uW⟩:=hM.look hc.2 yI;rcases uW with⟨rfl,hg⟩| ⟨j,en,y,rfl,_,_,hg,hy⟩
    ·rw[hg] at hq;cases ok with
     |true=>simp at hq;subst hq;exact⟨.tuple #[zv,.bool false],by simp[Instr.lookup,run_underlying pj,MapKept.run_getObj_map hb,nq,hr,Cr],two _ _ _ Jq⟩
     |false=>simp at hq;subst hq;exact⟨zv,by simp[Instr.lookup,run_underlying pj,MapKept.run_getObj_map hb,nq,hr,Cr],.d Jq⟩
    rw[hg] at hq;cases ok with
    |true=>simp at hq;subst hq;exact⟨.tuple #[en.val,.bool true],by simp[Instr.lookup,run_underlying pj,MapKept.run_getObj_map hb,nq,hr],two _ _ _ hy⟩
    |false=>simp at hq;subst hq;exact⟨en.val,by simp[Instr.lookup,run_underlying pj,MapKept.run_getObj_map hb,nq,hr],.d hy⟩
   cases hq
  next kt2 get c pE kdE ho=>
   split at hq
   ·rename_i hc;simp only[zab,zbz] at hc;obtain⟨⟨my,FO⟩,X9⟩:=hc;have FO:=zag FO;subst FO;subst my;obtain⟨_,_,⟨kv,yI,DS⟩⟩:=cB X9;have hu':u=kv:=hu.cF (p:= .d k) yI;subst hu';obtain⟨e0,_,_,_,Ct,b,es,clock,hG,hb,hM,_⟩:=RU h hv ho;rw[hG] at Ct;subst Ct;obtain⟨ck,nq⟩:=DS es.isEmpty;have nq:=dH nq w;obtain⟨r,hr,uW⟩:=hM.look X9 yI;rcases uW with⟨rfl,hg⟩| ⟨j,en,y,rfl,_,_,hg,hy⟩
    ·rw[hg] at hq;simp at hq;subst hq;exact⟨zv,by simp[Instr.lookup,run_underlying pj,MapKept.run_getObj_map hb,nq,hr,Cr],.d Jq⟩
    rw[hg] at hq;simp at hq;subst hq;exact⟨en.val,by simp[Instr.lookup,run_underlying pj,MapKept.run_getObj_map hb,nq,hr],.d hy⟩
   cases hq
  cases hq
 next Bu e' k Mp=>
  simp only[zam,zbN] at Mp;obtain⟨rfl,rfl⟩:=Mp;split at hq
  next hc=>
   obtain⟨YY,_,⟨kv,yI,DS⟩⟩:=cB hc;have hu':u=kv:=hu.cF (p:= .d k) yI;subst hu';have Ou:v= .map none:=hv.cF (p:= .d .rp) rfl;subst Ou;obtain⟨ck,nq⟩:=DS true;have nq:=dH nq w;obtain⟨r,hr,uW⟩:=yH (ks:=[]) (es:=[]) YY yI rfl (λi p e hp=>by simp at hp) w;have tc:r=none:=by
    rcases uW with⟨rfl,_⟩| ⟨i,p,e,_,hp,_⟩
    ·rfl
    simp at hp
   subst tc;cases ok with
   |true=>simp at hq;subst hq;exact⟨.tuple #[zv,.bool false],by simp[Instr.lookup,run_underlying pj,nq,hr,Cr],two _ _ _ Jq⟩
   |false=>simp at hq;subst hq;exact⟨zv,by simp[Instr.lookup,run_underlying pj,nq,hr,Cr],.d Jq⟩
  cases hq
 cases hq
theorem aS.Mq(F:Nat->Prop)(w:World){x:D}{v:Value}(h:x.gj=some v):aS F w v x:=by cases x<;>simp[D.gj] at h<;>subst h<;>constructor
theorem Mr: ∀(cs:List D) (vs:List Value),D.df cs=some vs->vs.length=cs.length/\ ∀(i:Nat) (v:Value) (c:D),vs[i]?=some v->cs[i]?=some c->c.gj=some v
 | [],vs,h=>by simp[D.df] at h;subst h;exact⟨rfl,λi v c hv=>by simp at hv⟩
 |x::r,vs,h=>by
  simp only[D.df] at h;split at h
  next v1 vs1 h1 h2=>
   simp at h;subst h;obtain⟨k1,k2⟩:=Mr r vs1 h2;refine⟨by simp[k1],λi v c hv hc=> ?_⟩;cases i with
   |zero=>simp at hv hc;subst hv;subst hc;exact h1
   |succ i=>exact k2 i v c (by simpa using hv) (by simpa using hc)
  cases h
theorem aS.RV(F:Nat->Prop)(w:World){x:D}{v:Value}(h:x.cF=some v):aS F w v x:=by
 cases x with
 |agg cs=>
  simp only[D.cF] at h;split at h
  next vs Ow=>
   simp at h;subst h;obtain⟨k1,k2⟩:=Mr cs vs Ow;refine .agg vs cs k1 (λc hc=> ?_) λi v c hv hc=>aS.Mq F w (k2 i v c hv hc);obtain⟨i,hi⟩:=zaX hc;have bJ:i<vs.length:=by have:=(zaf.1 hi).1;omega
   have:=k2 i _ c (zac bJ) hi;cases c<;>first |rfl |simp[D.gj] at this
  cases h
 |_=>exact aS.Mq F w h
theorem yJ(e:MapEntry): ∀l:List MapEntry,e∈l->(l.map (·.born)).Nodup->l.find? (λx=>x.born==e.born)=some e
 | [],h,_=>by cases h
 |x::r,h,hn=>by
  rw[zbg,zbd] at hn;rw[List.find?_cons];rcases zav.1 h with rfl |h
  ·simp
  have dQ:x.born≠e.born:=λhx=>hn.1 (zaB.2 ⟨e,h,hx.symm⟩);have:(x.born==e.born)=false:=by simpa using dQ
  rw[this];exact yJ e r h hn.2
theorem DT{r m since:Nat}{seen:Array Nat}{es:Array MapEntry}{clock:Nat}{e:MapEntry}(hr:w.heap[r]?=some (.mapIter (some m) since (seen.push e.born) clock))(hm:w.heap[m]?=some (.map es clock))(he:e∈es.toList)(hn:(es.toList.map (·.born)).Nodup):
  (Instr.entry (.pointer (some ⟨r,0,none⟩))).run Q w= .ok (.tuple #[e.key,e.val]) w:=by
 have hf:es.find? (λx=>x.born==e.born)=some e:=by rw[<-Array.find?_toList];exact yJ e _ he hn
 have hc:(clock !=clock)=false:=by simp
 simp only[Instr.entry,getObj,Sem.run_bind,Sem.run,hr,hm,Result.andThen,Array.back?_push,hc,zaK,zbt,hf];rfl
theorem Oz(h:aG Q T F G w a s){p q:P}{v:Value}(hv:aH F w G s.rg v p)(hq:qb s p=some q): ∃r,(Instr.entry v).run Q w= .ok r w/\aH F w G s.rg r q:=by
 unfold qb at hq;split at hq
 next n aV=>
  split at hq
  next kt vt left k x ho=>
   simp only[zam] at hq;subst hq;obtain⟨e,he,dT,b9⟩:=S.bI ho;have hO:=h.rg n e he;rw[b9] at hO;obtain⟨b,mo,since,seen,last,hg,hh,hO⟩:=hO;cases hv with
   |ref _ _ _ _ hr h1=>
    obtain⟨b',Jr,rfl⟩:=hr.at he dT (by rw[b9];rfl);rw[hg] at Jr;simp at Jr;subst Jr;rcases hO with⟨_,_,hc⟩| ⟨m,es,rfl,hF,hm,RW,⟨ks,g1,g3,g4,g5,g6,g7⟩,hc⟩
    ·cases hc
    subst RW;obtain⟨en,nE,ko,hk,hx⟩:=hc k x rfl;obtain⟨sn,rfl⟩:=Array.back?_eq_some_iff.1 ko;refine⟨_,DT hh hm nE g6,.cH [en.key,en.val] _ rfl λi v c hv hc=> ?_⟩
    match i with
    |0=>simp at hv hc;subst hv;subst hc;exact .d (aS.RV F w hk)
    |1=>simp at hv hc;subst hv;subst hc;exact .d hx
    |i+2=>simp at hv
  cases hq
 cases hq
end
end Pi
