/- The text PiMap. -/
import Derived.Test.YtfelfooeclnbiaaPiEq
import Derived.MapKept
namespace Pi
open Go
mutual
theorem D.b7: ∀(x y:D),D.fy x y=true↔x=y
 | .bool a,y=>by cases y<;>simp[D.fy]
 | .int k a,y=>by cases y<;>simp[D.fy]
 | .str a,y=>by cases y<;>simp[D.fy]
 | .agg a,y=>by cases y<;>simp[D.fy,D.mg a]
 | .sl k a,y=>by cases y<;>simp[D.fy,D.mg a]
 | .dq,y=>by cases y<;>simp[D.fy]
 | .gC,y=>by cases y<;>simp[D.fy]
 | .jJ,y=>by cases y<;>simp[D.fy]
 | .oW,y=>by cases y<;>simp[D.fy]
 | .oX,y=>by cases y<;>simp[D.fy]
theorem D.mg: ∀(x y:List D),D.rN x y=true↔x=y
 | [],y=>by cases y<;>simp[D.rN]
 |x::xs,y=>by
  cases y with
  |nil=>simp[D.rN]
  |cons y ys=>simp[D.rN,D.b7 x,D.mg xs]
end
theorem oi(k v:D)(get:D->Option D):cN k v get k=some v:=by unfold cN;rw[(D.b7 k k).2 rfl];rfl
theorem tp{k k':D}(v:D)(get:D->Option D)(h:k≠k'):cN k v get k'=get k':=by
 unfold cN;cases hb:D.fy k k' with
 |false=>rfl
 |true=>exact absurd ((D.b7 k k').1 hb) h
theorem r9{Q:Program}{t:TypeId}{k:Nat}(h:sz Q t=some k):Q.cellsOf t=k:=by obtain⟨i,d,hi,_,rfl⟩:=cL h;unfold Program.cellsOf;rw[hi];rfl
theorem wF{Q:Program}{t:TypeId}{xs ys:List D}{off:Nat}{x y:D}(tq:(bB Q t ||Nat.beq (Q.cellsOf t) 1)=true)(h1:dm Q t xs off=some x)(h2:dm Q t ys off=some y):
  x=y↔(xs.drop off).take (Q.cellsOf t)=(ys.drop off).take (Q.cellsOf t):=by
 unfold dm at h1 h2;cases hk:sz Q t with
 |none=>rw[hk] at h1;cases h1
 |some k=>
  rw[hk] at h1 h2;have e:=r9 hk;rw[e] at tq⊢;simp only at h1 h2;cases ha:bB Q t with
  |true=>
   rw[ha] at h1 h2;simp only[za2] at h1 h2;split at h1
   ·split at h2
    ·cases h1;cases h2;simp
    cases h2
   cases h1
  |false=>
   rw[ha] at h1 h2 tq;simp only[zaz,zbe] at h1 h2;have qq:k=1:=by simpa using tq
   subst qq;have l1:=(zaa.1 h1).1;have l2:=(zaa.1 h2).1;have e1:(xs.drop off).take 1=[x]:=by rw[zbz l1];simp[(zaa.1 h1).2]
   have e2:(ys.drop off).take 1=[y]:=by rw[zbz l2];simp[(zaa.1 h2).2]
   rw[e1,e2];simp
theorem jq{Q:Program}{go:TypeId->D->D->Option Bool}{xs ys:List D}{nE:Nat}(hx:xs.length=nE)(hy:ys.length=nE)
  {sh:TypeId->D->Bool} (z8: ∀t x y,sh t x=true->sh t y=true-> ∃c,go t x y=some c/\(c=true↔x=y)): ∀(fs:List Field) (off:Nat),gq Q off fs nE=true->off<=nE->
  (∀f∈fs,(!(f.name== "_")&&(bB Q f.type ||Nat.beq (Q.cellsOf f.type) 1)&&(match dm Q f.type xs f.offset with |some y=>sh f.type y |none=>false))=true)->
  (∀f∈fs,(!(f.name== "_")&&(bB Q f.type ||Nat.beq (Q.cellsOf f.type) 1)&&(match dm Q f.type ys f.offset with |some y=>sh f.type y |none=>false))=true)->
  ∃c,nD Q go fs xs ys=some c/\(c=true↔xs.drop off=ys.drop off)
 | [],off,ht,hle,_,_=>by have:off=nE:=zab ht;refine⟨true,rfl,?_⟩;rw[zaS (by omega),zaS (by omega)];simp
 |f::r,off,ht,hle,h1,h2=>by
  simp only[gq,zac] at ht;have ho:f.offset=off:=zab ht.1;have yJ:off+Q.cellsOf f.type<=nE:=by
   have: ∀(fs:List Field) (o:Nat),gq Q o fs nE=true->o<=nE:=by
    intro fs
    induction fs with
    |nil=>intro o h;exact zbI (zab h)
    |cons g gs ih=>intro o h;simp only[gq,zac] at h;have:=ih _ h.2;omega
   exact this r _ ht.2
  obtain⟨c,hc,fQ⟩:=jq hx hy z8 r _ ht.2 yJ (λg hg=>h1 g (by simp[hg])) (λg hg=>h2 g (by simp[hg]));have a1:=h1 f (by simp);have a2:=h2 f (by simp);simp only[zac] at a1 a2;obtain⟨⟨hn,tq⟩,b1⟩:=a1;obtain⟨_,b2⟩:=a2;have hn:(f.name== "_")=false:=by simpa using hn
  unfold nD;rw[hn];simp only;cases p1:dm Q f.type xs f.offset with
  |none=>rw[p1] at b1;cases b1
  |some x=>
   cases p2:dm Q f.type ys f.offset with
   |none=>rw[p2] at b2;cases b2
   |some y=>
    rw[p1] at b1;rw[p2] at b2;obtain⟨a,ha,GI⟩:=z8 f.type x y b1 b2;simp only[ha,hc];refine⟨a&&c,rfl,?_⟩;rw[zac,GI,fQ,wF tq p1 p2,ho];have wG: ∀l:List D,l.drop off=(l.drop off).take (Q.cellsOf f.type)++l.drop (off+Q.cellsOf f.type):=λl=>by rw[<-zcb,zbJ]
    constructor
    ·rintro⟨e1,e2⟩;rw[wG xs,wG ys,e1,e2]
    intro e;refine⟨by rw[e],?_⟩;rw[<-zcb,<-zcb,e]
theorem fE{Q:Program}: ∀(n:Nat) (t:TypeId) (x y:D),cO Q n t x=true->cO Q n t y=true-> ∃c,vH Q n t x y=some c/\(c=true↔x=y)
 |0,_,_,_,h,_=>by simp[cO] at h
 |n+1,t,x,y,h1,h2=>by
  unfold cO at h1 h2;unfold vH;cases hd:Q.underlying t with
  |none=>rw[hd] at h1;simp at h1
  |some d=>
   rw[hd] at h1 h2;cases d with
   |bool=>
    cases x<;>try (simp at h1;done)
    cases y<;>try (simp at h2;done)
    exact⟨_,rfl,by simp⟩
   |int k=>
    cases x<;>try (simp at h1;done)
    cases y<;>try (simp at h2;done)
    rename_i k1 a k2 b;have e1:k=k1:=by simpa using h1
    have e2:k=k2:=by simpa using h2
    subst e1 e2;exact⟨a==b,by simp,by simp⟩
   |string=>
    cases x<;>try (simp at h1;done)
    cases y<;>try (simp at h2;done)
    exact⟨_,rfl,by simp⟩
   |struct fs=>
    cases x<;>try (simp at h1;done)
    cases y<;>try (simp at h2;done)
    rename_i xs ys;simp only[zac] at h1 h2;obtain⟨⟨⟨l1,t1⟩,s1⟩,f1⟩:=h1;obtain⟨⟨⟨l2,_⟩,_⟩,f2⟩:=h2;have s1:Q.stoodInHeld t=false:=by simpa using s1
    obtain⟨c,hc,fQ⟩:=jq (Q:=Q) (go:=vH Q n) (xs:=xs) (ys:=ys) (zab l1) (zab l2) (sh:=cO Q n) (λt x y a b=>fE n t x y a b) fs.toList 0 t1 (za0 _)
     (λf hf=>zaO.1 f1 f hf) (λf hf=>zaO.1 f2 f hf)
    refine⟨c,by simp only[s1];exact hc,?_⟩;rw[fQ];simp
   |array m e=>
    cases x<;>try (simp at h1;done)
    cases y<;>try (simp at h2;done)
    rename_i xs ys;simp only at h1 h2;cases hk:sz Q e with
    |none=>simp[hk] at h1
    |some k=>
    simp only[hk,zac] at h1 h2;obtain⟨⟨l1,t1⟩,f1⟩:=h1;obtain⟨⟨l2,_⟩,f2⟩:=h2;obtain⟨c,hc,fQ⟩:=jq (Q:=Q) (go:=vH Q n) (xs:=xs) (ys:=ys) (zab l1) (zab l2) (sh:=cO Q n) (λt x y a b=>fE n t x y a b) (rO m e k) 0 t1 (za0 _)
     (λf hf=>zaO.1 f1 f hf) (λf hf=>zaO.1 f2 f hf)
    refine⟨c,by show(match sz Q e with |some k=>nD Q (vH Q n) (rO m e k) xs ys |none=>none)=some c;rw[hk];exact hc,?_⟩;rw[fQ];simp
   |_=>simp at h1
theorem aM{Q:Program}{kt:TypeId}{k:D}(h:bH Q kt k=true):cO Q 20 kt k=true/\(∀c∈k.cells,c.uj=true)/\ ∃v,k.aX=some v/\ ∀em,∃u,ai Q (Instr.checkKey em 10000 kt v)=some u:=by
 simp only[bH,zac] at h;refine⟨h.1.1,zaO.1 h.1.2,?_⟩;have h2:=h.2;split at h2
 next v hv=>
  split at h2
  next a b ha hb=>exact⟨v,hv,λem=>by cases em;exact⟨_,ha⟩;exact⟨_,hb⟩⟩
  cases h2
 cases h2
theorem kW{Q:Program}{kt:TypeId}{k:D}{v:Value}(hs:cO Q 20 kt k=true)(hv:k.aX=some v): ∀(ks:List (D×D)) (es:List MapEntry) (i0:Nat),ks.length=es.length->
  (∀(i:Nat) (p:D×D) (e:MapEntry),ks[i]?=some p->es[i]?=some e->cO Q 20 kt p.1=true/\p.1.aX=some e.key)->
  ∃r,ai Q (Instr.findAsking kt v es i0)=some r/\((r=none/\ ∀p∈ks,p.1≠k)\/ ∃i p e,r=some (i0+i,e.val)/\ks[i]?=some p/\es[i]?=some e/\p.1=k)
 | [],[],i0,_,_=>⟨none,rfl,.inl ⟨rfl,by simp⟩⟩
 | [],e::es,i0,h,_=>by simp at h
 |p::ks,[],i0,h,_=>by simp at h
 |p::ks,e::es,i0,hl,h=>by
  obtain⟨h1,h2⟩:=h 0 p e rfl rfl;obtain⟨c,hc,fQ⟩:=fE 20 kt k p.1 hs h1;have he:=bZ 20 10000 kt k p.1 c v e.key (by omega) hc hv h2;unfold Instr.findAsking;have eq:Op.equal kt v e.key=Op.equalIn 10000 kt v e.key:=rfl;rw[ag,eq,he,zai];cases c with
  |true=>exact⟨_,rfl,.inr ⟨0,p,e,rfl,rfl,rfl,(fQ.1 rfl).symm⟩⟩
  |false=>
   obtain⟨r,hr,lV⟩:=kW hs hv ks es (i0+1) (by simpa using hl) λi p e hp he=>h (i+1) p e (by simpa using hp) (by simpa using he);refine⟨r,hr,?_⟩;have cc:p.1≠k:=λe=>by have:=fQ.2 e.symm;cases this
   rcases lV with⟨rfl,dk⟩| ⟨i,p',e',rfl,a,b,c⟩
   ·exact .inl ⟨rfl,λq hq=>by
     rcases zav.1 hq with rfl |hq
     ·exact cc
     exact dk q hq⟩
   exact .inr ⟨i+1,p',e',by rw[show i0+(i+1)=i0+1+i by omega],by simpa using a,by simpa using b,c⟩
theorem qt{Q:Program}{kt:TypeId}{d:TypeDesc}(hd:Q.underlying kt=some d){v u:Value}{c:Bool}(h:Instr.sameNow d v u=some c):ai Q (Op.equal kt v u)=some c:=by
 have eq:Op.equal kt v u=Op.equalIn (9999+1) kt v u:=rfl;unfold Instr.sameNow at h;split at h
 ·split at h
  next hk=>subst hk;rw[eq,Op.equalIn,ag,aq hd];simp only[zai,za2];exact h
  cases h
 ·rw[eq,Op.equalIn,ag,aq hd];exact h
 ·rw[eq,Op.equalIn,ag,aq hd];exact h
 cases h
theorem mh{Q:Program}{kt:TypeId}{d:TypeDesc}(hd:Q.underlying kt=some d){v:Value}: ∀(es:List MapEntry) (i:Nat) (r:Option (Nat×Value)),Instr.findNow d v es i=some r->ai Q (Instr.findAsking kt v es i)=some r
 | [],i,r,h=>by simp[Instr.findNow] at h;subst h;rfl
 |e::es,i,r,h=>by
  unfold Instr.findNow at h;unfold Instr.findAsking;split at h
  next hs=>simp only[zae] at h;subst h;rw[ag,qt hd hs];rfl
  next hs=>rw[ag,qt hd hs];exact mh hd es (i+1) r h
  cases h
theorem jW{Q:Program}{kt:TypeId}{k:D}{v:Value}(hs:cO Q 20 kt k=true)(hv:k.aX=some v){ks:List (D×D)}{es:List MapEntry}(hl:ks.length=es.length)
  (h: ∀(i:Nat) (p:D×D) (e:MapEntry),ks[i]?=some p->es[i]?=some e->cO Q 20 kt p.1=true/\p.1.aX=some e.key) (w:World):
  ∃r,(Instr.findKey kt v es).run Q w= .ok r w/\((r=none/\ ∀p∈ks,p.1≠k)\/ ∃i p e,r=some (i,e.val)/\ks[i]?=some p/\es[i]?=some e/\p.1=k):=by
 obtain⟨r,hr,lV⟩:=kW hs hv ks es 0 hl h;refine⟨r,?_,?_⟩
 ·have hd: ∃d,Q.underlying kt=some d:=by
   unfold cO at hs;cases hd:Q.underlying kt with
   |none=>rw[hd] at hs;simp at hs
   |some d=>exact⟨d,rfl⟩
  obtain⟨d,hd⟩:=hd;refine aU ?_ w;unfold Instr.findKey;rw[ag,aq hd,zai];cases hn:Instr.findNow d v es 0 with
  |none=>exact hr
  |some r'=>have:=mh hd es 0 r' hn;rw[hr] at this;cases this;rfl
 simpa using lV
theorem kz: ∀(x:D) (v:Value),(∀c∈x.cells,c.uj=true)->x.aX=some v->Instr.sameBits 10000 v v=true:=by
 have cell: ∀(n:Nat) (x:D) (v:Value),x.uj=true->x.cp=some v->Instr.sameBits (n+1) v v=true:=by
  intro n x v hl h;cases x<;>simp[D.cp] at h<;>simp[D.uj] at hl<;>subst h
  ·simp[Instr.sameBits]
  ·simp[Instr.sameBits]
  rename_i s;show((⟨⟨s⟩⟩:ByteArray)==⟨⟨s⟩⟩)=true;show((⟨s⟩:Array UInt8)==⟨s⟩)=true;simp
 intro x v pg h;cases x with
 |agg cs=>
  simp only[D.aX] at h;split at h
  next vs r8=>
   simp only[zae] at h;subst h;simp only[Instr.sameBits,zaE,Bool.true_and];rw[zaO];intro p hp;have: ∀(l:List Value) (p:Value×Value),p∈l.zip l->p.1=p.2/\p.1∈l:=by
    intro l
    induction l with
    |nil=>intro p hp;cases hp
    |cons y l ih=>
     intro p hp;rcases zav.1 hp with rfl |hp
     ·exact⟨rfl,by simp⟩
     have:=ih p hp;exact⟨this.1,by simp[this.2]⟩
   obtain⟨e1,e2⟩:=this vs p hp;obtain⟨a,b⟩:=p;simp only at e1 e2⊢;subst e1;obtain⟨i,hi,rfl⟩:=zaU e2;have hl:=qp r8;obtain⟨u,h1,h2⟩:=mf (i:=i) (x:=cs[i]'(by omega)) r8 (by simp);rw[zad hi] at h1;cases h1;exact cell 9998 _ _ (pg _ (by simp[D.cells])) h2
  cases h
 |bool b=>exact cell 9999 (.bool b) _ rfl h
 |int k n=>exact cell 9999 (.int k n) _ rfl h
 |str s=>exact cell 9999 (.str s) _ rfl h
 |_=>simp[D.cells,D.uj] at pg
section
variable{Q:Program}{T:Tg}{F:Nat->Prop}{G:Nat->Value}{w:World}{a:Act}{s:S}
theorem hD{t:TypeId}{z:D}(hz:bV Q t=some z)(w:World): ∃zv,(zeroValue t).run Q w= .ok zv w/\az F w zv z:=by
 unfold bV at hz;split at hz
 next i hi=>
  split at hz
  next zv tr=>exact⟨zv,by simp[zeroValue,typeInfo,hi,tr],az.kq F w hz⟩
  cases hz
 cases hz
theorem ct{t kt e:TypeId}(h:cC Q t=some (kt,e)):Q.underlying t=some (.map kt e):=by
 unfold cC at h;split at h
 ·simp only[zae,za4] at h;obtain⟨rfl,rfl⟩:=h;assumption
 cases h
theorem gG.look{kt:TypeId}{get:D->Option D}{n:Int}{es:List MapEntry}{clock:Nat}(h:gG Q F w kt get n es clock){k:D}{v:Value}(hk:bH Q kt k=true)(hv:k.aX=some v):
  ∃r,(Instr.findKey kt v es).run Q w= .ok r w/\((r=none/\get k=none)\/ ∃i e y,r=some (i,e.val)/\es[i]?=some e/\e.key=v/\get k=some y/\az F w e.val y):=by
 obtain⟨ks,h1,h2,h3,h4,h5,h6,h7⟩:=h;obtain⟨r,hr,lV⟩:=jW (aM hk).1 hv h1 (λi p e hp he=>⟨(aM (h3 i p e hp he).1).1,(h3 i p e hp he).2.1⟩) w;refine⟨r,hr,?_⟩;rcases lV with⟨rfl,dk⟩| ⟨i,p,e,rfl,hp,he,oo⟩
 ·refine .inl ⟨rfl,?_⟩;cases hg:get k with
  |none=>rfl
  |some y=>exact absurd rfl (dk _ ((h5 k y).1 hg))
 obtain⟨_,a2,a3⟩:=h3 i p e hp he;refine .inr ⟨i,e,p.2,rfl,he,?_,(h5 k p.2).2 ?_,a3⟩
 ·rw[oo,hv] at a2;exact(zbb a2).symm
 rw[<-oo];exact zaq hp
theorem qu(h:ar Q T F G w a s){n ay:Nat}{v:Value}{kt:Nat}{get:D->Option D}{c:Int}{last:Bool}(hv:ao F w G s.rg v (.mp n ay))(ho:s.obj n ay=some (.map kt get c last)):
  ∃e,lk s.rg n=some e/\e.ay=ay/\e.obj= .map kt get c last/\v=G n/\ ∃b es clock,G n= .map (some b)/\w.heap[b]?=some (.map es clock)/\gG Q F w kt get c es.toList clock:=by
 obtain⟨e,he,bP,aO⟩:=S.aJ ho;cases hv with
 |mp _ _ _ _ hr=>obtain⟨e',bb,hle,hc⟩:=hr;rw[he] at bb;cases bb;have hv:=hc bP.symm (by rw[aO];rfl);have:=h.rg n e he;rw[aO] at this;obtain⟨b,es,clock,h1,h2,h3,_⟩:=this;exact⟨e,he,bP,aO,hv,b,es,clock,h1,h2,h3⟩
theorem wH(h:ar Q T F G w a s){n ay:Nat}{v:Value}{kt:Nat}{get:D->Option D}{c:Int}{p:P}{kd:D}(hv:ao F w G s.rg v (.mp n ay))(ho:s.obj n ay=some (.eb kt get c p kd)):
  ∃e,lk s.rg n=some e/\e.ay=ay/\e.obj= .eb kt get c p kd/\v=G n/\ ∃b es clock,G n= .map (some b)/\w.heap[b]?=some (.map es clock)/\gG Q F w kt get c es.toList clock/\ ∃(i:Nat) (en:MapEntry),es[i]?=some en/\ao F w G s.rg (.int .i64 (en.born:Int)) p/\kd.aX=some en.key/\(get kd).isSome=true:=by
 obtain⟨e,he,bP,aO⟩:=S.aJ ho;cases hv with
 |mp _ _ _ _ hr=>obtain⟨e',bb,hle,hc⟩:=hr;rw[he] at bb;cases bb;have hv:=hc bP.symm (by rw[aO];rfl);have:=h.rg n e he;rw[aO] at this;obtain⟨b,es,clock,h1,h2,h3,h4⟩:=this;exact⟨e,he,bP,aO,hv,b,es,clock,h1,h2,h3,h4⟩
theorem oq{k:D}(p:P): ∀ks:List (D×P),(∀q∈ks,q.1≠k)->jK k ks=none/\lM k p ks=ks++[(k,p)]/\lN k ks=ks
 | [],_=>⟨rfl,rfl,rfl⟩
 | (j,q)::r,h=>by
  obtain⟨h1,h2,h3⟩:=oq p r λx hx=>h x (.tail _ hx);have cc:D.fy j k=false:=by
   cases hb:D.fy j k with
   |false=>rfl
   |true=>exact absurd ((D.b7 j k).1 hb) (h (j,q) (.head _))
  simp only[jK,lM,lN,cc,h1,h2,h3,zaL,List.cons_append,and_self]
theorem ot{k:D}(p:P): ∀(ks:List (D×P)) (i:Nat) (q:D×P),(ks.map (·.1)).Nodup->ks[i]?=some q->q.1=k->jK k ks=some q.2/\lM k p ks=ks.set i (k,p)/\lN k ks=ks.eraseIdx i
 | [],i,q,_,h,_=>by simp at h
 | (j,x)::r,0,q,_,h,hk=>by simp only[zcf,zae] at h;subst h;have hb:D.fy j k=true:=(D.b7 j k).2 hk;simp only[jK,lM,lN,hb,zaM,zbT,List.eraseIdx_cons_zero,and_self]
 | (j,x)::r,i+1,q,hn,h,hk=>by
  simp only[zbC] at h;rw[za7,zbn] at hn;obtain⟨h1,h2,h3⟩:=ot p r i q hn.2 h hk;have cc:D.fy j k=false:=by
   cases hb:D.fy j k with
   |false=>rfl
   |true=>have e:=(D.b7 j k).1 hb;exact absurd (zbK.2 ⟨q,zaq h,hk.trans e.symm⟩) hn.1
  simp only[jK,lM,lN,cc,h1,h2,h3,zaL,List.set_cons_succ,List.eraseIdx_cons_succ,and_self]
theorem qj.look{R:List (Nat×En)}{kt:TypeId}{ks:List (D×P)}{es:List MapEntry}{clock:Nat}(h:qj Q F w G R kt ks es clock){k:D}{v:Value}(hk:bH Q kt k=true)(hv:k.aX=some v)(p:P):
  ∃r,(Instr.findKey kt v es).run Q w= .ok r w/\((r=none/\(∀q∈ks,q.1≠k)/\jK k ks=none/\lM k p ks=ks++[(k,p)]/\lN k ks=ks)\/
   ∃i q e,r=some (i,e.val)/\ks[i]?=some q/\es[i]?=some e/\e.key=v/\ao F w G R e.val q.2/\q.1=k/\jK k ks=some q.2/\lM k p ks=ks.set i (k,p)/\lN k ks=ks.eraseIdx i):=by
 obtain⟨h1,h3,h4,h6,h7⟩:=h;obtain⟨r,hr,lV⟩:=jW (aM hk).1 hv (ks:=ks.map λx=>(x.1,D.gC)) (by rw[zat];exact h1) (λi p e hp he=>by rw[zao,zak] at hp;obtain⟨q,hq,rfl⟩:=hp;exact⟨(aM (h3 i q e hq he).1).1,(h3 i q e hq he).2.1⟩) w;refine⟨r,hr,?_⟩;rcases lV with⟨rfl,dk⟩| ⟨i,p0,e,rfl,hp,he,oo⟩
 ·have dY: ∀q∈ks,q.1≠k:=λq hq=>dk (q.1,D.gC) (zbK.2 ⟨q,hq,rfl⟩);exact .inl ⟨rfl,dY,oq p ks dY⟩
 rw[zao,zak] at hp;obtain⟨q,hq,rfl⟩:=hp;obtain⟨_,a2,a3⟩:=h3 i q e hq he;refine .inr ⟨i,q,e,rfl,hq,he,?_,a3,oo,ot p ks i q h4 hq oo⟩;have oo:q.1=k:=oo;rw[oo,hv] at a2;exact(zbb a2).symm
theorem qv(h:ar Q T F G w a s){n ay:Nat}{v:Value}{kt:Nat}{ks:List (D×P)}(hv:ao F w G s.rg v (.mp n ay))(ho:s.obj n ay=some (.a7 kt ks)):
  ∃e,lk s.rg n=some e/\e.ay=ay/\e.obj= .a7 kt ks/\v=G n/\ ∃b es clock,G n= .map (some b)/\w.heap[b]?=some (.map es clock)/\qj Q F w G s.rg kt ks es.toList clock:=by
 obtain⟨e,he,bP,aO⟩:=S.aJ ho;cases hv with
 |mp _ _ _ _ hr=>obtain⟨e',bb,hle,hc⟩:=hr;rw[he] at bb;cases bb;have hv:=hc bP.symm (by rw[aO];rfl);have:=h.rg n e he;rw[aO] at this;obtain⟨b,es,clock,h1,h2,h3⟩:=this;exact⟨e,he,bP,aO,hv,b,es,clock,h1,h2,h3⟩
theorem sa(h:ar Q T F G w a s){t kt e:TypeId}{p i q:P}{ok:Bool}{z:D}(ht:cC Q t=some (kt,e))(hz:bV Q e=some z){v u:Value}(hv:ao F w G s.rg v p)(hu:ao F w G s.rg u i)
  (hq:bL Q s t p i ok z=some q): ∃r,(Instr.lookup t v u ok).run Q w= .ok r w/\ao F w G s.rg r q:=by
 have eo:=ct ht;obtain⟨zv,nw,qd⟩:=hD (F:=F) hz w;have two: ∀(v1:Value) (x:D) (b:Bool),az F w v1 x->ao F w G s.rg (.tuple #[v1,.bool b]) (.dW [.d x,.d (.bool b)]):=λv1 x b hx=>
  .dW [v1,.bool b] _ rfl (λi v c hv hc=>by
   match i with
   |0=>simp at hv hc;subst hv;subst hc;exact .d hx
   |1=>simp at hv hc;subst hv;subst hc;exact .d (.bool b)
   |i+2=>simp at hv)
 unfold bL at hq;rw[ht] at hq;split at hq
 next gJ e' n ay k tu=>
  simp only[zae,za4] at tu;obtain⟨rfl,rfl⟩:=tu;split at hq
  next yK get c last ho=>
   split at hq
   ·rename_i hc;simp only[zac] at hc;have kX:=zab hc.1;subst kX;obtain⟨_,_,⟨kv,jb,jr⟩⟩:=aM hc.2;have AF:u=kv:=hu.aX (p:= .d k) jb;subst AF;obtain⟨e0,_,_,_,jc,b,es,clock,hG,hb,hM⟩:=qu h hv ho;rw[hG] at jc;subst jc;obtain⟨ck,fq⟩:=jr es.isEmpty;have fq:=aU fq w;obtain⟨r,hr,lV⟩:=hM.look hc.2 jb;rcases lV with⟨rfl,hg⟩| ⟨j,en,y,rfl,_,_,hg,hy⟩
    ·rw[hg] at hq;cases ok with
     |true=>simp at hq;subst hq;exact⟨.tuple #[zv,.bool false],by simp[Instr.lookup,run_underlying eo,MapKept.run_getObj_map hb,fq,hr,nw],two _ _ _ qd⟩
     |false=>simp at hq;subst hq;exact⟨zv,by simp[Instr.lookup,run_underlying eo,MapKept.run_getObj_map hb,fq,hr,nw],.d qd⟩
    rw[hg] at hq;cases ok with
    |true=>simp at hq;subst hq;exact⟨.tuple #[en.val,.bool true],by simp[Instr.lookup,run_underlying eo,MapKept.run_getObj_map hb,fq,hr],two _ _ _ hy⟩
    |false=>simp at hq;subst hq;exact⟨en.val,by simp[Instr.lookup,run_underlying eo,MapKept.run_getObj_map hb,fq,hr],.d hy⟩
   cases hq
  next yK get c pE H0 ho=>
   split at hq
   ·rename_i hc;simp only[zac,zaV] at hc;obtain⟨⟨iC,kX⟩,sb⟩:=hc;have kX:=zab kX;subst kX;subst iC;obtain⟨_,_,⟨kv,jb,jr⟩⟩:=aM sb;have AF:u=kv:=hu.aX (p:= .d k) jb;subst AF;obtain⟨e0,_,_,_,jc,b,es,clock,hG,hb,hM,_⟩:=wH h hv ho;rw[hG] at jc;subst jc;obtain⟨ck,fq⟩:=jr es.isEmpty;have fq:=aU fq w;obtain⟨r,hr,lV⟩:=hM.look sb jb;rcases lV with⟨rfl,hg⟩| ⟨j,en,y,rfl,_,_,hg,hy⟩
    ·rw[hg] at hq;simp at hq;subst hq;exact⟨zv,by simp[Instr.lookup,run_underlying eo,MapKept.run_getObj_map hb,fq,hr,nw],.d qd⟩
    rw[hg] at hq;simp at hq;subst hq;exact⟨en.val,by simp[Instr.lookup,run_underlying eo,MapKept.run_getObj_map hb,fq,hr],.d hy⟩
   cases hq
  next yK ks ho=>
   split at hq
   ·rename_i hc;simp only[zac] at hc;have kX:=zab hc.1;subst kX;obtain⟨_,_,⟨kv,jb,jr⟩⟩:=aM hc.2;have AF:u=kv:=hu.aX (p:= .d k) jb;subst AF;obtain⟨e0,_,_,_,jc,b,es,clock,hG,hb,hM⟩:=qv h hv ho;rw[hG] at jc;subst jc;obtain⟨ck,fq⟩:=jr es.isEmpty;have fq:=aU fq w;obtain⟨r,hr,lV⟩:=hM.look hc.2 jb .bad;have Ep: ∀(v1:Value) (p:P) (b:Bool),ao F w G s.rg v1 p->ao F w G s.rg (.tuple #[v1,.bool b]) (.dW [p,.d (.bool b)]):=λv1 p b hx=>
     .dW [v1,.bool b] _ rfl (λi v c hv hc=>by
      match i with
      |0=>simp at hv hc;subst hv;subst hc;exact hx
      |1=>simp at hv hc;subst hv;subst hc;exact .d (.bool b)
      |i+2=>simp at hv)
    rcases lV with⟨rfl,_,hg,_⟩| ⟨j,q0,en,rfl,_,_,_,hy,_,hg,_⟩
    ·rw[hg] at hq;cases ok with
     |true=>simp at hq;subst hq;exact⟨.tuple #[zv,.bool false],by simp[Instr.lookup,run_underlying eo,MapKept.run_getObj_map hb,fq,hr,nw],two _ _ _ qd⟩
     |false=>simp at hq;subst hq;exact⟨zv,by simp[Instr.lookup,run_underlying eo,MapKept.run_getObj_map hb,fq,hr,nw],.d qd⟩
    rw[hg] at hq;cases ok with
    |true=>simp at hq;subst hq;exact⟨.tuple #[en.val,.bool true],by simp[Instr.lookup,run_underlying eo,MapKept.run_getObj_map hb,fq,hr],Ep _ _ _ hy⟩
    |false=>simp at hq;subst hq;exact⟨en.val,by simp[Instr.lookup,run_underlying eo,MapKept.run_getObj_map hb,fq,hr],hy⟩
   cases hq
  cases hq
 next gJ e' k tu=>
  simp only[zae,za4] at tu;obtain⟨rfl,rfl⟩:=tu;split at hq
  next hc=>
   obtain⟨tq,_,⟨kv,jb,jr⟩⟩:=aM hc;have AF:u=kv:=hu.aX (p:= .d k) jb;subst AF;have tl:v= .map none:=hv.aX (p:= .d .jJ) rfl;subst tl;obtain⟨ck,fq⟩:=jr true;have fq:=aU fq w;obtain⟨r,hr,lV⟩:=jW (ks:=[]) (es:=[]) tq jb rfl (λi p e hp=>by simp at hp) w;have FX:r=none:=by
    rcases lV with⟨rfl,_⟩| ⟨i,p,e,_,hp,_⟩
    ·rfl
    simp at hp
   subst FX;cases ok with
   |true=>simp at hq;subst hq;exact⟨.tuple #[zv,.bool false],by simp[Instr.lookup,run_underlying eo,fq,hr,nw],two _ _ _ qd⟩
   |false=>simp at hq;subst hq;exact⟨zv,by simp[Instr.lookup,run_underlying eo,fq,hr,nw],.d qd⟩
  cases hq
 cases hq
theorem az.tv(F:Nat->Prop)(w:World){x:D}{v:Value}(h:x.cp=some v):az F w v x:=by cases x<;>simp[D.cp] at h<;>subst h<;>constructor
theorem tA: ∀(cs:List D) (vs:List Value),D.bq cs=some vs->vs.length=cs.length/\ ∀(i:Nat) (v:Value) (c:D),vs[i]?=some v->cs[i]?=some c->c.cp=some v
 | [],vs,h=>by simp[D.bq] at h;subst h;exact⟨rfl,λi v c hv=>by simp at hv⟩
 |x::r,vs,h=>by
  simp only[D.bq] at h;split at h
  next v1 GJ h1 h2=>
   simp at h;subst h;obtain⟨k1,k2⟩:=tA r GJ h2;refine⟨by simp[k1],λi v c hv hc=> ?_⟩;cases i with
   |zero=>simp at hv hc;subst hv;subst hc;exact h1
   |succ i=>exact k2 i v c (by simpa using hv) (by simpa using hc)
  cases h
theorem az.AG(F:Nat->Prop)(w:World){x:D}{v:Value}(h:x.aX=some v):az F w v x:=by
 cases x with
 |agg cs=>
  simp only[D.aX] at h;split at h
  next vs r8=>
   simp at h;subst h;obtain⟨k1,k2⟩:=tA cs vs r8;refine .agg vs cs k1 (λc hc=> ?_) λi v c hv hc=>az.tv F w (k2 i v c hv hc);obtain⟨i,hi⟩:=zas hc;have bA:i<vs.length:=by have:=(zaa.1 hi).1;omega
   have:=k2 i _ c (zad bA) hi;cases c<;>first |rfl |simp[D.cp] at this
  cases h
 |_=>exact az.tv F w h
theorem mj(e:MapEntry): ∀l:List MapEntry,e∈l->(l.map (·.born)).Nodup->l.find? (λx=>x.born==e.born)=some e
 | [],h,_=>by cases h
 |x::r,h,hn=>by
  rw[za7,zbn] at hn;rw[List.find?_cons];rcases zav.1 h with rfl |h
  ·simp
  have cc:x.born≠e.born:=λhx=>hn.1 (zbK.2 ⟨e,h,hx.symm⟩);have:(x.born==e.born)=false:=by simpa using cc
  rw[this];exact mj e r h hn.2
theorem ph{r m since:Nat}{seen:Array Nat}{es:Array MapEntry}{clock:Nat}{e:MapEntry}(hr:w.heap[r]?=some (.mapIter (some m) since (seen.push e.born) clock))(hm:w.heap[m]?=some (.map es clock))(he:e∈es.toList)(hn:(es.toList.map (·.born)).Nodup):
  (Instr.entry (.pointer (some ⟨r,0,none⟩))).run Q w= .ok (.tuple #[e.key,e.val]) w:=by
 have hf:es.find? (λx=>x.born==e.born)=some e:=by rw[<-Array.find?_toList];exact mj e _ he hn
 have hc:(clock !=clock)=false:=by simp
 simp only[Instr.entry,getObj,Sem.run_bind,Sem.run,hr,hm,Result.andThen,Array.back?_push,hc,zaz,zbe,hf];rfl
theorem uw(h:ar Q T F G w a s){p q:P}{v:Value}(hv:ao F w G s.rg v p)(hq:gO s p=some q): ∃r,(Instr.entry v).run Q w= .ok r w/\ao F w G s.rg r q:=by
 unfold gO at hq;split at hq
 next n ay=>
  split at hq
  next kt vt left k x ho=>
   simp only[zae] at hq;subst hq;obtain⟨e,he,bP,aO⟩:=S.aJ ho;have hO:=h.rg n e he;rw[aO] at hO;obtain⟨b,mo,since,seen,last,hg,hh,hO⟩:=hO;cases hv with
   |ref _ _ _ _ hr h1=>
    obtain⟨b',sc,rfl⟩:=hr.at he bP (by rw[aO];rfl);rw[hg] at sc;simp at sc;subst sc;rcases hO with⟨_,_,hc⟩| ⟨m,es,rfl,hF,hm,Ck,⟨ks,g1,g3,g4,g5,g6,g7⟩,hc⟩
    ·cases hc
    subst Ck;obtain⟨en,dZ,gw,hk,hx⟩:=hc k x rfl;obtain⟨sn,rfl⟩:=Array.back?_eq_some_iff.1 gw;refine⟨_,ph hh hm dZ g6,.dW [en.key,en.val] _ rfl λi v c hv hc=> ?_⟩
    match i with
    |0=>simp at hv hc;subst hv;subst hc;exact .d (az.AG F w hk)
    |1=>simp at hv hc;subst hv;subst hc;exact .d hx
    |i+2=>simp at hv
  cases hq
 cases hq
end
end Pi
