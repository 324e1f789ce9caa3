/- The text PiMap. -/
import Derived.Test.YtfelfooeclnbiaaPiEq
import Derived.MapKept
namespace Pi
open Go
mutual
theorem D.cH: ∀(x y:D),D.dh x y=true↔x=y
 | .bool a,y=>by cases y<;>simp[D.dh]
 | .int k a,y=>by cases y<;>simp[D.dh]
 | .str a,y=>by cases y<;>simp[D.dh]
 | .agg a,y=>by cases y<;>simp[D.dh,D.mx a]
 | .sl k a,y=>by cases y<;>simp[D.dh,D.mx a]
 | .dm,y=>by cases y<;>simp[D.dh]
 | .gE,y=>by cases y<;>simp[D.dh]
 | .jS,y=>by cases y<;>simp[D.dh]
 | .o6,y=>by cases y<;>simp[D.dh]
 | .o7,y=>by cases y<;>simp[D.dh]
theorem D.mx: ∀(x y:List D),D.r1 x y=true↔x=y
 | [],y=>by cases y<;>simp[D.r1]
 |x::xs,y=>by
  cases y with
  |nil=>simp[D.r1]
  |cons y ys=>simp[D.r1,D.cH x,D.mx xs]
end
theorem ov(k v:D)(get:D->Option D):cJ k v get k=some v:=by unfold cJ;rw[(D.cH k k).2 rfl];rfl
theorem tF{k k':D}(v:D)(get:D->Option D)(h:k≠k'):cJ k v get k'=get k':=by
 unfold cJ;cases hb:D.dh k k' with
 |false=>rfl
 |true=>exact absurd ((D.cH k k').1 hb) h
theorem sr{Q:Program}{t:TypeId}{k:Nat}(h:sz Q t=some k):Q.cellsOf t=k:=by obtain⟨i,d,hi,_,rfl⟩:=cG h;unfold Program.cellsOf;rw[hi];rfl
theorem wH{Q:Program}{t:TypeId}{xs ys:List D}{off:Nat}{x y:D}(tG:(bF Q t ||Nat.beq (Q.cellsOf t) 1)=true)(h1:di Q t xs off=some x)(h2:di Q t ys off=some y):
  x=y↔(xs.drop off).take (Q.cellsOf t)=(ys.drop off).take (Q.cellsOf t):=by
 unfold di at h1 h2;cases hk:sz Q t with
 |none=>rw[hk] at h1;cases h1
 |some k=>
  rw[hk] at h1 h2;have e:=sr hk;rw[e] at tG⊢;simp only at h1 h2;cases ha:bF Q t with
  |true=>
   rw[ha] at h1 h2;simp only[zaT] at h1 h2;split at h1
   ·split at h2
    ·cases h1;cases h2;simp
    cases h2
   cases h1
  |false=>
   rw[ha] at h1 h2 tG;simp only[zaz,za6] at h1 h2;have yQ:k=1:=by simpa using tG
   subst yQ;have l1:=(zaa.1 h1).1;have l2:=(zaa.1 h2).1;have e1:(xs.drop off).take 1=[x]:=by rw[zbq l1];simp[(zaa.1 h1).2]
   have e2:(ys.drop off).take 1=[y]:=by rw[zbq l2];simp[(zaa.1 h2).2]
   rw[e1,e2];simp
theorem jB{Q:Program}{go:TypeId->D->D->Option Bool}{xs ys:List D}{nL:Nat}(hx:xs.length=nL)(hy:ys.length=nL)
  {sh:TypeId->D->Bool} (Ag: ∀t x y,sh t x=true->sh t y=true-> ∃c,go t x y=some c/\(c=true↔x=y)): ∀(fs:List Field) (off:Nat),gv Q off fs nL=true->off<=nL->
  (∀f∈fs,(!(f.name== "_")&&(bF Q f.type ||Nat.beq (Q.cellsOf f.type) 1)&&(match di Q f.type xs f.offset with |some y=>sh f.type y |none=>false))=true)->
  (∀f∈fs,(!(f.name== "_")&&(bF Q f.type ||Nat.beq (Q.cellsOf f.type) 1)&&(match di Q f.type ys f.offset with |some y=>sh f.type y |none=>false))=true)->
  ∃c,nK Q go fs xs ys=some c/\(c=true↔xs.drop off=ys.drop off)
 | [],off,ht,hle,_,_=>by have:off=nL:=zab ht;refine⟨true,rfl,?_⟩;rw[zaM (by omega),zaM (by omega)];simp
 |f::r,off,ht,hle,h1,h2=>by
  simp only[gv,zac] at ht;have ho:f.offset=off:=zab ht.1;have yR:off+Q.cellsOf f.type<=nL:=by
   have: ∀(fs:List Field) (o:Nat),gv Q o fs nL=true->o<=nL:=by
    intro fs
    induction fs with
    |nil=>intro o h;exact Nat.le_of_eq (zab h)
    |cons g gs ih=>intro o h;simp only[gv,zac] at h;have:=ih _ h.2;omega
   exact this r _ ht.2
  obtain⟨c,hc,fT⟩:=jB hx hy Ag r _ ht.2 yR (λg hg=>h1 g (by simp[hg])) (λg hg=>h2 g (by simp[hg]));have a1:=h1 f (by simp);have a2:=h2 f (by simp);simp only[zac] at a1 a2;obtain⟨⟨hn,tG⟩,b1⟩:=a1;obtain⟨_,b2⟩:=a2;have hn:(f.name== "_")=false:=by simpa using hn
  unfold nK;rw[hn];simp only;cases p1:di Q f.type xs f.offset with
  |none=>rw[p1] at b1;cases b1
  |some x=>
   cases p2:di Q f.type ys f.offset with
   |none=>rw[p2] at b2;cases b2
   |some y=>
    rw[p1] at b1;rw[p2] at b2;obtain⟨a,ha,Ho⟩:=Ag f.type x y b1 b2;simp only[ha,hc];refine⟨a&&c,rfl,?_⟩;rw[zac,Ho,fT,wH tG p1 p2,ho];have wI: ∀l:List D,l.drop off=(l.drop off).take (Q.cellsOf f.type)++l.drop (off+Q.cellsOf f.type):=λl=>by rw[<-zb0,zbz]
    constructor
    ·rintro⟨e1,e2⟩;rw[wI xs,wI ys,e1,e2]
    intro e;refine⟨by rw[e],?_⟩;rw[<-zb0,<-zb0,e]
theorem fF{Q:Program}: ∀(n:Nat) (t:TypeId) (x y:D),cK Q n t x=true->cK Q n t y=true-> ∃c,vF Q n t x y=some c/\(c=true↔x=y)
 |0,_,_,_,h,_=>by simp[cK] at h
 |n+1,t,x,y,h1,h2=>by
  unfold cK at h1 h2;unfold vF;cases hd:Q.underlying t with
  |none=>rw[hd] at h1;simp at h1
  |some d=>
   rw[hd] at h1 h2;cases d with
   |bool=>
    cases x<;>try (simp at h1;done)
    cases y<;>try (simp at h2;done)
    exact⟨_,rfl,by simp⟩
   |int k=>
    cases x<;>try (simp at h1;done)
    cases y<;>try (simp at h2;done)
    rename_i k1 a k2 b;have e1:k=k1:=by simpa using h1
    have e2:k=k2:=by simpa using h2
    subst e1 e2;exact⟨a==b,by simp,by simp⟩
   |string=>
    cases x<;>try (simp at h1;done)
    cases y<;>try (simp at h2;done)
    exact⟨_,rfl,by simp⟩
   |struct fs=>
    cases x<;>try (simp at h1;done)
    cases y<;>try (simp at h2;done)
    rename_i xs ys;simp only[zac] at h1 h2;obtain⟨⟨⟨l1,t1⟩,s1⟩,f1⟩:=h1;obtain⟨⟨⟨l2,_⟩,_⟩,f2⟩:=h2;have s1:Q.stoodInHeld t=false:=by simpa using s1
    obtain⟨c,hc,fT⟩:=jB (Q:=Q) (go:=vF Q n) (xs:=xs) (ys:=ys) (zab l1) (zab l2) (sh:=cK Q n) (λt x y a b=>fF n t x y a b) fs.toList 0 t1 (zaR _)
     (λf hf=>zaI.1 f1 f hf) (λf hf=>zaI.1 f2 f hf)
    refine⟨c,by simp only[s1];exact hc,?_⟩;rw[fT];simp
   |array m e=>
    cases x<;>try (simp at h1;done)
    cases y<;>try (simp at h2;done)
    rename_i xs ys;simp only at h1 h2;cases hk:sz Q e with
    |none=>simp[hk] at h1
    |some k=>
    simp only[hk,zac] at h1 h2;obtain⟨⟨l1,t1⟩,f1⟩:=h1;obtain⟨⟨l2,_⟩,f2⟩:=h2;obtain⟨c,hc,fT⟩:=jB (Q:=Q) (go:=vF Q n) (xs:=xs) (ys:=ys) (zab l1) (zab l2) (sh:=cK Q n) (λt x y a b=>fF n t x y a b) (r3 m e k) 0 t1 (zaR _)
     (λf hf=>zaI.1 f1 f hf) (λf hf=>zaI.1 f2 f hf)
    refine⟨c,by show(match sz Q e with |some k=>nK Q (vF Q n) (r3 m e k) xs ys |none=>none)=some c;rw[hk];exact hc,?_⟩;rw[fT];simp
   |_=>simp at h1
theorem aL{Q:Program}{kt:TypeId}{k:D}(h:bG Q kt k=true):cK Q 20 kt k=true/\(∀c∈k.cells,c.uj=true)/\ ∃v,k.aW=some v/\ ∀em,∃u,ah Q (Instr.checkKey em 10000 kt v)=some u:=by
 simp only[bG,zac] at h;refine⟨h.1.1,zaI.1 h.1.2,?_⟩;have h2:=h.2;split at h2
 next v hv=>
  split at h2
  next a b ha hb=>exact⟨v,hv,λem=>by cases em;exact⟨_,ha⟩;exact⟨_,hb⟩⟩
  cases h2
 cases h2
theorem k8{Q:Program}{kt:TypeId}{k:D}{v:Value}(hs:cK Q 20 kt k=true)(hv:k.aW=some v): ∀(ks:List (D×D)) (es:List MapEntry) (i0:Nat),ks.length=es.length->
  (∀(i:Nat) (p:D×D) (e:MapEntry),ks[i]?=some p->es[i]?=some e->cK Q 20 kt p.1=true/\p.1.aW=some e.key)->
  ∃r,ah Q (Instr.findAsking kt v es i0)=some r/\((r=none/\ ∀p∈ks,p.1≠k)\/ ∃i p e,r=some (i0+i,e.val)/\ks[i]?=some p/\es[i]?=some e/\p.1=k)
 | [],[],i0,_,_=>⟨none,rfl,.inl ⟨rfl,by simp⟩⟩
 | [],e::es,i0,h,_=>by simp at h
 |p::ks,[],i0,h,_=>by simp at h
 |p::ks,e::es,i0,hl,h=>by
  obtain⟨h1,h2⟩:=h 0 p e rfl rfl;obtain⟨c,hc,fT⟩:=fF 20 kt k p.1 hs h1;have he:=bX 20 10000 kt k p.1 c v e.key (by omega) hc hv h2;unfold Instr.findAsking;have eq:Op.equal kt v e.key=Op.equalIn 10000 kt v e.key:=rfl;rw[ag,eq,he,zah];cases c with
  |true=>exact⟨_,rfl,.inr ⟨0,p,e,rfl,rfl,rfl,(fT.1 rfl).symm⟩⟩
  |false=>
   obtain⟨r,hr,l4⟩:=k8 hs hv ks es (i0+1) (by simpa using hl) λi p e hp he=>h (i+1) p e (by simpa using hp) (by simpa using he);refine⟨r,hr,?_⟩;have bY:p.1≠k:=λe=>by have:=fT.2 e.symm;cases this
   rcases l4 with⟨rfl,dg⟩| ⟨i,p',e',rfl,a,b,c⟩
   ·exact .inl ⟨rfl,λq hq=>by
     rcases zaw.1 hq with rfl |hq
     ·exact bY
     exact dg q hq⟩
   exact .inr ⟨i+1,p',e',by rw[show i0+(i+1)=i0+1+i by omega],by simpa using a,by simpa using b,c⟩
theorem qK{Q:Program}{kt:TypeId}{d:TypeDesc}(hd:Q.underlying kt=some d){v u:Value}{c:Bool}(h:Instr.sameNow d v u=some c):ah Q (Op.equal kt v u)=some c:=by
 have eq:Op.equal kt v u=Op.equalIn (9999+1) kt v u:=rfl;unfold Instr.sameNow at h;split at h
 ·split at h
  next hk=>subst hk;rw[eq,Op.equalIn,ag,ao hd];simp only[zah,zaT];exact h
  cases h
 ·rw[eq,Op.equalIn,ag,ao hd];exact h
 ·rw[eq,Op.equalIn,ag,ao hd];exact h
 cases h
theorem my{Q:Program}{kt:TypeId}{d:TypeDesc}(hd:Q.underlying kt=some d){v:Value}: ∀(es:List MapEntry) (i:Nat) (r:Option (Nat×Value)),Instr.findNow d v es i=some r->ah Q (Instr.findAsking kt v es i)=some r
 | [],i,r,h=>by simp[Instr.findNow] at h;subst h;rfl
 |e::es,i,r,h=>by
  unfold Instr.findNow at h;unfold Instr.findAsking;split at h
  next hs=>simp only[zae] at h;subst h;rw[ag,qK hd hs];rfl
  next hs=>rw[ag,qK hd hs];exact my hd es (i+1) r h
  cases h
theorem ke{Q:Program}{kt:TypeId}{k:D}{v:Value}(hs:cK Q 20 kt k=true)(hv:k.aW=some v){ks:List (D×D)}{es:List MapEntry}(hl:ks.length=es.length)
  (h: ∀(i:Nat) (p:D×D) (e:MapEntry),ks[i]?=some p->es[i]?=some e->cK Q 20 kt p.1=true/\p.1.aW=some e.key) (w:World):
  ∃r,(Instr.findKey kt v es).run Q w= .ok r w/\((r=none/\ ∀p∈ks,p.1≠k)\/ ∃i p e,r=some (i,e.val)/\ks[i]?=some p/\es[i]?=some e/\p.1=k):=by
 obtain⟨r,hr,l4⟩:=k8 hs hv ks es 0 hl h;refine⟨r,?_,?_⟩
 ·have hd: ∃d,Q.underlying kt=some d:=by
   unfold cK at hs;cases hd:Q.underlying kt with
   |none=>rw[hd] at hs;simp at hs
   |some d=>exact⟨d,rfl⟩
  obtain⟨d,hd⟩:=hd;refine aT ?_ w;unfold Instr.findKey;rw[ag,ao hd,zah];cases hn:Instr.findNow d v es 0 with
  |none=>exact hr
  |some r'=>have:=my hd es 0 r' hn;rw[hr] at this;cases this;rfl
 simpa using l4
theorem kJ: ∀(x:D) (v:Value),(∀c∈x.cells,c.uj=true)->x.aW=some v->Instr.sameBits 10000 v v=true:=by
 have cell: ∀(n:Nat) (x:D) (v:Value),x.uj=true->x.cm=some v->Instr.sameBits (n+1) v v=true:=by
  intro n x v hl h;cases x<;>simp[D.cm] at h<;>simp[D.uj] at hl<;>subst h
  ·simp[Instr.sameBits]
  ·simp[Instr.sameBits]
  rename_i s;show((⟨⟨s⟩⟩:ByteArray)==⟨⟨s⟩⟩)=true;show((⟨s⟩:Array UInt8)==⟨s⟩)=true;simp
 intro x v pq h;cases x with
 |agg cs=>
  simp only[D.aW] at h;split at h
  next vs sq=>
   simp only[zae] at h;subst h;simp only[Instr.sameBits,zbQ,Bool.true_and];rw[zaI];intro p hp;have: ∀(l:List Value) (p:Value×Value),p∈l.zip l->p.1=p.2/\p.1∈l:=by
    intro l
    induction l with
    |nil=>intro p hp;cases hp
    |cons y l ih=>
     intro p hp;rcases zaw.1 hp with rfl |hp
     ·exact⟨rfl,by simp⟩
     have:=ih p hp;exact⟨this.1,by simp[this.2]⟩
   obtain⟨e1,e2⟩:=this vs p hp;obtain⟨a,b⟩:=p;simp only at e1 e2⊢;subst e1;obtain⟨i,hi,rfl⟩:=zaO e2;have hl:=qJ sq;obtain⟨u,h1,h2⟩:=mw (i:=i) (x:=cs[i]'(by omega)) sq (by simp);rw[zad hi] at h1;cases h1;exact cell 9998 _ _ (pq _ (by simp[D.cells])) h2
  cases h
 |bool b=>exact cell 9999 (.bool b) _ rfl h
 |int k n=>exact cell 9999 (.int k n) _ rfl h
 |str s=>exact cell 9999 (.str s) _ rfl h
 |_=>simp[D.cells,D.uj] at pq
section
variable{Q:Program}{T:Tg}{F:Nat->Prop}{G:Nat->Value}{w:World}{a:Act}{s:S}
theorem ib{t:TypeId}{z:D}(hz:bS Q t=some z)(w:World): ∃zv,(zeroValue t).run Q w= .ok zv w/\ax F w zv z:=by
 unfold bS at hz;split at hz
 next i hi=>
  split at hz
  next zv tH=>exact⟨zv,by simp[zeroValue,typeInfo,hi,tH],ax.kD F w hz⟩
  cases hz
 cases hz
theorem cp{t kt e:TypeId}(h:cy Q t=some (kt,e)):Q.underlying t=some (.map kt e):=by
 unfold cy at h;split at h
 ·simp only[zae,zaV] at h;obtain⟨rfl,rfl⟩:=h;assumption
 cases h
theorem gG.look{kt:TypeId}{get:D->Option D}{n:Int}{es:List MapEntry}{clock:Nat}(h:gG Q F w kt get n es clock){k:D}{v:Value}(hk:bG Q kt k=true)(hv:k.aW=some v):
  ∃r,(Instr.findKey kt v es).run Q w= .ok r w/\((r=none/\get k=none)\/ ∃i e y,r=some (i,e.val)/\es[i]?=some e/\e.key=v/\get k=some y/\ax F w e.val y):=by
 obtain⟨ks,h1,h2,h3,h4,h5,h6,h7⟩:=h;obtain⟨r,hr,l4⟩:=ke (aL hk).1 hv h1 (λi p e hp he=>⟨(aL (h3 i p e hp he).1).1,(h3 i p e hp he).2.1⟩) w;refine⟨r,hr,?_⟩;rcases l4 with⟨rfl,dg⟩| ⟨i,p,e,rfl,hp,he,yh⟩
 ·refine .inl ⟨rfl,?_⟩;cases hg:get k with
  |none=>rfl
  |some y=>exact absurd rfl (dg _ ((h5 k y).1 hg))
 obtain⟨_,a2,a3⟩:=h3 i p e hp he;refine .inr ⟨i,e,p.2,rfl,he,?_,(h5 k p.2).2 ?_,a3⟩
 ·rw[yh,hv] at a2;exact(za2 a2).symm
 rw[<-yh];exact zan hp
theorem qL(h:aq Q T F G w a s){n aw:Nat}{v:Value}{kt:Nat}{get:D->Option D}{c:Int}{last:Bool}(hv:ak F w G s.rg v (.mp n aw))(ho:s.obj n aw=some (.map kt get c last)):
  ∃e,lk s.rg n=some e/\e.aw=aw/\e.obj= .map kt get c last/\v=G n/\ ∃b es clock,G n= .map (some b)/\w.heap[b]?=some (.map es clock)/\gG Q F w kt get c es.toList clock:=by
 obtain⟨e,he,bM,aO⟩:=S.aI ho;cases hv with
 |mp _ _ _ _ hr=>obtain⟨e',a7,hle,hc⟩:=hr;rw[he] at a7;cases a7;have hv:=hc bM.symm (by rw[aO];rfl);have:=h.rg n e he;rw[aO] at this;obtain⟨b,es,clock,h1,h2,h3,_⟩:=this;exact⟨e,he,bM,aO,hv,b,es,clock,h1,h2,h3⟩
theorem wJ(h:aq Q T F G w a s){n aw:Nat}{v:Value}{kt:Nat}{get:D->Option D}{c:Int}{p:P}{kd:D}(hv:ak F w G s.rg v (.mp n aw))(ho:s.obj n aw=some (.ei kt get c p kd)):
  ∃e,lk s.rg n=some e/\e.aw=aw/\e.obj= .ei kt get c p kd/\v=G n/\ ∃b es clock,G n= .map (some b)/\w.heap[b]?=some (.map es clock)/\gG Q F w kt get c es.toList clock/\ ∃(i:Nat) (en:MapEntry),es[i]?=some en/\ak F w G s.rg (.int .i64 (en.born:Int)) p/\kd.aW=some en.key/\(get kd).isSome=true:=by
 obtain⟨e,he,bM,aO⟩:=S.aI ho;cases hv with
 |mp _ _ _ _ hr=>obtain⟨e',a7,hle,hc⟩:=hr;rw[he] at a7;cases a7;have hv:=hc bM.symm (by rw[aO];rfl);have:=h.rg n e he;rw[aO] at this;obtain⟨b,es,clock,h1,h2,h3,h4⟩:=this;exact⟨e,he,bM,aO,hv,b,es,clock,h1,h2,h3,h4⟩
theorem ow{k:D}(p:P): ∀ks:List (D×P),(∀q∈ks,q.1≠k)->jT k ks=none/\lR k p ks=ks++[(k,p)]/\lS k ks=ks
 | [],_=>⟨rfl,rfl,rfl⟩
 | (j,q)::r,h=>by
  obtain⟨h1,h2,h3⟩:=ow p r λx hx=>h x (.tail _ hx);have bY:D.dh j k=false:=by
   cases hb:D.dh j k with
   |false=>rfl
   |true=>exact absurd ((D.cH j k).1 hb) (h (j,q) (.head _))
  simp only[jT,lR,lS,bY,h1,h2,h3,zbl,List.cons_append,and_self]
theorem oz{k:D}(p:P): ∀(ks:List (D×P)) (i:Nat) (q:D×P),(ks.map (·.1)).Nodup->ks[i]?=some q->q.1=k->jT k ks=some q.2/\lR k p ks=ks.set i (k,p)/\lS k ks=ks.eraseIdx i
 | [],i,q,_,h,_=>by simp at h
 | (j,x)::r,0,q,_,h,hk=>by simp only[zb4,zae] at h;subst h;have hb:D.dh j k=true:=(D.cH j k).2 hk;simp only[jT,lR,lS,hb,zbs,zbI,List.eraseIdx_cons_zero,and_self]
 | (j,x)::r,i+1,q,hn,h,hk=>by
  simp only[zbv] at h;rw[zaY,zbf] at hn;obtain⟨h1,h2,h3⟩:=oz p r i q hn.2 h hk;have bY:D.dh j k=false:=by
   cases hb:D.dh j k with
   |false=>rfl
   |true=>have e:=(D.cH j k).1 hb;exact absurd (zbA.2 ⟨q,zan h,hk.trans e.symm⟩) hn.1
  simp only[jT,lR,lS,bY,h1,h2,h3,zbl,List.set_cons_succ,List.eraseIdx_cons_succ,and_self]
theorem qD.look{R:List (Nat×En)}{kt:TypeId}{ks:List (D×P)}{es:List MapEntry}{clock:Nat}(h:qD Q F w G R kt ks es clock){k:D}{v:Value}(hk:bG Q kt k=true)(hv:k.aW=some v)(p:P):
  ∃r,(Instr.findKey kt v es).run Q w= .ok r w/\((r=none/\(∀q∈ks,q.1≠k)/\jT k ks=none/\lR k p ks=ks++[(k,p)]/\lS k ks=ks)\/
   ∃i q e,r=some (i,e.val)/\ks[i]?=some q/\es[i]?=some e/\e.key=v/\ak F w G R e.val q.2/\q.1=k/\jT k ks=some q.2/\lR k p ks=ks.set i (k,p)/\lS k ks=ks.eraseIdx i):=by
 obtain⟨h1,h3,h4,h6,h7⟩:=h;obtain⟨r,hr,l4⟩:=ke (aL hk).1 hv (ks:=ks.map λx=>(x.1,D.gE)) (by rw[zar];exact h1) (λi p e hp he=>by rw[zao,zaj] at hp;obtain⟨q,hq,rfl⟩:=hp;exact⟨(aL (h3 i q e hq he).1).1,(h3 i q e hq he).2.1⟩) w;refine⟨r,hr,?_⟩;rcases l4 with⟨rfl,dg⟩| ⟨i,p0,e,rfl,hp,he,yh⟩
 ·have eb: ∀q∈ks,q.1≠k:=λq hq=>dg (q.1,D.gE) (zbA.2 ⟨q,hq,rfl⟩);exact .inl ⟨rfl,eb,ow p ks eb⟩
 rw[zao,zaj] at hp;obtain⟨q,hq,rfl⟩:=hp;obtain⟨_,a2,a3⟩:=h3 i q e hq he;refine .inr ⟨i,q,e,rfl,hq,he,?_,a3,yh,oz p ks i q h4 hq yh⟩;have yh:q.1=k:=yh;rw[yh,hv] at a2;exact(za2 a2).symm
theorem qM(h:aq Q T F G w a s){n aw:Nat}{v:Value}{kt:Nat}{ks:List (D×P)}(hv:ak F w G s.rg v (.mp n aw))(ho:s.obj n aw=some (.aN kt ks)):
  ∃e,lk s.rg n=some e/\e.aw=aw/\e.obj= .aN kt ks/\v=G n/\ ∃b es clock,G n= .map (some b)/\w.heap[b]?=some (.map es clock)/\qD Q F w G s.rg kt ks es.toList clock:=by
 obtain⟨e,he,bM,aO⟩:=S.aI ho;cases hv with
 |mp _ _ _ _ hr=>obtain⟨e',a7,hle,hc⟩:=hr;rw[he] at a7;cases a7;have hv:=hc bM.symm (by rw[aO];rfl);have:=h.rg n e he;rw[aO] at this;obtain⟨b,es,clock,h1,h2,h3⟩:=this;exact⟨e,he,bM,aO,hv,b,es,clock,h1,h2,h3⟩
theorem su(h:aq Q T F G w a s){t kt e:TypeId}{p i q:P}{ok:Bool}{z:D}(ht:cy Q t=some (kt,e))(hz:bS Q e=some z){v u:Value}(hv:ak F w G s.rg v p)(hu:ak F w G s.rg u i)
  (hq:bJ Q s t p i ok z=some q): ∃r,(Instr.lookup t v u ok).run Q w= .ok r w/\ak F w G s.rg r q:=by
 have ew:=cp ht;obtain⟨zv,nH,ql⟩:=ib (F:=F) hz w;have two: ∀(v1:Value) (x:D) (b:Bool),ax F w v1 x->ak F w G s.rg (.tuple #[v1,.bool b]) (.dX [.d x,.d (.bool b)]):=λv1 x b hx=>
  .dX [v1,.bool b] _ rfl (λi v c hv hc=>by
   match i with
   |0=>simp at hv hc;subst hv;subst hc;exact .d hx
   |1=>simp at hv hc;subst hv;subst hc;exact .d (.bool b)
   |i+2=>simp at hv)
 unfold bJ at hq;rw[ht] at hq;split at hq
 next gP e' n aw k tI=>
  simp only[zae,zaV] at tI;obtain⟨rfl,rfl⟩:=tI;split at hq
  next yS get c last ho=>
   split at hq
   ·rename_i hc;simp only[zac] at hc;have k9:=zab hc.1;subst k9;obtain⟨_,_,⟨kv,jl,jC⟩⟩:=aL hc.2;have AY:u=kv:=hu.aW (p:= .d k) jl;subst AY;obtain⟨e0,_,_,_,jm,b,es,clock,hG,hb,hM⟩:=qL h hv ho;rw[hG] at jm;subst jm;obtain⟨ck,fw⟩:=jC es.isEmpty;have fw:=aT fw w;obtain⟨r,hr,l4⟩:=hM.look hc.2 jl;rcases l4 with⟨rfl,hg⟩| ⟨j,en,y,rfl,_,_,hg,hy⟩
    ·rw[hg] at hq;cases ok with
     |true=>simp at hq;subst hq;exact⟨.tuple #[zv,.bool false],by simp[Instr.lookup,run_underlying ew,MapKept.run_getObj_map hb,fw,hr,nH],two _ _ _ ql⟩
     |false=>simp at hq;subst hq;exact⟨zv,by simp[Instr.lookup,run_underlying ew,MapKept.run_getObj_map hb,fw,hr,nH],.d ql⟩
    rw[hg] at hq;cases ok with
    |true=>simp at hq;subst hq;exact⟨.tuple #[en.val,.bool true],by simp[Instr.lookup,run_underlying ew,MapKept.run_getObj_map hb,fw,hr],two _ _ _ hy⟩
    |false=>simp at hq;subst hq;exact⟨en.val,by simp[Instr.lookup,run_underlying ew,MapKept.run_getObj_map hb,fw,hr],.d hy⟩
   cases hq
  next yS get c pE II ho=>
   split at hq
   ·rename_i hc;simp only[zac,zaW] at hc;obtain⟨⟨iN,k9⟩,sv⟩:=hc;have k9:=zab k9;subst k9;subst iN;obtain⟨_,_,⟨kv,jl,jC⟩⟩:=aL sv;have AY:u=kv:=hu.aW (p:= .d k) jl;subst AY;obtain⟨e0,_,_,_,jm,b,es,clock,hG,hb,hM,_⟩:=wJ h hv ho;rw[hG] at jm;subst jm;obtain⟨ck,fw⟩:=jC es.isEmpty;have fw:=aT fw w;obtain⟨r,hr,l4⟩:=hM.look sv jl;rcases l4 with⟨rfl,hg⟩| ⟨j,en,y,rfl,_,_,hg,hy⟩
    ·rw[hg] at hq;simp at hq;subst hq;exact⟨zv,by simp[Instr.lookup,run_underlying ew,MapKept.run_getObj_map hb,fw,hr,nH],.d ql⟩
    rw[hg] at hq;simp at hq;subst hq;exact⟨en.val,by simp[Instr.lookup,run_underlying ew,MapKept.run_getObj_map hb,fw,hr],.d hy⟩
   cases hq
  next yS ks ho=>
   split at hq
   ·rename_i hc;simp only[zac] at hc;have k9:=zab hc.1;subst k9;obtain⟨_,_,⟨kv,jl,jC⟩⟩:=aL hc.2;have AY:u=kv:=hu.aW (p:= .d k) jl;subst AY;obtain⟨e0,_,_,_,jm,b,es,clock,hG,hb,hM⟩:=qM h hv ho;rw[hG] at jm;subst jm;obtain⟨ck,fw⟩:=jC es.isEmpty;have fw:=aT fw w;obtain⟨r,hr,l4⟩:=hM.look hc.2 jl .bad;have E5: ∀(v1:Value) (p:P) (b:Bool),ak F w G s.rg v1 p->ak F w G s.rg (.tuple #[v1,.bool b]) (.dX [p,.d (.bool b)]):=λv1 p b hx=>
     .dX [v1,.bool b] _ rfl (λi v c hv hc=>by
      match i with
      |0=>simp at hv hc;subst hv;subst hc;exact hx
      |1=>simp at hv hc;subst hv;subst hc;exact .d (.bool b)
      |i+2=>simp at hv)
    rcases l4 with⟨rfl,_,hg,_⟩| ⟨j,q0,en,rfl,_,_,_,hy,_,hg,_⟩
    ·rw[hg] at hq;cases ok with
     |true=>simp at hq;subst hq;exact⟨.tuple #[zv,.bool false],by simp[Instr.lookup,run_underlying ew,MapKept.run_getObj_map hb,fw,hr,nH],two _ _ _ ql⟩
     |false=>simp at hq;subst hq;exact⟨zv,by simp[Instr.lookup,run_underlying ew,MapKept.run_getObj_map hb,fw,hr,nH],.d ql⟩
    rw[hg] at hq;cases ok with
    |true=>simp at hq;subst hq;exact⟨.tuple #[en.val,.bool true],by simp[Instr.lookup,run_underlying ew,MapKept.run_getObj_map hb,fw,hr],E5 _ _ _ hy⟩
    |false=>simp at hq;subst hq;exact⟨en.val,by simp[Instr.lookup,run_underlying ew,MapKept.run_getObj_map hb,fw,hr],hy⟩
   cases hq
  cases hq
 next gP e' k tI=>
  simp only[zae,zaV] at tI;obtain⟨rfl,rfl⟩:=tI;split at hq
  next hc=>
   obtain⟨tG,_,⟨kv,jl,jC⟩⟩:=aL hc;have AY:u=kv:=hu.aW (p:= .d k) jl;subst AY;have tD:v= .map none:=hv.aW (p:= .d .jS) rfl;subst tD;obtain⟨ck,fw⟩:=jC true;have fw:=aT fw w;obtain⟨r,hr,l4⟩:=ke (ks:=[]) (es:=[]) tG jl rfl (λi p e hp=>by simp at hp) w;have GA:r=none:=by
    rcases l4 with⟨rfl,_⟩| ⟨i,p,e,_,hp,_⟩
    ·rfl
    simp at hp
   subst GA;cases ok with
   |true=>simp at hq;subst hq;exact⟨.tuple #[zv,.bool false],by simp[Instr.lookup,run_underlying ew,fw,hr,nH],two _ _ _ ql⟩
   |false=>simp at hq;subst hq;exact⟨zv,by simp[Instr.lookup,run_underlying ew,fw,hr,nH],.d ql⟩
  cases hq
 cases hq
theorem ax.tJ(F:Nat->Prop)(w:World){x:D}{v:Value}(h:x.cm=some v):ax F w v x:=by cases x<;>simp[D.cm] at h<;>subst h<;>constructor
theorem tK: ∀(cs:List D) (vs:List Value),D.bm cs=some vs->vs.length=cs.length/\ ∀(i:Nat) (v:Value) (c:D),vs[i]?=some v->cs[i]?=some c->c.cm=some v
 | [],vs,h=>by simp[D.bm] at h;subst h;exact⟨rfl,λi v c hv=>by simp at hv⟩
 |x::r,vs,h=>by
  simp only[D.bm] at h;split at h
  next v1 Hp h1 h2=>
   simp at h;subst h;obtain⟨k1,k2⟩:=tK r Hp h2;refine⟨by simp[k1],λi v c hv hc=> ?_⟩;cases i with
   |zero=>simp at hv hc;subst hv;subst hc;exact h1
   |succ i=>exact k2 i v c (by simpa using hv) (by simpa using hc)
  cases h
theorem ax.AZ(F:Nat->Prop)(w:World){x:D}{v:Value}(h:x.aW=some v):ax F w v x:=by
 cases x with
 |agg cs=>
  simp only[D.aW] at h;split at h
  next vs sq=>
   simp at h;subst h;obtain⟨k1,k2⟩:=tK cs vs sq;refine .agg vs cs k1 (λc hc=> ?_) λi v c hv hc=>ax.tJ F w (k2 i v c hv hc);obtain⟨i,hi⟩:=zaq hc;have bu:i<vs.length:=by have:=(zaa.1 hi).1;omega
   have:=k2 i _ c (zad bu) hi;cases c<;>first |rfl |simp[D.cm] at this
  cases h
 |_=>exact ax.tJ F w h
theorem mz(e:MapEntry): ∀l:List MapEntry,e∈l->(l.map (·.born)).Nodup->l.find? (λx=>x.born==e.born)=some e
 | [],h,_=>by cases h
 |x::r,h,hn=>by
  rw[zaY,zbf] at hn;rw[List.find?_cons];rcases zaw.1 h with rfl |h
  ·simp
  have bY:x.born≠e.born:=λhx=>hn.1 (zbA.2 ⟨e,h,hx.symm⟩);have:(x.born==e.born)=false:=by simpa using bY
  rw[this];exact mz e r h hn.2
theorem pr{r m since:Nat}{seen:Array Nat}{es:Array MapEntry}{clock:Nat}{e:MapEntry}(hr:w.heap[r]?=some (.mapIter (some m) since (seen.push e.born) clock))(hm:w.heap[m]?=some (.map es clock))(he:e∈es.toList)(hn:(es.toList.map (·.born)).Nodup):
  (Instr.entry (.pointer (some ⟨r,0,none⟩))).run Q w= .ok (.tuple #[e.key,e.val]) w:=by
 have hf:es.find? (λx=>x.born==e.born)=some e:=by rw[<-Array.find?_toList];exact mz e _ he hn
 have hc:(clock !=clock)=false:=by simp
 simp only[Instr.entry,getObj,Sem.run_bind,Sem.run,hr,hm,Result.andThen,Array.back?_push,hc,zaz,za6,hf];rfl
theorem ux(h:aq Q T F G w a s){p q:P}{v:Value}(hv:ak F w G s.rg v p)(hq:gV s p=some q): ∃r,(Instr.entry v).run Q w= .ok r w/\ak F w G s.rg r q:=by
 unfold gV at hq;split at hq
 next n aw=>
  split at hq
  next kt vt left k x ho=>
   simp only[zae] at hq;subst hq;obtain⟨e,he,bM,aO⟩:=S.aI ho;have hO:=h.rg n e he;rw[aO] at hO;obtain⟨b,mo,since,seen,last,hg,hh,hO⟩:=hO;cases hv with
   |ref _ _ _ _ hr h1=>
    obtain⟨b',uy,rfl⟩:=hr.at he bM (by rw[aO];rfl);rw[hg] at uy;simp at uy;subst uy;rcases hO with⟨_,_,hc⟩| ⟨m,es,rfl,hF,hm,CP,⟨ks,g1,g3,g4,g5,g6,g7⟩,hc⟩
    ·cases hc
    subst CP;obtain⟨en,ec,gy,hk,hx⟩:=hc k x rfl;obtain⟨sn,rfl⟩:=Array.back?_eq_some_iff.1 gy;refine⟨_,pr hh hm ec g6,.dX [en.key,en.val] _ rfl λi v c hv hc=> ?_⟩
    match i with
    |0=>simp at hv hc;subst hv;subst hc;exact .d (ax.AZ F w hk)
    |1=>simp at hv hc;subst hv;subst hc;exact .d hx
    |i+2=>simp at hv
  cases hq
 cases hq
end
end Pi
