/- The text PiMap. -/
import Derived.Test.YtpiohccneeblhaaPiEq
import Derived.MapKept
namespace Pi
open Go
mutual
theorem D.aY: ∀(x y:D),D.cP x y=true↔x=y
 | .bool a,y=>by cases y<;>simp[D.cP]
 | .int k a,y=>by cases y<;>simp[D.cP]
 | .str a,y=>by cases y<;>simp[D.cP]
 | .agg a,y=>by cases y<;>simp[D.cP,D.pH a]
 | .sl k a,y=>by cases y<;>simp[D.cP,D.pH a]
 | .bu,y=>by cases y<;>simp[D.cP]
 | .jf,y=>by cases y<;>simp[D.cP]
 | .mh,y=>by cases y<;>simp[D.cP]
 | .tc,y=>by cases y<;>simp[D.cP]
 | .tf,y=>by cases y<;>simp[D.cP]
 | .unk,y=>by cases y<;>simp[D.cP]
 | .Bn a b c,y=>by cases y<;>simp[D.cP,Ju]
theorem D.pH: ∀(x y:List D),D.xo x y=true↔x=y
 | [],y=>by cases y<;>simp[D.xo]
 |x::xs,y=>by
  cases y with
  |nil=>simp[D.xo]
  |cons y ys=>simp[D.xo,D.aY x,D.pH xs]
end
theorem sd(k v:D)(get:D->Option D):dR k v get k=some v:=by unfold dR;rw[(D.aY k k).2 rfl];rfl
theorem yT{k k':D}(v:D)(get:D->Option D)(h:k≠k'):dR k v get k'=get k':=by
 unfold dR;cases hb:D.cP k k' with
 |false=>rfl
 |true=>exact absurd ((D.aY k k').1 hb) h
theorem xH{Q:Program}{t:TypeId}{k:Nat}(h:sz Q t=some k):Q.cellsOf t=k:=by obtain⟨i,d,hi,_,rfl⟩:=dQ h;unfold Program.cellsOf;rw[hi];rfl
theorem Ce{Q:Program}{t:TypeId}{xs ys:List D}{off:Nat}{x y:D}(Cf:(cd Q t ||Nat.beq (Q.cellsOf t) 1)=true)(h1:eX Q t xs off=some x)(h2:eX Q t ys off=some y):
  x=y↔(xs.drop off).take (Q.cellsOf t)=(ys.drop off).take (Q.cellsOf t):=by
 unfold eX at h1 h2;cases hk:sz Q t with
 |none=>rw[hk] at h1;cases h1
 |some k=>
  rw[hk] at h1 h2;have e:=xH hk;rw[e] at Cf⊢;simp only at h1 h2;cases ha:cd Q t with
  |true=>
   rw[ha] at h1 h2;simp only[zaT] at h1 h2;split at h1
   ·split at h2
    ·cases h1;cases h2;simp
    cases h2
   cases h1
  |false=>
   rw[ha] at h1 h2 Cf;simp only[zar,za3] at h1 h2;have tH:k=1:=by simpa using Cf
   subst tH;have l1:=(zaa.1 h1).1;have l2:=(zaa.1 h2).1;have e1:(xs.drop off).take 1=[x]:=by rw[zbX l1];simp[(zaa.1 h1).2]
   have e2:(ys.drop off).take 1=[y]:=by rw[zbX l2];simp[(zaa.1 h2).2]
   rw[e1,e2];simp
theorem lQ{Q:Program}{go:TypeId->D->D->Option Bool}{xs ys:List D}{qV:Nat}(hx:xs.length=qV)(hy:ys.length=qV)
  {sh:TypeId->D->Bool} (Gd: ∀t x y,sh t x=true->sh t y=true-> ∃c,go t x y=some c/\(c=true↔x=y)): ∀(fs:List Field) (off:Nat),jG Q off fs qV=true->off<=qV->
  (∀f∈fs,(!(f.name== "_")&&(cd Q f.type ||Nat.beq (Q.cellsOf f.type) 1)&&(match eX Q f.type xs f.offset with |some y=>sh f.type y |none=>false))=true)->
  (∀f∈fs,(!(f.name== "_")&&(cd Q f.type ||Nat.beq (Q.cellsOf f.type) 1)&&(match eX Q f.type ys f.offset with |some y=>sh f.type y |none=>false))=true)->
  ∃c,rh Q go fs xs ys=some c/\(c=true↔xs.drop off=ys.drop off)
 | [],off,ht,hle,_,_=>by have:off=qV:=zab ht;refine⟨true,rfl,?_⟩;rw[zb8 (by omega),zb8 (by omega)];simp
 |f::r,off,ht,hle,h1,h2=>by
  simp only[jG,zad] at ht;have ho:f.offset=off:=zab ht.1;have EH:off+Q.cellsOf f.type<=qV:=by
   have: ∀(fs:List Field) (o:Nat),jG Q o fs qV=true->o<=qV:=by
    intro fs
    induction fs with
    |nil=>intro o h;exact Nat.le_of_eq (zab h)
    |cons g gs ih=>intro o h;simp only[jG,zad] at h;have:=ih _ h.2;omega
   exact this r _ ht.2
  obtain⟨c,hc,fO⟩:=lQ hx hy Gd r _ ht.2 EH (λg hg=>h1 g (by simp[hg])) (λg hg=>h2 g (by simp[hg]));have a1:=h1 f (by simp);have a2:=h2 f (by simp);simp only[zad] at a1 a2;obtain⟨⟨hn,Cf⟩,b1⟩:=a1;obtain⟨_,b2⟩:=a2;have hn:(f.name== "_")=false:=by simpa using hn
  unfold rh;rw[hn];simp only;cases p1:eX Q f.type xs f.offset with
  |none=>rw[p1] at b1;cases b1
  |some x=>
   cases p2:eX Q f.type ys f.offset with
   |none=>rw[p2] at b2;cases b2
   |some y=>
    rw[p1] at b1;rw[p2] at b2;obtain⟨a,ha,O5⟩:=Gd f.type x y b1 b2;simp only[ha,hc];refine⟨a&&c,rfl,?_⟩;rw[zad,O5,fO,Ce Cf p1 p2,ho];have Cg: ∀l:List D,l.drop off=(l.drop off).take (Q.cellsOf f.type)++l.drop (off+Q.cellsOf f.type):=λl=>by rw[<-zcu,zbH]
    constructor
    ·rintro⟨e1,e2⟩;rw[Cg xs,Cg ys,e1,e2]
    intro e;refine⟨by rw[e],?_⟩;rw[<-zcu,<-zcu,e]
theorem iP{Q:Program}: ∀(n:Nat) (t:TypeId) (x y:D),dS Q n t x=true->dS Q n t y=true-> ∃c,Bo Q n t x y=some c/\(c=true↔x=y)
 |0,_,_,_,h,_=>by simp[dS] at h
 |n+1,t,x,y,h1,h2=>by
  unfold dS at h1 h2;unfold Bo;cases hd:Q.underlying t with
  |none=>rw[hd] at h1;simp at h1
  |some d=>
   rw[hd] at h1 h2;cases d with
   |bool=>
    cases x<;>try (simp at h1;done)
    cases y<;>try (simp at h2;done)
    exact⟨_,rfl,by simp⟩
   |int k=>
    cases x<;>try (simp at h1;done)
    cases y<;>try (simp at h2;done)
    rename_i k1 a k2 b;have e1:k=k1:=by simpa using h1
    have e2:k=k2:=by simpa using h2
    subst e1 e2;exact⟨a==b,by simp,by simp⟩
   |string=>
    cases x<;>try (simp at h1;done)
    cases y<;>try (simp at h2;done)
    exact⟨_,rfl,by simp⟩
   |struct fs=>
    cases x<;>try (simp at h1;done)
    cases y<;>try (simp at h2;done)
    rename_i xs ys;simp only[zad] at h1 h2;obtain⟨⟨⟨l1,t1⟩,s1⟩,f1⟩:=h1;obtain⟨⟨⟨l2,_⟩,_⟩,f2⟩:=h2;have s1:Q.stoodInHeld t=false:=by simpa using s1
    obtain⟨c,hc,fO⟩:=lQ (Q:=Q) (go:=Bo Q n) (xs:=xs) (ys:=ys) (zab l1) (zab l2) (sh:=dS Q n) (λt x y a b=>iP n t x y a b) fs.toList 0 t1 (za2 _)
     (λf hf=>zaY.1 f1 f hf) (λf hf=>zaY.1 f2 f hf)
    refine⟨c,by simp only[s1];exact hc,?_⟩;rw[fO];simp
   |array m e=>
    cases x<;>try (simp at h1;done)
    cases y<;>try (simp at h2;done)
    rename_i xs ys;simp only at h1 h2;cases hk:sz Q e with
    |none=>simp[hk] at h1
    |some k=>
    simp only[hk,zad] at h1 h2;obtain⟨⟨l1,t1⟩,f1⟩:=h1;obtain⟨⟨l2,_⟩,f2⟩:=h2;obtain⟨c,hc,fO⟩:=lQ (Q:=Q) (go:=Bo Q n) (xs:=xs) (ys:=ys) (zab l1) (zab l2) (sh:=dS Q n) (λt x y a b=>iP n t x y a b) (xp m e k) 0 t1 (za2 _)
     (λf hf=>zaY.1 f1 f hf) (λf hf=>zaY.1 f2 f hf)
    refine⟨c,by show(match sz Q e with |some k=>rh Q (Bo Q n) (xp m e k) xs ys |none=>none)=some c;rw[hk];exact hc,?_⟩;rw[fO];simp
   |_=>simp at h1
theorem aR{Q:Program}{kt:TypeId}{k:D}(h:cq Q kt k=true):dS Q 20 kt k=true/\(∀c∈k.cells,c.ve=true)/\ ∃v,k.br=some v/\ ∀em,∃u,ah Q (Instr.checkKey em 10000 kt v)=some u:=by
 simp only[cq,zad] at h;refine⟨h.1.1,zaY.1 h.1.2,?_⟩;have h2:=h.2;split at h2
 next v hv=>
  split at h2
  next a b ha hb=>exact⟨v,hv,λem=>by cases em;exact⟨_,ha⟩;exact⟨_,hb⟩⟩
  cases h2
 cases h2
theorem nH{Q:Program}{kt:TypeId}{k:D}{v:Value}(hs:dS Q 20 kt k=true)(hv:k.br=some v): ∀(ks:List (D×D)) (es:List MapEntry) (i0:Nat),ks.length=es.length->
  (∀(i:Nat) (p:D×D) (e:MapEntry),ks[i]?=some p->es[i]?=some e->dS Q 20 kt p.1=true/\p.1.br=some e.key)->
  ∃r,ah Q (Instr.findAsking kt v es i0)=some r/\((r=none/\ ∀p∈ks,p.1≠k)\/ ∃i p e,r=some (i0+i,e.val)/\ks[i]?=some p/\es[i]?=some e/\p.1=k)
 | [],[],i0,_,_=>⟨none,rfl,.inl ⟨rfl,by simp⟩⟩
 | [],e::es,i0,h,_=>by simp at h
 |p::ks,[],i0,h,_=>by simp at h
 |p::ks,e::es,i0,hl,h=>by
  obtain⟨h1,h2⟩:=h 0 p e rfl rfl;obtain⟨c,hc,fO⟩:=iP 20 kt k p.1 hs h1;have he:=cV 20 10000 kt k p.1 c v e.key (by omega) hc hv h2;unfold Instr.findAsking;have eq:Op.equal kt v e.key=Op.equalIn 10000 kt v e.key:=rfl;rw[ag,eq,he,zam];cases c with
  |true=>exact⟨_,rfl,.inr ⟨0,p,e,rfl,rfl,rfl,(fO.1 rfl).symm⟩⟩
  |false=>
   obtain⟨r,hr,oU⟩:=nH hs hv ks es (i0+1) (by simpa using hl) λi p e hp he=>h (i+1) p e (by simpa using hp) (by simpa using he);refine⟨r,hr,?_⟩;have ca:p.1≠k:=λe=>by have:=fO.2 e.symm;cases this
   rcases oU with⟨rfl,eW⟩| ⟨i,p',e',rfl,a,b,c⟩
   ·exact .inl ⟨rfl,λq hq=>by
     rcases zan.1 hq with rfl |hq
     ·exact ca
     exact eW q hq⟩
   exact .inr ⟨i+1,p',e',by rw[show i0+(i+1)=i0+1+i by omega],by simpa using a,by simpa using b,c⟩
theorem vz{Q:Program}{kt:TypeId}{d:TypeDesc}(hd:Q.underlying kt=some d){v u:Value}{c:Bool}(h:Instr.sameNow d v u=some c):ah Q (Op.equal kt v u)=some c:=by
 have eq:Op.equal kt v u=Op.equalIn (9999+1) kt v u:=rfl;unfold Instr.sameNow at h;split at h
 ·split at h
  next hk=>subst hk;rw[eq,Op.equalIn,ag,au hd];simp only[zam,zaT];exact h
  cases h
 ·rw[eq,Op.equalIn,ag,au hd];exact h
 ·rw[eq,Op.equalIn,ag,au hd];exact h
 cases h
theorem pI{Q:Program}{kt:TypeId}{d:TypeDesc}(hd:Q.underlying kt=some d){v:Value}: ∀(es:List MapEntry) (i:Nat) (r:Option (Nat×Value)),Instr.findNow d v es i=some r->ah Q (Instr.findAsking kt v es i)=some r
 | [],i,r,h=>by simp[Instr.findNow] at h;subst h;rfl
 |e::es,i,r,h=>by
  unfold Instr.findNow at h;unfold Instr.findAsking;split at h
  next hs=>simp only[zaf] at h;subst h;rw[ag,vz hd hs];rfl
  next hs=>rw[ag,vz hd hs];exact pI hd es (i+1) r h
  cases h
theorem mB{Q:Program}{kt:TypeId}{k:D}{v:Value}(hs:dS Q 20 kt k=true)(hv:k.br=some v){ks:List (D×D)}{es:List MapEntry}(hl:ks.length=es.length)
  (h: ∀(i:Nat) (p:D×D) (e:MapEntry),ks[i]?=some p->es[i]?=some e->dS Q 20 kt p.1=true/\p.1.br=some e.key) (w:World):
  ∃r,(Instr.findKey kt v es).run Q w= .ok r w/\((r=none/\ ∀p∈ks,p.1≠k)\/ ∃i p e,r=some (i,e.val)/\ks[i]?=some p/\es[i]?=some e/\p.1=k):=by
 obtain⟨r,hr,oU⟩:=nH hs hv ks es 0 hl h;refine⟨r,?_,?_⟩
 ·have hd: ∃d,Q.underlying kt=some d:=by
   unfold dS at hs;cases hd:Q.underlying kt with
   |none=>rw[hd] at hs;simp at hs
   |some d=>exact⟨d,rfl⟩
  obtain⟨d,hd⟩:=hd;refine bn ?_ w;unfold Instr.findKey;rw[ag,au hd,zam];cases hn:Instr.findNow d v es 0 with
  |none=>exact hr
  |some r'=>have:=pI hd es 0 r' hn;rw[hr] at this;cases this;rfl
 simpa using oU
theorem se: ∀(x:D) (v:Value),(∀c∈x.cells,c.ve=true)->x.br=some v->Instr.sameBits 10000 v v=true:=by
 have cell: ∀(n:Nat) (x:D) (v:Value),x.ve=true->x.dK=some v->Instr.sameBits (n+1) v v=true:=by
  intro n x v hl h;cases x<;>simp[D.dK] at h<;>simp[D.ve] at hl<;>subst h
  ·simp[Instr.sameBits]
  ·simp[Instr.sameBits]
  rename_i s;show((⟨⟨s⟩⟩:ByteArray)==⟨⟨s⟩⟩)=true;show((⟨s⟩:Array UInt8)==⟨s⟩)=true;simp
 intro x v vA h;cases x with
 |agg cs=>
  simp only[D.br] at h;split at h
  next vs xG=>
   simp only[zaf] at h;subst h;simp only[Instr.sameBits,beq_self_eq_true,Bool.true_and];rw[zaY];intro p hp;have: ∀(l:List Value) (p:Value×Value),p∈l.zip l->p.1=p.2/\p.1∈l:=by
    intro l
    induction l with
    |nil=>intro p hp;cases hp
    |cons y l ih=>
     intro p hp;rcases zan.1 hp with rfl |hp
     ·exact⟨rfl,by simp⟩
     have:=ih p hp;exact⟨this.1,by simp[this.2]⟩
   obtain⟨e1,e2⟩:=this vs p hp;obtain⟨a,b⟩:=p;simp only at e1 e2⊢;subst e1;obtain⟨i,hi,rfl⟩:=zaM e2;have hl:=vw xG;obtain⟨u,h1,h2⟩:=pG (i:=i) (x:=cs[i]'(by omega)) xG (by simp);rw[zac hi] at h1;cases h1;exact cell 9998 _ _ (vA _ (by simp[D.cells])) h2
  cases h
 |bool b=>exact cell 9999 (.bool b) _ rfl h
 |int k n=>exact cell 9999 (.int k n) _ rfl h
 |str s=>exact cell 9999 (.str s) _ rfl h
 |_=>simp[D.cells,D.ve] at vA
section
variable{Q:Program}{T:Tg}{F:Nat->Prop}{G:Nat->Value}{w:World}{a:Act}{s:S}
theorem kq{t:TypeId}{z:D}(hz:cQ Q t=some z)(w:World): ∃zv,(zeroValue t).run Q w= .ok zv w/\aA F w zv z:=by
 unfold cQ at hz;split at hz
 next i hi=>
  split at hz
  next zv xI=>exact⟨zv,by simp[zeroValue,typeInfo,hi,xI],aA.nh F w hz⟩
  cases hz
 cases hz
theorem dp{t kt e:TypeId}(h:dF Q t=some (kt,e)):Q.underlying t=some (.map kt e):=by
 unfold dF at h;split at h
 ·simp only[zaf,za9] at h;obtain⟨rfl,rfl⟩:=h;assumption
 cases h
theorem fP.look{kt:TypeId}{get:D->Option D}{n:Int}{es:List MapEntry}{clock:Nat}(h:fP Q F w kt get n es clock){k:D}{v:Value}(hk:cq Q kt k=true)(hv:k.br=some v):
  ∃r,(Instr.findKey kt v es).run Q w= .ok r w/\((r=none/\get k=none)\/ ∃i e y,r=some (i,e.val)/\es[i]?=some e/\e.key=v/\get k=some y/\aA F w e.val y):=by
 obtain⟨ks,h1,h2,h3,h4,h5,h6,h7⟩:=h;obtain⟨r,hr,oU⟩:=mB (aR hk).1 hv h1 (λi p e hp he=>⟨(aR (h3 i p e hp he).1).1,(h3 i p e hp he).2.1⟩) w;refine⟨r,hr,?_⟩;rcases oU with⟨rfl,eW⟩| ⟨i,p,e,rfl,hp,he,Eb⟩
 ·refine .inl ⟨rfl,?_⟩;cases hg:get k with
  |none=>rfl
  |some y=>exact absurd rfl (eW _ ((h5 k y).1 hg))
 obtain⟨_,a2,a3⟩:=h3 i p e hp he;refine .inr ⟨i,e,p.2,rfl,he,?_,(h5 k p.2).2 ?_,a3⟩
 ·rw[Eb,hv] at a2;exact(zal a2).symm
 rw[<-Eb];exact zak hp
theorem vB(h:aq Q T F G w a s){n az:Nat}{v:Value}{kt:Nat}{get:D->Option D}{c:Int}{last:Bool}(hv:ao F w G s.rg v (.mp n az))(ho:s.obj n az=some (.map kt get c last)):
  ∃e,lk s.rg n=some e/\e.az=az/\e.obj= .map kt get c last/\v=G n/\ ∃b es clock,G n= .map (some b)/\w.heap[b]?=some (.map es clock)/\fP Q F w kt get c es.toList clock:=by
 obtain⟨e,he,bN,aP⟩:=S.aJ ho;cases hv with
 |mp _ _ _ _ hr=>obtain⟨e',bb,hle,hc⟩:=hr;rw[he] at bb;cases bb;have hv:=hc bN.symm (by rw[aP];rfl);have:=h.rg n e he;rw[aP] at this;obtain⟨b,es,clock,h1,h2,h3,_⟩:=this;exact⟨e,he,bN,aP,hv,b,es,clock,h1,h2,h3⟩
theorem Ch(h:aq Q T F G w a s){n az:Nat}{v:Value}{kt:Nat}{get:D->Option D}{c:Int}{p:P}{kd:D}(hv:ao F w G s.rg v (.mp n az))(ho:s.obj n az=some (.fZ kt get c p kd)):
  ∃e,lk s.rg n=some e/\e.az=az/\e.obj= .fZ kt get c p kd/\v=G n/\ ∃b es clock,G n= .map (some b)/\w.heap[b]?=some (.map es clock)/\fP Q F w kt get c es.toList clock/\ ∃(i:Nat) (en:MapEntry),es[i]?=some en/\ao F w G s.rg (.int .i64 (en.born:Int)) p/\kd.br=some en.key/\(get kd).isSome=true:=by
 obtain⟨e,he,bN,aP⟩:=S.aJ ho;cases hv with
 |mp _ _ _ _ hr=>obtain⟨e',bb,hle,hc⟩:=hr;rw[he] at bb;cases bb;have hv:=hc bN.symm (by rw[aP];rfl);have:=h.rg n e he;rw[aP] at this;obtain⟨b,es,clock,h1,h2,h3,h4⟩:=this;exact⟨e,he,bN,aP,hv,b,es,clock,h1,h2,h3,h4⟩
theorem nr{k:D}(p:P): ∀ks:List (D×P),(∀q∈ks,q.1≠k)->eG k ks=none/\mj k p ks=ks++[(k,p)]/\ni k ks=ks
 | [],_=>⟨rfl,rfl,rfl⟩
 | (j,q)::r,h=>by
  obtain⟨h1,h2,h3⟩:=nr p r λx hx=>h x (.tail _ hx);have ca:D.cP j k=false:=by
   cases hb:D.cP j k with
   |false=>rfl
   |true=>exact absurd ((D.aY j k).1 hb) (h (j,q) (.head _))
  simp only[eG,mj,ni,ca,h1,h2,h3,zbi,List.cons_append,and_self]
theorem k9{k:D}(p:P): ∀(ks:List (D×P)) (i:Nat) (q:D×P),(ks.map (·.1)).Nodup->ks[i]?=some q->q.1=k->eG k ks=some q.2/\mj k p ks=ks.set i (k,p)/\ni k ks=ks.eraseIdx i
 | [],i,q,_,h,_=>by simp at h
 | (j,x)::r,0,q,_,h,hk=>by simp only[zb2,zaf] at h;subst h;have hb:D.cP j k=true:=(D.aY j k).2 hk;simp only[eG,mj,ni,hb,zbk,zcj,zb3,and_self]
 | (j,x)::r,i+1,q,hn,h,hk=>by
  simp only[zbo] at h;rw[zaO,zax] at hn;obtain⟨h1,h2,h3⟩:=k9 p r i q hn.2 h hk;have ca:D.cP j k=false:=by
   cases hb:D.cP j k with
   |false=>rfl
   |true=>have e:=(D.aY j k).1 hb;exact absurd (zaQ.2 ⟨q,zak h,hk.trans e.symm⟩) hn.1
  simp only[eG,mj,ni,ca,h1,h2,h3,zbi,zck,zb4,and_self]
theorem tF.look{R:List (Nat×En)}{kt:TypeId}{ks:List (D×P)}{es:List MapEntry}{clock:Nat}(h:tF Q F w G R kt ks es clock){k:D}{v:Value}(hk:cq Q kt k=true)(hv:k.br=some v)(p:P):
  ∃r,(Instr.findKey kt v es).run Q w= .ok r w/\((r=none/\(∀q∈ks,q.1≠k)/\eG k ks=none/\mj k p ks=ks++[(k,p)]/\ni k ks=ks)\/
   ∃i q e,r=some (i,e.val)/\ks[i]?=some q/\es[i]?=some e/\e.key=v/\ao F w G R e.val q.2/\q.1=k/\eG k ks=some q.2/\mj k p ks=ks.set i (k,p)/\ni k ks=ks.eraseIdx i):=by
 obtain⟨h1,h3,h4,h6,h7⟩:=h;obtain⟨r,hr,oU⟩:=mB (aR hk).1 hv (ks:=ks.map λx=>(x.1,D.jf)) (by rw[zag];exact h1) (λi p e hp he=>by rw[zai,zaj] at hp;obtain⟨q,hq,rfl⟩:=hp;exact⟨(aR (h3 i q e hq he).1).1,(h3 i q e hq he).2.1⟩) w;refine⟨r,hr,?_⟩;rcases oU with⟨rfl,eW⟩| ⟨i,p0,e,rfl,hp,he,Eb⟩
 ·have bg: ∀q∈ks,q.1≠k:=λq hq=>eW (q.1,D.jf) (zaQ.2 ⟨q,hq,rfl⟩);exact .inl ⟨rfl,bg,nr p ks bg⟩
 rw[zai,zaj] at hp;obtain⟨q,hq,rfl⟩:=hp;obtain⟨_,a2,a3⟩:=h3 i q e hq he;refine .inr ⟨i,q,e,rfl,hq,he,?_,a3,Eb,k9 p ks i q h4 hq Eb⟩;have Eb:q.1=k:=Eb;rw[Eb,hv] at a2;exact(zal a2).symm
theorem sf{j kd k:D}(h:D.cP j kd=true):D.cP j k=D.cP kd k:=by rw[(D.aY _ _).1 h]
theorem mC{k kd:D}{x:P}: ∀ks:List (D×P),eG k (mj kd x ks)=bif D.cP kd k then some x else eG k ks
 | []=>rfl
 | (j,q)::r=>by
  have ih:=mC (k:=k) (kd:=kd) (x:=x) r;cases hj:D.cP j kd with
  |true=>simp only[mj,eG,hj,zbk,sf hj];cases D.cP kd k<;>rfl
  |false=>
   simp only[mj,hj,zbi,eG,ih];cases hk:D.cP j k with
   |false=>rfl
   |true=>
    have:D.cP kd k=false:=by rw[<-Bool.not_eq_true];intro e;rw[(D.aY _ _).1 e,hk] at hj;cases hj
    simp only[zbk,this,zbi]
theorem vC{k kd:D}: ∀ks:List (D×P),(ks.map (·.1)).Nodup->eG k (ni kd ks)=bif D.cP kd k then none else eG k ks
 | [],_=>by simp only[ni,eG];cases D.cP kd k<;>rfl
 | (j,q)::r,h=>by
  rw[zaO,zax] at h;have ih:=vC (k:=k) (kd:=kd) r h.2;cases hj:D.cP j kd with
  |true=>
   simp only[ni,eG,hj,zbk,sf hj];cases hk:D.cP kd k with
   |false=>rfl
   |true=>have e1:=(D.aY _ _).1 hj;have e2:=(D.aY _ _).1 hk;subst e1;subst e2;simpa using(nr (k:=j) .bad r λx hx e=>h.1 (zaQ.2 ⟨x,hx,e⟩)).1
  |false=>
   simp only[ni,hj,zbi,eG,ih];cases hk:D.cP j k with
   |false=>rfl
   |true=>
    have:D.cP kd k=false:=by rw[<-Bool.not_eq_true];intro e;rw[(D.aY _ _).1 e,hk] at hj;cases hj
    simp only[zbk,this,zbi]
theorem vD(h:aq Q T F G w a s){n az:Nat}{v:Value}{kt:Nat}{vals:D->Option Value}{c:Int}{hand:Option (D×P)}(hv:ao F w G s.rg v (.mp n az))(ho:s.obj n az=some (.bS kt vals c hand)):
  ∃e,lk s.rg n=some e/\e.az=az/\e.obj= .bS kt vals c hand/\v=G n/\ ∃b es clock,G n= .map (some b)/\w.heap[b]?=some (.map es clock)/\MQ Q F w G s.rg kt vals c hand es.toList clock:=by
 obtain⟨e,he,bN,aP⟩:=S.aJ ho;cases hv with
 |mp _ _ _ _ hr=>obtain⟨e',bb,hle,hc⟩:=hr;rw[he] at bb;cases bb;have hv:=hc bN.symm (by rw[aP];rfl);have:=h.rg n e he;rw[aP] at this;obtain⟨b,es,clock,h1,h2,h3⟩:=this;exact⟨e,he,bN,aP,hv,b,es,clock,h1,h2,h3⟩
theorem xJ(h:aq Q T F G w a s){t kt e:TypeId}{p i q:P}{ok:Bool}{z:D}(ht:dF Q t=some (kt,e))(hz:cQ Q e=some z){v u:Value}(hv:ao F w G s.rg v p)(hu:ao F w G s.rg u i)
  (hq:ct Q s t p i ok z=some q): ∃r,(Instr.lookup t v u ok).run Q w= .ok r w/\ao F w G s.rg r q:=by
 have gf:=dp ht;obtain⟨zv,qW,uU⟩:=kq (F:=F) hz w;have two: ∀(v1:Value) (x:D) (b:Bool),aA F w v1 x->ao F w G s.rg (.tuple #[v1,.bool b]) (.fL [.d x,.d (.bool b)]):=λv1 x b hx=>
  .fL [v1,.bool b] _ rfl (λi v c hv hc=>by
   match i with
   |0=>simp at hv hc;subst hv;subst hc;exact .d hx
   |1=>simp at hv hc;subst hv;subst hc;exact .d (.bool b)
   |i+2=>simp at hv)
 unfold ct at hq;rw[ht] at hq;split at hq
 next jY e' n az k yU=>
  simp only[zaf,za9] at yU;obtain⟨rfl,rfl⟩:=yU;split at hq
  next EI get c last ho=>
   split at hq
   ·rename_i hc;simp only[zad] at hc;have nI:=zab hc.1;subst nI;obtain⟨_,_,⟨kv,lq,lR⟩⟩:=aR hc.2;have GY:u=kv:=hu.br (p:= .d k) lq;subst GY;obtain⟨e0,_,_,_,lF,b,es,clock,hG,hb,hM⟩:=vB h hv ho;rw[hG] at lF;subst lF;obtain⟨ck,iQ⟩:=lR es.isEmpty;have iQ:=bn iQ w;obtain⟨r,hr,oU⟩:=hM.look hc.2 lq;rcases oU with⟨rfl,hg⟩| ⟨j,en,y,rfl,_,_,hg,hy⟩
    ·rw[hg] at hq;cases ok with
     |true=>simp at hq;subst hq;exact⟨.tuple #[zv,.bool false],by simp[Instr.lookup,run_underlying gf,MapKept.run_getObj_map hb,iQ,hr,qW],two _ _ _ uU⟩
     |false=>simp at hq;subst hq;exact⟨zv,by simp[Instr.lookup,run_underlying gf,MapKept.run_getObj_map hb,iQ,hr,qW],.d uU⟩
    rw[hg] at hq;cases ok with
    |true=>simp at hq;subst hq;exact⟨.tuple #[en.val,.bool true],by simp[Instr.lookup,run_underlying gf,MapKept.run_getObj_map hb,iQ,hr],two _ _ _ hy⟩
    |false=>simp at hq;subst hq;exact⟨en.val,by simp[Instr.lookup,run_underlying gf,MapKept.run_getObj_map hb,iQ,hr],.d hy⟩
   cases hq
  next EI get c pE QO ho=>
   split at hq
   ·rename_i hc;simp only[zad,zbn] at hc;obtain⟨⟨fK,nI⟩,yV⟩:=hc;have nI:=zab nI;subst nI;subst fK;obtain⟨_,_,⟨kv,lq,lR⟩⟩:=aR yV;have GY:u=kv:=hu.br (p:= .d k) lq;subst GY;obtain⟨e0,_,_,_,lF,b,es,clock,hG,hb,hM,_⟩:=Ch h hv ho;rw[hG] at lF;subst lF;obtain⟨ck,iQ⟩:=lR es.isEmpty;have iQ:=bn iQ w;obtain⟨r,hr,oU⟩:=hM.look yV lq;rcases oU with⟨rfl,hg⟩| ⟨j,en,y,rfl,_,_,hg,hy⟩
    ·rw[hg] at hq;simp at hq;subst hq;exact⟨zv,by simp[Instr.lookup,run_underlying gf,MapKept.run_getObj_map hb,iQ,hr,qW],.d uU⟩
    rw[hg] at hq;simp at hq;subst hq;exact⟨en.val,by simp[Instr.lookup,run_underlying gf,MapKept.run_getObj_map hb,iQ,hr],.d hy⟩
   cases hq
  next EI Og c0 Oh ho=>
   split at hq
   ·rename_i hc;simp only[zad] at hc;have nI:=zab hc.1;subst nI;obtain⟨_,_,⟨kv,lq,lR⟩⟩:=aR hc.2;have GY:u=kv:=hu.br (p:= .d k) lq;subst GY;obtain⟨e0,_,_,_,lF,b,es,clock,hG,hb,hM⟩:=vD h hv ho;rw[hG] at lF;subst lF;obtain⟨ck,iQ⟩:=lR es.isEmpty;have iQ:=bn iQ w;obtain⟨ks,hM,_,Ci⟩:=hM;rw[<-Ci k] at hq;obtain⟨r,hr,oU⟩:=hM.look hc.2 lq .bad;have Mc: ∀(v1:Value) (p:P) (b:Bool),ao F w G s.rg v1 p->ao F w G s.rg (.tuple #[v1,.bool b]) (.fL [p,.d (.bool b)]):=λv1 p b hx=>
     .fL [v1,.bool b] _ rfl (λi v c hv hc=>by
      match i with
      |0=>simp at hv hc;subst hv;subst hc;exact hx
      |1=>simp at hv hc;subst hv;subst hc;exact .d (.bool b)
      |i+2=>simp at hv)
    rcases oU with⟨rfl,_,hg,_⟩| ⟨j,q0,en,rfl,_,_,_,hy,_,hg,_⟩
    ·rw[hg] at hq;cases ok with
     |true=>simp at hq;subst hq;exact⟨.tuple #[zv,.bool false],by simp[Instr.lookup,run_underlying gf,MapKept.run_getObj_map hb,iQ,hr,qW],two _ _ _ uU⟩
     |false=>simp at hq;subst hq;exact⟨zv,by simp[Instr.lookup,run_underlying gf,MapKept.run_getObj_map hb,iQ,hr,qW],.d uU⟩
    rw[hg] at hq;cases ok with
    |true=>simp at hq;subst hq;exact⟨.tuple #[en.val,.bool true],by simp[Instr.lookup,run_underlying gf,MapKept.run_getObj_map hb,iQ,hr],Mc _ _ _ hy⟩
    |false=>simp at hq;subst hq;exact⟨en.val,by simp[Instr.lookup,run_underlying gf,MapKept.run_getObj_map hb,iQ,hr],hy⟩
   cases hq
  cases hq
 next jY e' k yU=>
  simp only[zaf,za9] at yU;obtain⟨rfl,rfl⟩:=yU;split at hq
  next hc=>
   obtain⟨Cf,_,⟨kv,lq,lR⟩⟩:=aR hc;have GY:u=kv:=hu.br (p:= .d k) lq;subst GY;have B7:v= .map none:=hv.br (p:= .d .mh) rfl;subst B7;obtain⟨ck,iQ⟩:=lR true;have iQ:=bn iQ w;obtain⟨r,hr,oU⟩:=mB (ks:=[]) (es:=[]) Cf lq rfl (λi p e hp=>by simp at hp) w;have pJ:r=none:=by
    rcases oU with⟨rfl,_⟩| ⟨i,p,e,_,hp,_⟩
    ·rfl
    simp at hp
   subst pJ;cases ok with
   |true=>simp at hq;subst hq;exact⟨.tuple #[zv,.bool false],by simp[Instr.lookup,run_underlying gf,iQ,hr,qW],two _ _ _ uU⟩
   |false=>simp at hq;subst hq;exact⟨zv,by simp[Instr.lookup,run_underlying gf,iQ,hr,qW],.d uU⟩
  cases hq
 cases hq
theorem aA.yW(F:Nat->Prop)(w:World){x:D}{v:Value}(h:x.dK=some v):aA F w v x:=by cases x<;>simp[D.dK] at h<;>subst h<;>constructor
theorem yX: ∀(cs:List D) (vs:List Value),D.bU cs=some vs->vs.length=cs.length/\ ∀(i:Nat) (v:Value) (c:D),vs[i]?=some v->cs[i]?=some c->c.dK=some v
 | [],vs,h=>by simp[D.bU] at h;subst h;exact⟨rfl,λi v c hv=>by simp at hv⟩
 |x::r,vs,h=>by
  simp only[D.bU] at h;split at h
  next v1 O6 h1 h2=>
   simp at h;subst h;obtain⟨k1,k2⟩:=yX r O6 h2;refine⟨by simp[k1],λi v c hv hc=> ?_⟩;cases i with
   |zero=>simp at hv hc;subst hv;subst hc;exact h1
   |succ i=>exact k2 i v c (by simpa using hv) (by simpa using hc)
  cases h
theorem aA.Cj(F:Nat->Prop)(w:World){x:D}{v:Value}(h:x.br=some v):aA F w v x:=by
 cases x with
 |agg cs=>
  simp only[D.br] at h;split at h
  next vs xG=>
   simp at h;subst h;obtain⟨k1,k2⟩:=yX cs vs xG;refine .agg vs cs k1 (λc hc=> ?_) λi v c hv hc=>aA.yW F w (k2 i v c hv hc);obtain⟨i,hi⟩:=zao hc;have bj:i<vs.length:=by have:=(zaa.1 hi).1;omega
   have:=k2 i _ c (zac bj) hi;cases c<;>first |rfl |simp[D.dK] at this
  cases h
 |_=>exact aA.yW F w h
theorem pK(e:MapEntry): ∀l:List MapEntry,e∈l->(l.map (·.born)).Nodup->l.find? (λx=>x.born==e.born)=some e
 | [],h,_=>by cases h
 |x::r,h,hn=>by
  rw[zaO,zax] at hn;rw[zbt];rcases zan.1 h with rfl |h
  ·simp
  have ca:x.born≠e.born:=λhx=>hn.1 (zaQ.2 ⟨e,h,hx.symm⟩);have:(x.born==e.born)=false:=by simpa using ca
  rw[this];exact pK e r h hn.2
theorem tI{r m since:Nat}{seen:Array Nat}{es:Array MapEntry}{clock:Nat}{e:MapEntry}(hr:w.heap[r]?=some (.mapIter (some m) since (seen.push e.born) clock))(hm:w.heap[m]?=some (.map es clock))(he:e∈es.toList)(hn:(es.toList.map (·.born)).Nodup):
  (Instr.entry (.pointer (some ⟨r,0,none⟩))).run Q w= .ok (.tuple #[e.key,e.val]) w:=by
 have hf:es.find? (λx=>x.born==e.born)=some e:=by rw[<-Array.find?_toList];exact pK e _ he hn
 have hc:(clock !=clock)=false:=by simp
 simp only[Instr.entry,getObj,Sem.run_bind,Sem.run,hr,hm,Result.andThen,Array.back?_push,hc,zar,za3,hf];rfl
theorem z8(h:aq Q T F G w a s){p q:P}{v:Value}(hv:ao F w G s.rg v p)(hq:j9 s p=some q): ∃r,(Instr.entry v).run Q w= .ok r w/\ao F w G s.rg r q:=by
 unfold j9 at hq;split at hq
 next n az=>
  split at hq
  next kt vt left k x ho=>
   simp only[zaf] at hq;subst hq;obtain⟨e,he,bN,aP⟩:=S.aJ ho;have hO:=h.rg n e he;rw[aP] at hO;obtain⟨b,mo,since,seen,last,hg,hh,hO⟩:=hO;cases hv with
   |ref _ _ _ _ hr h1=>
    obtain⟨b',Br,rfl⟩:=hr.at he bN (by rw[aP];rfl);rw[hg] at Br;simp at Br;subst Br;rcases hO with⟨_,_,hc⟩| ⟨m,es,rfl,hF,hm,Ck,⟨ks,g1,g3,g4,g5,g6,g7⟩,hc⟩
    ·cases hc
    subst Ck;obtain⟨en,eP,fX,hk,hx⟩:=hc k x rfl;obtain⟨sn,rfl⟩:=Array.back?_eq_some_iff.1 fX;refine⟨_,tI hh hm eP g6,.fL [en.key,en.val] _ rfl λi v c hv hc=> ?_⟩
    match i with
    |0=>simp at hv hc;subst hv;subst hc;exact .d (aA.Cj F w hk)
    |1=>simp at hv hc;subst hv;subst hc;exact .d hx
    |i+2=>simp at hv
  cases hq
 cases hq
end
end Pi
