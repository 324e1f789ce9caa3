/- The text PiMap. -/
import Derived.Test.YtfelfooeclnbiaaPiEq
import Derived.MapKept
namespace Pi
open Go
mutual
theorem D.dB: ∀(x y:D),D.iH x y=true↔x=y
 | .bool a,y=>by cases y<;>simp[D.iH]
 | .int k a,y=>by cases y<;>simp[D.iH]
 | .str a,y=>by cases y<;>simp[D.iH]
 | .agg a,y=>by cases y<;>simp[D.iH,D.lG a]
 | .sl k a,y=>by cases y<;>simp[D.iH,D.lG a]
 | .cV,y=>by cases y<;>simp[D.iH]
 | .gf,y=>by cases y<;>simp[D.iH]
 | .jg,y=>by cases y<;>simp[D.iH]
 | .nZ,y=>by cases y<;>simp[D.iH]
 | .n0,y=>by cases y<;>simp[D.iH]
theorem D.lG: ∀(x y:List D),D.qI x y=true↔x=y
 | [],y=>by cases y<;>simp[D.qI]
 |x::xs,y=>by
  cases y with
  |nil=>simp[D.qI]
  |cons y ys=>simp[D.qI,D.dB x,D.lG xs]
end
theorem nz(k v:D)(get:D->Option D):cA k v get k=some v:=by unfold cA;rw[(D.dB k k).2 rfl];rfl
theorem sa{k k':D}(v:D)(get:D->Option D)(h:k≠k'):cA k v get k'=get k':=by
 unfold cA;cases hb:D.iH k k' with
 |false=>rfl
 |true=>exact absurd ((D.dB k k').1 hb) h
theorem q6{Q:Program}{t:TypeId}{k:Nat}(h:sz Q t=some k):Q.cellsOf t=k:=by obtain⟨i,d,hi,_,rfl⟩:=cy h;unfold Program.cellsOf;rw[hi];rfl
theorem uZ{Q:Program}{t:TypeId}{xs ys:List D}{off:Nat}{x y:D}(sb:(bt Q t ||Nat.beq (Q.cellsOf t) 1)=true)(h1:c6 Q t xs off=some x)(h2:c6 Q t ys off=some y):
  x=y↔(xs.drop off).take (Q.cellsOf t)=(ys.drop off).take (Q.cellsOf t):=by
 unfold c6 at h1 h2;cases hk:sz Q t with
 |none=>rw[hk] at h1;cases h1
 |some k=>
  rw[hk] at h1 h2;have e:=q6 hk;rw[e] at sb⊢;simp only at h1 h2;cases ha:bt Q t with
  |true=>
   rw[ha] at h1 h2;simp only[zaR] at h1 h2;split at h1
   ·split at h2
    ·cases h1;cases h2;simp
    cases h2
   cases h1
  |false=>
   rw[ha] at h1 h2 sb;simp only[zaw,za6] at h1 h2;have w6:k=1:=by simpa using sb
   subst w6;have l1:=(zaa.1 h1).1;have l2:=(zaa.1 h2).1;have e1:(xs.drop off).take 1=[x]:=by rw[zbq l1];simp[(zaa.1 h1).2]
   have e2:(ys.drop off).take 1=[y]:=by rw[zbq l2];simp[(zaa.1 h2).2]
   rw[e1,e2];simp
theorem iP{Q:Program}{go:TypeId->D->D->Option Bool}{xs ys:List D}{mL:Nat}(hx:xs.length=mL)(hy:ys.length=mL)
  {sh:TypeId->D->Bool} (ya: ∀t x y,sh t x=true->sh t y=true-> ∃c,go t x y=some c/\(c=true↔x=y)): ∀(fs:List Field) (off:Nat),fW Q off fs mL=true->off<=mL->
  (∀f∈fs,(!(f.name== "_")&&(bt Q f.type ||Nat.beq (Q.cellsOf f.type) 1)&&(match c6 Q f.type xs f.offset with |some y=>sh f.type y |none=>false))=true)->
  (∀f∈fs,(!(f.name== "_")&&(bt Q f.type ||Nat.beq (Q.cellsOf f.type) 1)&&(match c6 Q f.type ys f.offset with |some y=>sh f.type y |none=>false))=true)->
  ∃c,mK Q go fs xs ys=some c/\(c=true↔xs.drop off=ys.drop off)
 | [],off,ht,hle,_,_=>by have:off=mL:=zac ht;refine⟨true,rfl,?_⟩;rw[zaK (by omega),zaK (by omega)];simp
 |f::r,off,ht,hle,h1,h2=>by
  simp only[fW,zad] at ht;have ho:f.offset=off:=zac ht.1;have w7:off+Q.cellsOf f.type<=mL:=by
   have: ∀(fs:List Field) (o:Nat),fW Q o fs mL=true->o<=mL:=by
    intro fs
    induction fs with
    |nil=>intro o h;exact Nat.le_of_eq (zac h)
    |cons g gs ih=>intro o h;simp only[fW,zad] at h;have:=ih _ h.2;omega
   exact this r _ ht.2
  obtain⟨c,hc,fB⟩:=iP hx hy ya r _ ht.2 w7 (λg hg=>h1 g (by simp[hg])) (λg hg=>h2 g (by simp[hg]));have a1:=h1 f (by simp);have a2:=h2 f (by simp);simp only[zad] at a1 a2;obtain⟨⟨hn,sb⟩,b1⟩:=a1;obtain⟨_,b2⟩:=a2;have hn:(f.name== "_")=false:=by simpa using hn
  unfold mK;rw[hn];simp only;cases p1:c6 Q f.type xs f.offset with
  |none=>rw[p1] at b1;cases b1
  |some x=>
   cases p2:c6 Q f.type ys f.offset with
   |none=>rw[p2] at b2;cases b2
   |some y=>
    rw[p1] at b1;rw[p2] at b2;obtain⟨a,ha,Dy⟩:=ya f.type x y b1 b2;simp only[ha,hc];refine⟨a&&c,rfl,?_⟩;rw[zad,Dy,fB,uZ sb p1 p2,ho];have u2: ∀l:List D,l.drop off=(l.drop off).take (Q.cellsOf f.type)++l.drop (off+Q.cellsOf f.type):=λl=>by rw[<-zbE,List.take_append_drop]
    constructor
    ·rintro⟨e1,e2⟩;rw[u2 xs,u2 ys,e1,e2]
    intro e;refine⟨by rw[e],?_⟩;rw[<-zbE,<-zbE,e]
theorem fk{Q:Program}: ∀(n:Nat) (t:TypeId) (x y:D),cB Q n t x=true->cB Q n t y=true-> ∃c,uh Q n t x y=some c/\(c=true↔x=y)
 |0,_,_,_,h,_=>by simp[cB] at h
 |n+1,t,x,y,h1,h2=>by
  unfold cB at h1 h2;unfold uh;cases hd:Q.underlying t with
  |none=>rw[hd] at h1;simp at h1
  |some d=>
   rw[hd] at h1 h2;cases d with
   |bool=>
    cases x<;>try (simp at h1;done)
    cases y<;>try (simp at h2;done)
    exact⟨_,rfl,by simp⟩
   |int k=>
    cases x<;>try (simp at h1;done)
    cases y<;>try (simp at h2;done)
    rename_i k1 a k2 b;have e1:k=k1:=by simpa using h1
    have e2:k=k2:=by simpa using h2
    subst e1 e2;exact⟨a==b,by simp,by simp⟩
   |string=>
    cases x<;>try (simp at h1;done)
    cases y<;>try (simp at h2;done)
    exact⟨_,rfl,by simp⟩
   |struct fs=>
    cases x<;>try (simp at h1;done)
    cases y<;>try (simp at h2;done)
    rename_i xs ys;simp only[zad] at h1 h2;obtain⟨⟨⟨l1,t1⟩,s1⟩,f1⟩:=h1;obtain⟨⟨⟨l2,_⟩,_⟩,f2⟩:=h2;have s1:Q.stoodInHeld t=false:=by simpa using s1
    obtain⟨c,hc,fB⟩:=iP (Q:=Q) (go:=uh Q n) (xs:=xs) (ys:=ys) (zac l1) (zac l2) (sh:=cB Q n) (λt x y a b=>fk n t x y a b) fs.toList 0 t1 (zaF _)
     (λf hf=>zaE.1 f1 f hf) (λf hf=>zaE.1 f2 f hf)
    refine⟨c,by simp only[s1];exact hc,?_⟩;rw[fB];simp
   |array m e=>
    cases x<;>try (simp at h1;done)
    cases y<;>try (simp at h2;done)
    rename_i xs ys;simp only at h1 h2;cases hk:sz Q e with
    |none=>simp[hk] at h1
    |some k=>
    simp only[hk,zad] at h1 h2;obtain⟨⟨l1,t1⟩,f1⟩:=h1;obtain⟨⟨l2,_⟩,f2⟩:=h2;obtain⟨c,hc,fB⟩:=iP (Q:=Q) (go:=uh Q n) (xs:=xs) (ys:=ys) (zac l1) (zac l2) (sh:=cB Q n) (λt x y a b=>fk n t x y a b) (qJ m e k) 0 t1 (zaF _)
     (λf hf=>zaE.1 f1 f hf) (λf hf=>zaE.1 f2 f hf)
    refine⟨c,by show(match sz Q e with |some k=>mK Q (uh Q n) (qJ m e k) xs ys |none=>none)=some c;rw[hk];exact hc,?_⟩;rw[fB];simp
   |_=>simp at h1
theorem aM{Q:Program}{kt:TypeId}{k:D}(h:bu Q kt k=true):cB Q 20 kt k=true/\(∀c∈k.cells,c.sN=true)/\ ∃v,k.aV=some v/\ ∀em,∃u,ai Q (Instr.checkKey em 10000 kt v)=some u:=by
 simp only[bu,zad] at h;refine⟨h.1.1,zaE.1 h.1.2,?_⟩;have h2:=h.2;split at h2
 next v hv=>
  split at h2
  next a b ha hb=>exact⟨v,hv,λem=>by cases em;exact⟨_,ha⟩;exact⟨_,hb⟩⟩
  cases h2
 cases h2
theorem kh{Q:Program}{kt:TypeId}{k:D}{v:Value}(hs:cB Q 20 kt k=true)(hv:k.aV=some v): ∀(ks:List (D×D)) (es:List MapEntry) (i0:Nat),ks.length=es.length->
  (∀(i:Nat) (p:D×D) (e:MapEntry),ks[i]?=some p->es[i]?=some e->cB Q 20 kt p.1=true/\p.1.aV=some e.key)->
  ∃r,ai Q (Instr.findAsking kt v es i0)=some r/\((r=none/\ ∀p∈ks,p.1≠k)\/ ∃i p e,r=some (i0+i,e.val)/\ks[i]?=some p/\es[i]?=some e/\p.1=k)
 | [],[],i0,_,_=>⟨none,rfl,.inl ⟨rfl,by simp⟩⟩
 | [],e::es,i0,h,_=>by simp at h
 |p::ks,[],i0,h,_=>by simp at h
 |p::ks,e::es,i0,hl,h=>by
  obtain⟨h1,h2⟩:=h 0 p e rfl rfl;obtain⟨c,hc,fB⟩:=fk 20 kt k p.1 hs h1;have he:=bO 20 10000 kt k p.1 c v e.key (by omega) hc hv h2;unfold Instr.findAsking;have eq:Op.equal kt v e.key=Op.equalIn 10000 kt v e.key:=rfl;rw[ah,eq,he,zai];cases c with
  |true=>exact⟨_,rfl,.inr ⟨0,p,e,rfl,rfl,rfl,(fB.1 rfl).symm⟩⟩
  |false=>
   obtain⟨r,hr,lj⟩:=kh hs hv ks es (i0+1) (by simpa using hl) λi p e hp he=>h (i+1) p e (by simpa using hp) (by simpa using he);refine⟨r,hr,?_⟩;have bz:p.1≠k:=λe=>by have:=fB.2 e.symm;cases this
   rcases lj with⟨rfl,cY⟩| ⟨i,p',e',rfl,a,b,c⟩
   ·exact .inl ⟨rfl,λq hq=>by
     rcases zaz.1 hq with rfl |hq
     ·exact bz
     exact cY q hq⟩
   exact .inr ⟨i+1,p',e',by rw[show i0+(i+1)=i0+1+i by omega],by simpa using a,by simpa using b,c⟩
theorem pD{Q:Program}{kt:TypeId}{d:TypeDesc}(hd:Q.underlying kt=some d){v u:Value}{c:Bool}(h:Instr.sameNow d v u=some c):ai Q (Op.equal kt v u)=some c:=by
 have eq:Op.equal kt v u=Op.equalIn (9999+1) kt v u:=rfl;unfold Instr.sameNow at h;split at h
 ·split at h
  next hk=>subst hk;rw[eq,Op.equalIn,ah,aq hd];simp only[zai,zaR];exact h
  cases h
 ·rw[eq,Op.equalIn,ah,aq hd];exact h
 ·rw[eq,Op.equalIn,ah,aq hd];exact h
 cases h
theorem lH{Q:Program}{kt:TypeId}{d:TypeDesc}(hd:Q.underlying kt=some d){v:Value}: ∀(es:List MapEntry) (i:Nat) (r:Option (Nat×Value)),Instr.findNow d v es i=some r->ai Q (Instr.findAsking kt v es i)=some r
 | [],i,r,h=>by simp[Instr.findNow] at h;subst h;rfl
 |e::es,i,r,h=>by
  unfold Instr.findNow at h;unfold Instr.findAsking;split at h
  next hs=>simp only[zae] at h;subst h;rw[ah,pD hd hs];rfl
  next hs=>rw[ah,pD hd hs];exact lH hd es (i+1) r h
  cases h
theorem ju{Q:Program}{kt:TypeId}{k:D}{v:Value}(hs:cB Q 20 kt k=true)(hv:k.aV=some v){ks:List (D×D)}{es:List MapEntry}(hl:ks.length=es.length)
  (h: ∀(i:Nat) (p:D×D) (e:MapEntry),ks[i]?=some p->es[i]?=some e->cB Q 20 kt p.1=true/\p.1.aV=some e.key) (w:World):
  ∃r,(Instr.findKey kt v es).run Q w= .ok r w/\((r=none/\ ∀p∈ks,p.1≠k)\/ ∃i p e,r=some (i,e.val)/\ks[i]?=some p/\es[i]?=some e/\p.1=k):=by
 obtain⟨r,hr,lj⟩:=kh hs hv ks es 0 hl h;refine⟨r,?_,?_⟩
 ·have hd: ∃d,Q.underlying kt=some d:=by
   unfold cB at hs;cases hd:Q.underlying kt with
   |none=>rw[hd] at hs;simp at hs
   |some d=>exact⟨d,rfl⟩
  obtain⟨d,hd⟩:=hd;refine aS ?_ w;unfold Instr.findKey;rw[ah,aq hd,zai];cases hn:Instr.findNow d v es 0 with
  |none=>exact hr
  |some r'=>have:=lH hd es 0 r' hn;rw[hr] at this;cases this;rfl
 simpa using lj
theorem jP: ∀(x:D) (v:Value),(∀c∈x.cells,c.sN=true)->x.aV=some v->Instr.sameBits 10000 v v=true:=by
 have cell: ∀(n:Nat) (x:D) (v:Value),x.sN=true->x.bW=some v->Instr.sameBits (n+1) v v=true:=by
  intro n x v hl h;cases x<;>simp[D.bW] at h<;>simp[D.sN] at hl<;>subst h
  ·simp[Instr.sameBits]
  ·simp[Instr.sameBits]
  rename_i s;show((⟨⟨s⟩⟩:ByteArray)==⟨⟨s⟩⟩)=true;show((⟨s⟩:Array UInt8)==⟨s⟩)=true;simp
 intro x v ou h;cases x with
 |agg cs=>
  simp only[D.aV] at h;split at h
  next vs q5=>
   simp only[zae] at h;subst h;simp only[Instr.sameBits,zbS,Bool.true_and];rw[zaE];intro p hp;have: ∀(l:List Value) (p:Value×Value),p∈l.zip l->p.1=p.2/\p.1∈l:=by
    intro l
    induction l with
    |nil=>intro p hp;cases hp
    |cons y l ih=>
     intro p hp;rcases zaz.1 hp with rfl |hp
     ·exact⟨rfl,by simp⟩
     have:=ih p hp;exact⟨this.1,by simp[this.2]⟩
   obtain⟨e1,e2⟩:=this vs p hp;obtain⟨a,b⟩:=p;simp only at e1 e2⊢;subst e1;obtain⟨i,hi,rfl⟩:=zaL e2;have hl:=pC q5;obtain⟨u,h1,h2⟩:=lF (i:=i) (x:=cs[i]'(by omega)) q5 (by simp);rw[zab hi] at h1;cases h1;exact cell 9998 _ _ (ou _ (by simp[D.cells])) h2
  cases h
 |bool b=>exact cell 9999 (.bool b) _ rfl h
 |int k n=>exact cell 9999 (.int k n) _ rfl h
 |str s=>exact cell 9999 (.str s) _ rfl h
 |_=>simp[D.cells,D.sN] at ou
section
variable{Q:Program}{T:Tg}{F:Nat->Prop}{G:Nat->Value}{w:World}{a:Act}{s:S}
theorem gI{t:TypeId}{z:D}(hz:bK Q t=some z)(w:World): ∃zv,(zeroValue t).run Q w= .ok zv w/\ay F w zv z:=by
 unfold bK at hz;split at hz
 next i hi=>
  split at hz
  next zv sc=>exact⟨zv,by simp[zeroValue,typeInfo,hi,sc],ay.jK F w hz⟩
  cases hz
 cases hz
theorem bZ{t kt e:TypeId}(h:cm Q t=some (kt,e)):Q.underlying t=some (.map kt e):=by
 unfold cm at h;split at h
 ·simp only[zae,zaQ] at h;obtain⟨rfl,rfl⟩:=h;assumption
 cases h
theorem gh.look{kt:TypeId}{get:D->Option D}{n:Int}{es:List MapEntry}{clock:Nat}(h:gh Q F w kt get n es clock){k:D}{v:Value}(hk:bu Q kt k=true)(hv:k.aV=some v):
  ∃r,(Instr.findKey kt v es).run Q w= .ok r w/\((r=none/\get k=none)\/ ∃i e y,r=some (i,e.val)/\es[i]?=some e/\e.key=v/\get k=some y/\ay F w e.val y):=by
 obtain⟨ks,h1,h2,h3,h4,h5,h6,h7⟩:=h;obtain⟨r,hr,lj⟩:=ju (aM hk).1 hv h1 (λi p e hp he=>⟨(aM (h3 i p e hp he).1).1,(h3 i p e hp he).2.1⟩) w;refine⟨r,hr,?_⟩;rcases lj with⟨rfl,cY⟩| ⟨i,p,e,rfl,hp,he,wK⟩
 ·refine .inl ⟨rfl,?_⟩;cases hg:get k with
  |none=>rfl
  |some y=>exact absurd rfl (cY _ ((h5 k y).1 hg))
 obtain⟨_,a2,a3⟩:=h3 i p e hp he;refine .inr ⟨i,e,p.2,rfl,he,?_,(h5 k p.2).2 ?_,a3⟩
 ·rw[wK,hv] at a2;exact(zbc a2).symm
 rw[<-wK];exact zao hp
theorem pF(h:ar Q T F G w a s){n aw:Nat}{v:Value}{kt:Nat}{get:D->Option D}{c:Int}{last:Bool}(hv:ao F w G s.rg v (.mp n aw))(ho:s.obj n aw=some (.map kt get c last)):
  ∃e,lk s.rg n=some e/\e.aw=aw/\e.obj= .map kt get c last/\v=G n/\ ∃b es clock,G n= .map (some b)/\w.heap[b]?=some (.map es clock)/\gh Q F w kt get c es.toList clock:=by
 obtain⟨e,he,bE,aN⟩:=S.aJ ho;cases hv with
 |mp _ _ _ _ hr=>obtain⟨e',aW,hle,hc⟩:=hr;rw[he] at aW;cases aW;have hv:=hc bE.symm (by rw[aN];rfl);have:=h.rg n e he;rw[aN] at this;obtain⟨b,es,clock,h1,h2,h3,_⟩:=this;exact⟨e,he,bE,aN,hv,b,es,clock,h1,h2,h3⟩
theorem u6(h:ar Q T F G w a s){n aw:Nat}{v:Value}{kt:Nat}{get:D->Option D}{c:Int}{p:P}{kd:D}(hv:ao F w G s.rg v (.mp n aw))(ho:s.obj n aw=some (.dS kt get c p kd)):
  ∃e,lk s.rg n=some e/\e.aw=aw/\e.obj= .dS kt get c p kd/\v=G n/\ ∃b es clock,G n= .map (some b)/\w.heap[b]?=some (.map es clock)/\gh Q F w kt get c es.toList clock/\ ∃(i:Nat) (en:MapEntry),es[i]?=some en/\ao F w G s.rg (.int .i64 (en.born:Int)) p/\kd.aV=some en.key/\(get kd).isSome=true:=by
 obtain⟨e,he,bE,aN⟩:=S.aJ ho;cases hv with
 |mp _ _ _ _ hr=>obtain⟨e',aW,hle,hc⟩:=hr;rw[he] at aW;cases aW;have hv:=hc bE.symm (by rw[aN];rfl);have:=h.rg n e he;rw[aN] at this;obtain⟨b,es,clock,h1,h2,h3,h4⟩:=this;exact⟨e,he,bE,aN,hv,b,es,clock,h1,h2,h3,h4⟩
theorem nA{k:D}(p:P): ∀ks:List (D×P),(∀q∈ks,q.1≠k)->jh k ks=none/\kV k p ks=ks++[(k,p)]/\kW k ks=ks
 | [],_=>⟨rfl,rfl,rfl⟩
 | (j,q)::r,h=>by
  obtain⟨h1,h2,h3⟩:=nA p r λx hx=>h x (.tail _ hx);have bz:D.iH j k=false:=by
   cases hb:D.iH j k with
   |false=>rfl
   |true=>exact absurd ((D.dB j k).1 hb) (h (j,q) (.head _))
  simp only[jh,kV,kW,bz,h1,h2,h3,zbr,List.cons_append,and_self]
theorem nB{k:D}(p:P): ∀(ks:List (D×P)) (i:Nat) (q:D×P),(ks.map (·.1)).Nodup->ks[i]?=some q->q.1=k->jh k ks=some q.2/\kV k p ks=ks.set i (k,p)/\kW k ks=ks.eraseIdx i
 | [],i,q,_,h,_=>by simp at h
 | (j,x)::r,0,q,_,h,hk=>by simp only[zca,zae] at h;subst h;have hb:D.iH j k=true:=(D.dB j k).2 hk;simp only[jh,kV,kW,hb,zby,List.set_cons_zero,List.eraseIdx_cons_zero,and_self]
 | (j,x)::r,i+1,q,hn,h,hk=>by
  simp only[zbd] at h;rw[zaZ,zbe] at hn;obtain⟨h1,h2,h3⟩:=nB p r i q hn.2 h hk;have bz:D.iH j k=false:=by
   cases hb:D.iH j k with
   |false=>rfl
   |true=>have e:=(D.dB j k).1 hb;exact absurd (zbo.2 ⟨q,zao h,hk.trans e.symm⟩) hn.1
  simp only[jh,kV,kW,bz,h1,h2,h3,zbr,List.set_cons_succ,List.eraseIdx_cons_succ,and_self]
theorem pr.look{R:List (Nat×En)}{kt:TypeId}{ks:List (D×P)}{es:List MapEntry}{clock:Nat}(h:pr Q F w G R kt ks es clock){k:D}{v:Value}(hk:bu Q kt k=true)(hv:k.aV=some v)(p:P):
  ∃r,(Instr.findKey kt v es).run Q w= .ok r w/\((r=none/\(∀q∈ks,q.1≠k)/\jh k ks=none/\kV k p ks=ks++[(k,p)]/\kW k ks=ks)\/
   ∃i q e,r=some (i,e.val)/\ks[i]?=some q/\es[i]?=some e/\e.key=v/\ao F w G R e.val q.2/\q.1=k/\jh k ks=some q.2/\kV k p ks=ks.set i (k,p)/\kW k ks=ks.eraseIdx i):=by
 obtain⟨h1,h3,h4,h6,h7⟩:=h;obtain⟨r,hr,lj⟩:=ju (aM hk).1 hv (ks:=ks.map λx=>(x.1,D.gf)) (by rw[zaD];exact h1) (λi p e hp he=>by rw[zap,zaj] at hp;obtain⟨q,hq,rfl⟩:=hp;exact⟨(aM (h3 i q e hq he).1).1,(h3 i q e hq he).2.1⟩) w;refine⟨r,hr,?_⟩;rcases lj with⟨rfl,cY⟩| ⟨i,p0,e,rfl,hp,he,wK⟩
 ·have dH: ∀q∈ks,q.1≠k:=λq hq=>cY (q.1,D.gf) (zbo.2 ⟨q,hq,rfl⟩);exact .inl ⟨rfl,dH,nA p ks dH⟩
 rw[zap,zaj] at hp;obtain⟨q,hq,rfl⟩:=hp;obtain⟨_,a2,a3⟩:=h3 i q e hq he;refine .inr ⟨i,q,e,rfl,hq,he,?_,a3,wK,nB p ks i q h4 hq wK⟩;have wK:q.1=k:=wK;rw[wK,hv] at a2;exact(zbc a2).symm
theorem pG(h:ar Q T F G w a s){n aw:Nat}{v:Value}{kt:Nat}{ks:List (D×P)}(hv:ao F w G s.rg v (.mp n aw))(ho:s.obj n aw=some (.cb kt ks)):
  ∃e,lk s.rg n=some e/\e.aw=aw/\e.obj= .cb kt ks/\v=G n/\ ∃b es clock,G n= .map (some b)/\w.heap[b]?=some (.map es clock)/\pr Q F w G s.rg kt ks es.toList clock:=by
 obtain⟨e,he,bE,aN⟩:=S.aJ ho;cases hv with
 |mp _ _ _ _ hr=>obtain⟨e',aW,hle,hc⟩:=hr;rw[he] at aW;cases aW;have hv:=hc bE.symm (by rw[aN];rfl);have:=h.rg n e he;rw[aN] at this;obtain⟨b,es,clock,h1,h2,h3⟩:=this;exact⟨e,he,bE,aN,hv,b,es,clock,h1,h2,h3⟩
theorem q7(h:ar Q T F G w a s){t kt e:TypeId}{p i q:P}{ok:Bool}{z:D}(ht:cm Q t=some (kt,e))(hz:bK Q e=some z){v u:Value}(hv:ao F w G s.rg v p)(hu:ao F w G s.rg u i)
  (hq:bA Q s t p i ok z=some q): ∃r,(Instr.lookup t v u ok).run Q w= .ok r w/\ao F w G s.rg r q:=by
 have dW:=bZ ht;obtain⟨zv,mI,ph⟩:=gI (F:=F) hz w;have two: ∀(v1:Value) (x:D) (b:Bool),ay F w v1 x->ao F w G s.rg (.tuple #[v1,.bool b]) (.dR [.d x,.d (.bool b)]):=λv1 x b hx=>
  .dR [v1,.bool b] _ rfl (λi v c hv hc=>by
   match i with
   |0=>simp at hv hc;subst hv;subst hc;exact .d hx
   |1=>simp at hv hc;subst hv;subst hc;exact .d (.bool b)
   |i+2=>simp at hv)
 unfold bA at hq;rw[ht] at hq;split at hq
 next gn e' n aw k sd=>
  simp only[zae,zaQ] at sd;obtain⟨rfl,rfl⟩:=sd;split at hq
  next w8 get c last ho=>
   split at hq
   ·rename_i hc;simp only[zad] at hc;have ki:=zac hc.1;subst ki;obtain⟨_,_,⟨kv,ix,iQ⟩⟩:=aM hc.2;have yC:u=kv:=hu.aV (p:= .d k) ix;subst yC;obtain⟨e0,_,_,_,iy,b,es,clock,hG,hb,hM⟩:=pF h hv ho;rw[hG] at iy;subst iy;obtain⟨ck,fa⟩:=iQ es.isEmpty;have fa:=aS fa w;obtain⟨r,hr,lj⟩:=hM.look hc.2 ix;rcases lj with⟨rfl,hg⟩| ⟨j,en,y,rfl,_,_,hg,hy⟩
    ·rw[hg] at hq;cases ok with
     |true=>simp at hq;subst hq;exact⟨.tuple #[zv,.bool false],by simp[Instr.lookup,run_underlying dW,MapKept.run_getObj_map hb,fa,hr,mI],two _ _ _ ph⟩
     |false=>simp at hq;subst hq;exact⟨zv,by simp[Instr.lookup,run_underlying dW,MapKept.run_getObj_map hb,fa,hr,mI],.d ph⟩
    rw[hg] at hq;cases ok with
    |true=>simp at hq;subst hq;exact⟨.tuple #[en.val,.bool true],by simp[Instr.lookup,run_underlying dW,MapKept.run_getObj_map hb,fa,hr],two _ _ _ hy⟩
    |false=>simp at hq;subst hq;exact⟨en.val,by simp[Instr.lookup,run_underlying dW,MapKept.run_getObj_map hb,fa,hr],.d hy⟩
   cases hq
  next w8 get c pE EN ho=>
   split at hq
   ·rename_i hc;simp only[zad,zaX] at hc;obtain⟨⟨hT,ki⟩,q8⟩:=hc;have ki:=zac ki;subst ki;subst hT;obtain⟨_,_,⟨kv,ix,iQ⟩⟩:=aM q8;have yC:u=kv:=hu.aV (p:= .d k) ix;subst yC;obtain⟨e0,_,_,_,iy,b,es,clock,hG,hb,hM,_⟩:=u6 h hv ho;rw[hG] at iy;subst iy;obtain⟨ck,fa⟩:=iQ es.isEmpty;have fa:=aS fa w;obtain⟨r,hr,lj⟩:=hM.look q8 ix;rcases lj with⟨rfl,hg⟩| ⟨j,en,y,rfl,_,_,hg,hy⟩
    ·rw[hg] at hq;simp at hq;subst hq;exact⟨zv,by simp[Instr.lookup,run_underlying dW,MapKept.run_getObj_map hb,fa,hr,mI],.d ph⟩
    rw[hg] at hq;simp at hq;subst hq;exact⟨en.val,by simp[Instr.lookup,run_underlying dW,MapKept.run_getObj_map hb,fa,hr],.d hy⟩
   cases hq
  next w8 ks ho=>
   split at hq
   ·rename_i hc;simp only[zad] at hc;have ki:=zac hc.1;subst ki;obtain⟨_,_,⟨kv,ix,iQ⟩⟩:=aM hc.2;have yC:u=kv:=hu.aV (p:= .d k) ix;subst yC;obtain⟨e0,_,_,_,iy,b,es,clock,hG,hb,hM⟩:=pG h hv ho;rw[hG] at iy;subst iy;obtain⟨ck,fa⟩:=iQ es.isEmpty;have fa:=aS fa w;obtain⟨r,hr,lj⟩:=hM.look hc.2 ix .bad;have BO: ∀(v1:Value) (p:P) (b:Bool),ao F w G s.rg v1 p->ao F w G s.rg (.tuple #[v1,.bool b]) (.dR [p,.d (.bool b)]):=λv1 p b hx=>
     .dR [v1,.bool b] _ rfl (λi v c hv hc=>by
      match i with
      |0=>simp at hv hc;subst hv;subst hc;exact hx
      |1=>simp at hv hc;subst hv;subst hc;exact .d (.bool b)
      |i+2=>simp at hv)
    rcases lj with⟨rfl,_,hg,_⟩| ⟨j,q0,en,rfl,_,_,_,hy,_,hg,_⟩
    ·rw[hg] at hq;cases ok with
     |true=>simp at hq;subst hq;exact⟨.tuple #[zv,.bool false],by simp[Instr.lookup,run_underlying dW,MapKept.run_getObj_map hb,fa,hr,mI],two _ _ _ ph⟩
     |false=>simp at hq;subst hq;exact⟨zv,by simp[Instr.lookup,run_underlying dW,MapKept.run_getObj_map hb,fa,hr,mI],.d ph⟩
    rw[hg] at hq;cases ok with
    |true=>simp at hq;subst hq;exact⟨.tuple #[en.val,.bool true],by simp[Instr.lookup,run_underlying dW,MapKept.run_getObj_map hb,fa,hr],BO _ _ _ hy⟩
    |false=>simp at hq;subst hq;exact⟨en.val,by simp[Instr.lookup,run_underlying dW,MapKept.run_getObj_map hb,fa,hr],hy⟩
   cases hq
  cases hq
 next gn e' k sd=>
  simp only[zae,zaQ] at sd;obtain⟨rfl,rfl⟩:=sd;split at hq
  next hc=>
   obtain⟨sb,_,⟨kv,ix,iQ⟩⟩:=aM hc;have yC:u=kv:=hu.aV (p:= .d k) ix;subst yC;have r7:v= .map none:=hv.aV (p:= .d .jg) rfl;subst r7;obtain⟨ck,fa⟩:=iQ true;have fa:=aS fa w;obtain⟨r,hr,lj⟩:=ju (ks:=[]) (es:=[]) sb ix rfl (λi p e hp=>by simp at hp) w;have CN:r=none:=by
    rcases lj with⟨rfl,_⟩| ⟨i,p,e,_,hp,_⟩
    ·rfl
    simp at hp
   subst CN;cases ok with
   |true=>simp at hq;subst hq;exact⟨.tuple #[zv,.bool false],by simp[Instr.lookup,run_underlying dW,fa,hr,mI],two _ _ _ ph⟩
   |false=>simp at hq;subst hq;exact⟨zv,by simp[Instr.lookup,run_underlying dW,fa,hr,mI],.d ph⟩
  cases hq
 cases hq
theorem ay.se(F:Nat->Prop)(w:World){x:D}{v:Value}(h:x.bW=some v):ay F w v x:=by cases x<;>simp[D.bW] at h<;>subst h<;>constructor
theorem sf: ∀(cs:List D) (vs:List Value),D.bc cs=some vs->vs.length=cs.length/\ ∀(i:Nat) (v:Value) (c:D),vs[i]?=some v->cs[i]?=some c->c.bW=some v
 | [],vs,h=>by simp[D.bc] at h;subst h;exact⟨rfl,λi v c hv=>by simp at hv⟩
 |x::r,vs,h=>by
  simp only[D.bc] at h;split at h
  next v1 Dz h1 h2=>
   simp at h;subst h;obtain⟨k1,k2⟩:=sf r Dz h2;refine⟨by simp[k1],λi v c hv hc=> ?_⟩;cases i with
   |zero=>simp at hv hc;subst hv;subst hc;exact h1
   |succ i=>exact k2 i v c (by simpa using hv) (by simpa using hc)
  cases h
theorem ay.yD(F:Nat->Prop)(w:World){x:D}{v:Value}(h:x.aV=some v):ay F w v x:=by
 cases x with
 |agg cs=>
  simp only[D.aV] at h;split at h
  next vs q5=>
   simp at h;subst h;obtain⟨k1,k2⟩:=sf cs vs q5;refine .agg vs cs k1 (λc hc=> ?_) λi v c hv hc=>ay.se F w (k2 i v c hv hc);obtain⟨i,hi⟩:=zar hc;have bm:i<vs.length:=by have:=(zaa.1 hi).1;omega
   have:=k2 i _ c (zab bm) hi;cases c<;>first |rfl |simp[D.bW] at this
  cases h
 |_=>exact ay.se F w h
theorem lI(e:MapEntry): ∀l:List MapEntry,e∈l->(l.map (·.born)).Nodup->l.find? (λx=>x.born==e.born)=some e
 | [],h,_=>by cases h
 |x::r,h,hn=>by
  rw[zaZ,zbe] at hn;rw[List.find?_cons];rcases zaz.1 h with rfl |h
  ·simp
  have bz:x.born≠e.born:=λhx=>hn.1 (zbo.2 ⟨e,h,hx.symm⟩);have:(x.born==e.born)=false:=by simpa using bz
  rw[this];exact lI e r h hn.2
theorem ov{r m since:Nat}{seen:Array Nat}{es:Array MapEntry}{clock:Nat}{e:MapEntry}(hr:w.heap[r]?=some (.mapIter (some m) since (seen.push e.born) clock))(hm:w.heap[m]?=some (.map es clock))(he:e∈es.toList)(hn:(es.toList.map (·.born)).Nodup):
  (Instr.entry (.pointer (some ⟨r,0,none⟩))).run Q w= .ok (.tuple #[e.key,e.val]) w:=by
 have hf:es.find? (λx=>x.born==e.born)=some e:=by rw[<-Array.find?_toList];exact lI e _ he hn
 have hc:(clock !=clock)=false:=by simp
 simp only[Instr.entry,getObj,Sem.run_bind,Sem.run,hr,hm,Result.andThen,Array.back?_push,hc,zaw,za6,hf];rfl
theorem sV(h:ar Q T F G w a s){p q:P}{v:Value}(hv:ao F w G s.rg v p)(hq:gv s p=some q): ∃r,(Instr.entry v).run Q w= .ok r w/\ao F w G s.rg r q:=by
 unfold gv at hq;split at hq
 next n aw=>
  split at hq
  next kt vt left k x ho=>
   simp only[zae] at hq;subst hq;obtain⟨e,he,bE,aN⟩:=S.aJ ho;have hO:=h.rg n e he;rw[aN] at hO;obtain⟨b,mo,since,seen,last,hg,hh,hO⟩:=hO;cases hv with
   |ref _ _ _ _ hr h1=>
    obtain⟨b',sW,rfl⟩:=hr.at he bE (by rw[aN];rfl);rw[hg] at sW;simp at sW;subst sW;rcases hO with⟨_,_,hc⟩| ⟨m,es,rfl,hF,hm,Ag,⟨ks,g1,g3,g4,g5,g6,g7⟩,hc⟩
    ·cases hc
    subst Ag;obtain⟨en,dQ,fZ,hk,hx⟩:=hc k x rfl;obtain⟨sn,rfl⟩:=Array.back?_eq_some_iff.1 fZ;refine⟨_,ov hh hm dQ g6,.dR [en.key,en.val] _ rfl λi v c hv hc=> ?_⟩
    match i with
    |0=>simp at hv hc;subst hv;subst hc;exact .d (ay.yD F w hk)
    |1=>simp at hv hc;subst hv;subst hc;exact .d hx
    |i+2=>simp at hv
  cases hq
 cases hq
end
end Pi
