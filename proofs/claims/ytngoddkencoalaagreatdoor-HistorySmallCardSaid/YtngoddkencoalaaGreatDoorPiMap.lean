/- The text PiMap. -/
import Derived.Test.YtngoddkencoalaaGreatDoorPiEq
import Derived.MapKept
namespace Pi
open Go
mutual
theorem D.hQ: ∀(x y:D),D.oO x y=true↔x=y
 | .bool a,y=>by cases y<;>simp[D.oO]
 | .int k a,y=>by cases y<;>simp[D.oO]
 | .str a,y=>by cases y<;>simp[D.oO]
 | .agg a,y=>by cases y<;>simp[D.oO,D.xS a]
 | .sl k a,y=>by cases y<;>simp[D.oO,D.xS a]
 | .fX,y=>by cases y<;>simp[D.oO]
 | .r3,y=>by cases y<;>simp[D.oO]
 | .tf,y=>by cases y<;>simp[D.oO]
 | .Cz,y=>by cases y<;>simp[D.oO]
 | .CA,y=>by cases y<;>simp[D.oO]
theorem D.xS: ∀(x y:List D),D.Ih x y=true↔x=y
 | [],y=>by cases y<;>simp[D.Ih]
 |x::xs,y=>by
  cases y with
  |nil=>simp[D.Ih]
  |cons y ys=>simp[D.Ih,D.hQ x,D.xS xs]
end
theorem Bs(k v:D)(get:D->Option D):df k v get k=some v:=by unfold df;rw[(D.hQ k k).2 rfl];rfl
theorem KL{k k':D}(v:D)(get:D->Option D)(h:k≠k'):df k v get k'=get k':=by
 unfold df;cases hb:D.oO k k' with
 |false=>rfl
 |true=>exact absurd ((D.hQ k k').1 hb) h
theorem Iy{Q:Program}{t:TypeId}{k:Nat}(h:sz Q t=some k):Q.cellsOf t=k:=by obtain⟨i,d,hi,_,rfl⟩:=gA h;unfold Program.cellsOf;rw[hi];rfl
theorem Qb{Q:Program}{t:TypeId}{xs ys:List D}{off:Nat}{x y:D}(WL:(dH Q t ||Nat.beq (Q.cellsOf t) 1)=true)(h1:jv Q t xs off=some x)(h2:jv Q t ys off=some y):
  x=y↔(xs.drop off).take (Q.cellsOf t)=(ys.drop off).take (Q.cellsOf t):=by
 unfold jv at h1 h2;cases hk:sz Q t with
 |none=>rw[hk] at h1;cases h1
 |some k=>
  rw[hk] at h1 h2;have e:=Iy hk;rw[e] at WL⊢;simp only at h1 h2;cases ha:dH Q t with
  |true=>
   rw[ha] at h1 h2;simp only[zba] at h1 h2;split at h1
   ·split at h2
    ·cases h1;cases h2;simp
    cases h2
   cases h1
  |false=>
   rw[ha] at h1 h2 WL;simp only[zaz,zbk] at h1 h2;have fh:k=1:=by simpa using WL
   subst fh;have l1:=(zad.1 h1).1;have l2:=(zad.1 h2).1;have e1:(xs.drop off).take 1=[x]:=by rw[zaY l1];simp[(zad.1 h1).2]
   have e2:(ys.drop off).take 1=[y]:=by rw[zaY l2];simp[(zad.1 h2).2]
   rw[e1,e2];simp
theorem xT{Q:Program}{go:TypeId->D->D->Option Bool}{xs ys:List D}{r4:Nat}(hx:xs.length=r4)(hy:ys.length=r4)
  {sh:TypeId->D->Bool} (mW: ∀t x y,sh t x=true->sh t y=true-> ∃c,go t x y=some c/\(c=true↔x=y)): ∀(fs:List Field) (off:Nat),pr Q off fs r4=true->off<=r4->
  (∀f∈fs,(!(f.name== "_")&&(dH Q f.type ||Nat.beq (Q.cellsOf f.type) 1)&&(match jv Q f.type xs f.offset with |some y=>sh f.type y |none=>false))=true)->
  (∀f∈fs,(!(f.name== "_")&&(dH Q f.type ||Nat.beq (Q.cellsOf f.type) 1)&&(match jv Q f.type ys f.offset with |some y=>sh f.type y |none=>false))=true)->
  ∃c,EZ Q go fs xs ys=some c/\(c=true↔xs.drop off=ys.drop off)
 | [],off,ht,hle,_,_=>by have:off=r4:=zaf ht;refine⟨true,rfl,?_⟩;rw[zcC (by omega),zcC (by omega)];simp
 |f::r,off,ht,hle,h1,h2=>by
  simp only[pr,zab] at ht;have ho:f.offset=off:=zaf ht.1;have WM:off+Q.cellsOf f.type<=r4:=by
   have: ∀(fs:List Field) (o:Nat),pr Q o fs r4=true->o<=r4:=by
    intro fs
    induction fs with
    |nil=>intro o h;exact Nat.le_of_eq (zaf h)
    |cons g gs ih=>intro o h;simp only[pr,zab] at h;have:=ih _ h.2;omega
   exact this r _ ht.2
  obtain⟨c,hc,jU⟩:=xT hx hy mW r _ ht.2 WM (λg hg=>h1 g (by simp[hg])) (λg hg=>h2 g (by simp[hg]));have a1:=h1 f (by simp);have a2:=h2 f (by simp);simp only[zab] at a1 a2;obtain⟨⟨hn,WL⟩,b1⟩:=a1;obtain⟨_,b2⟩:=a2;have hn:(f.name== "_")=false:=by simpa using hn
  unfold EZ;rw[hn];simp only;cases p1:jv Q f.type xs f.offset with
  |none=>rw[p1] at b1;cases b1
  |some x=>
   cases p2:jv Q f.type ys f.offset with
   |none=>rw[p2] at b2;cases b2
   |some y=>
    rw[p1] at b1;rw[p2] at b2;obtain⟨a,ha,haa⟩:=mW f.type x y b1 b2;simp only[ha,hc];refine⟨a&&c,rfl,?_⟩;rw[zab,haa,jU,Qb WL p1 p2,ho];have Qc: ∀l:List D,l.drop off=(l.drop off).take (Q.cellsOf f.type)++l.drop (off+Q.cellsOf f.type):=λl=>by rw[<-zc7,zbS]
    constructor
    ·rintro⟨e1,e2⟩;rw[Qc xs,Qc ys,e1,e2]
    intro e;refine⟨by rw[e],?_⟩;rw[<-zc7,<-zc7,e]
theorem qF{Q:Program}: ∀(n:Nat) (t:TypeId) (x y:D),iS Q n t x=true->iS Q n t y=true-> ∃c,WC Q n t x y=some c/\(c=true↔x=y)
 |0,_,_,_,h,_=>by simp[iS] at h
 |n+1,t,x,y,h1,h2=>by
  unfold iS at h1 h2;unfold WC;cases hd:Q.underlying t with
  |none=>rw[hd] at h1;simp at h1
  |some d=>
   rw[hd] at h1 h2;cases d with
   |bool=>
    cases x<;>try (simp at h1;done)
    cases y<;>try (simp at h2;done)
    exact⟨_,rfl,by simp⟩
   |int k=>
    cases x<;>try (simp at h1;done)
    cases y<;>try (simp at h2;done)
    rename_i k1 a k2 b;have e1:k=k1:=by simpa using h1
    have e2:k=k2:=by simpa using h2
    subst e1 e2;exact⟨a==b,by simp,by simp⟩
   |string=>
    cases x<;>try (simp at h1;done)
    cases y<;>try (simp at h2;done)
    exact⟨_,rfl,by simp⟩
   |struct fs=>
    cases x<;>try (simp at h1;done)
    cases y<;>try (simp at h2;done)
    rename_i xs ys;simp only[zab] at h1 h2;obtain⟨⟨⟨l1,t1⟩,s1⟩,f1⟩:=h1;obtain⟨⟨⟨l2,_⟩,_⟩,f2⟩:=h2;have s1:Q.stoodInHeld t=false:=by simpa using s1
    obtain⟨c,hc,jU⟩:=xT (Q:=Q) (go:=WC Q n) (xs:=xs) (ys:=ys) (zaf l1) (zaf l2) (sh:=iS Q n) (λt x y a b=>qF n t x y a b) fs.toList 0 t1 (za5 _)
     (λf hf=>zbl.1 f1 f hf) (λf hf=>zbl.1 f2 f hf)
    refine⟨c,by simp only[s1];exact hc,?_⟩;rw[jU];simp
   |_=>simp at h1
theorem cC{Q:Program}{kt:TypeId}{k:D}(h:fY Q kt k=true):iS Q 20 kt k=true/\(∀c∈k.cells,c.Mu=true)/\ ∃v,k.cG=some v/\ ∀em,∃u,aA Q (Instr.checkKey em 10000 kt v)=some u:=by
 simp only[fY,zab] at h;refine⟨h.1.1,zbl.1 h.1.2,?_⟩;have h2:=h.2;split at h2
 next v hv=>
  split at h2
  next a b ha hb=>exact⟨v,hv,λem=>by cases em;exact⟨_,ha⟩;exact⟨_,hb⟩⟩
  cases h2
 cases h2
theorem vL{Q:Program}{kt:TypeId}{k:D}{v:Value}(hs:iS Q 20 kt k=true)(hv:k.cG=some v): ∀(ks:List (D×D)) (es:List MapEntry) (i0:Nat),ks.length=es.length->
  (∀(i:Nat) (p:D×D) (e:MapEntry),ks[i]?=some p->es[i]?=some e->iS Q 20 kt p.1=true/\p.1.cG=some e.key)->
  ∃r,aA Q (Instr.findAsking kt v es i0)=some r/\((r=none/\ ∀p∈ks,p.1≠k)\/ ∃i p e,r=some (i0+i,e.val)/\ks[i]?=some p/\es[i]?=some e/\p.1=k)
 | [],[],i0,_,_=>⟨none,rfl,.inl ⟨rfl,by simp⟩⟩
 | [],e::es,i0,h,_=>by simp at h
 |p::ks,[],i0,h,_=>by simp at h
 |p::ks,e::es,i0,hl,h=>by
  obtain⟨h1,h2⟩:=h 0 p e rfl rfl;obtain⟨c,hc,jU⟩:=qF 20 kt k p.1 hs h1;have he:=fL 20 10000 kt k p.1 c v e.key (by omega) hc hv h2;unfold Instr.findAsking;have eq:Op.equal kt v e.key=Op.equalIn 10000 kt v e.key:=rfl;rw[ax,eq,he,zav];cases c with
  |true=>exact⟨_,rfl,.inr ⟨0,p,e,rfl,rfl,rfl,(jU.1 rfl).symm⟩⟩
  |false=>
   obtain⟨r,hr,vM⟩:=vL hs hv ks es (i0+1) (by simpa using hl) λi p e hp he=>h (i+1) p e (by simpa using hp) (by simpa using he);refine⟨r,hr,?_⟩;have dP:p.1≠k:=λe=>by have:=jU.2 e.symm;cases this
   rcases vM with⟨rfl,iF⟩| ⟨i,p',e',rfl,a,b,c⟩
   ·exact .inl ⟨rfl,λq hq=>by
     rcases zaw.1 hq with rfl |hq
     ·exact dP
     exact iF q hq⟩
   exact .inr ⟨i+1,p',e',by rw[show i0+(i+1)=i0+1+i by omega],by simpa using a,by simpa using b,c⟩
theorem Fb{Q:Program}{kt:TypeId}{d:TypeDesc}(hd:Q.underlying kt=some d){v u:Value}{c:Bool}(h:Instr.sameNow d v u=some c):aA Q (Op.equal kt v u)=some c:=by
 have eq:Op.equal kt v u=Op.equalIn (9999+1) kt v u:=rfl;unfold Instr.sameNow at h;split at h
 ·split at h
  next hk=>subst hk;rw[eq,Op.equalIn,ax,aM hd];simp only[zav,zba];exact h
  cases h
 ·rw[eq,Op.equalIn,ax,aM hd];exact h
 ·rw[eq,Op.equalIn,ax,aM hd];exact h
 cases h
theorem xU{Q:Program}{kt:TypeId}{d:TypeDesc}(hd:Q.underlying kt=some d){v:Value}: ∀(es:List MapEntry) (i:Nat) (r:Option (Nat×Value)),Instr.findNow d v es i=some r->aA Q (Instr.findAsking kt v es i)=some r
 | [],i,r,h=>by simp[Instr.findNow] at h;subst h;rfl
 |e::es,i,r,h=>by
  unfold Instr.findNow at h;unfold Instr.findAsking;split at h
  next hs=>simp only[zam] at h;subst h;rw[ax,Fb hd hs];rfl
  next hs=>rw[ax,Fb hd hs];exact xU hd es (i+1) r h
  cases h
theorem xV{Q:Program}{kt:TypeId}{k:D}{v:Value}(hs:iS Q 20 kt k=true)(hv:k.cG=some v){ks:List (D×D)}{es:List MapEntry}(hl:ks.length=es.length)
  (h: ∀(i:Nat) (p:D×D) (e:MapEntry),ks[i]?=some p->es[i]?=some e->iS Q 20 kt p.1=true/\p.1.cG=some e.key) (w:World):
  ∃r,(Instr.findKey kt v es).run Q w= .ok r w/\((r=none/\ ∀p∈ks,p.1≠k)\/ ∃i p e,r=some (i,e.val)/\ks[i]?=some p/\es[i]?=some e/\p.1=k):=by
 obtain⟨r,hr,vM⟩:=vL hs hv ks es 0 hl h;refine⟨r,?_,?_⟩
 ·have hd: ∃d,Q.underlying kt=some d:=by
   unfold iS at hs;cases hd:Q.underlying kt with
   |none=>rw[hd] at hs;simp at hs
   |some d=>exact⟨d,rfl⟩
  obtain⟨d,hd⟩:=hd;refine dK ?_ w;unfold Instr.findKey;rw[ax,aM hd,zav];cases hn:Instr.findNow d v es 0 with
  |none=>exact hr
  |some r'=>have:=xU hd es 0 r' hn;rw[hr] at this;cases this;rfl
 simpa using vM
theorem Bt: ∀(x:D) (v:Value),(∀c∈x.cells,c.Mu=true)->x.cG=some v->Instr.sameBits 10000 v v=true:=by
 have cell: ∀(n:Nat) (x:D) (v:Value),x.Mu=true->x.gE=some v->Instr.sameBits (n+1) v v=true:=by
  intro n x v hl h;cases x<;>simp[D.gE] at h<;>simp[D.Mu] at hl<;>subst h
  ·simp[Instr.sameBits]
  ·simp[Instr.sameBits]
  rename_i s;show((⟨⟨s⟩⟩:ByteArray)==⟨⟨s⟩⟩)=true;show((⟨s⟩:Array UInt8)==⟨s⟩)=true;simp
 intro x v MC h;cases x with
 |agg cs=>
  simp only[D.cG] at h;split at h
  next vs MB=>
   simp only[zam] at h;subst h;simp only[Instr.sameBits,zbH,zaS];rw[zbl];intro p hp;have: ∀(l:List Value) (p:Value×Value),p∈l.zip l->p.1=p.2/\p.1∈l:=by
    intro l
    induction l with
    |nil=>intro p hp;cases hp
    |cons y l ih=>
     intro p hp;rcases zaw.1 hp with rfl |hp
     ·exact⟨rfl,by simp⟩
     have:=ih p hp;exact⟨this.1,by simp[this.2]⟩
   obtain⟨e1,e2⟩:=this vs p hp;obtain⟨a,b⟩:=p;simp only at e1 e2⊢;subst e1;obtain⟨i,hi,rfl⟩:=zaW e2;have hl:=Fa MB;obtain⟨u,h1,h2⟩:=xR (i:=i) (x:=cs[i]'(by omega)) MB (by simp);rw[zae hi] at h1;cases h1;exact cell 9998 _ _ (MC _ (by simp[D.cells])) h2
  cases h
 |bool b=>exact cell 9999 (.bool b) _ rfl h
 |int k n=>exact cell 9999 (.int k n) _ rfl h
 |str s=>exact cell 9999 (.str s) _ rfl h
 |_=>simp[D.cells,D.Mu] at MC
section
variable{Q:Program}{T:Tg}{F:Nat->Prop}{G:Nat->Value}{w:World}{a:Act}{s:S}
theorem pI{t:TypeId}{z:D}(hz:eF Q t=some z)(w:World): ∃zv,(zeroValue t).run Q w= .ok zv w/\bc F w zv z:=by
 unfold eF at hz;split at hz
 next i hi=>
  split at hz
  next zv KM=>exact⟨zv,by simp[zeroValue,typeInfo,hi,KM],bc.uK F w hz⟩
  cases hz
 cases hz
theorem iW{t kt e:TypeId}(h:kq Q t=some (kt,e)):Q.underlying t=some (.map kt e):=by
 unfold kq at h;split at h
 ·simp only[zam,zbC] at h;obtain⟨rfl,rfl⟩:=h;assumption
 cases h
theorem o5.look{kt:TypeId}{get:D->Option D}{n:Int}{es:List MapEntry}{clock:Nat}(h:o5 Q F w kt get n es clock){k:D}{v:Value}(hk:fY Q kt k=true)(hv:k.cG=some v):
  ∃r,(Instr.findKey kt v es).run Q w= .ok r w/\((r=none/\get k=none)\/ ∃i e y,r=some (i,e.val)/\es[i]?=some e/\e.key=v/\get k=some y/\bc F w e.val y):=by
 obtain⟨ks,h1,h2,h3,h4,h5,h6,h7⟩:=h;obtain⟨r,hr,vM⟩:=xV (cC hk).1 hv h1 (λi p e hp he=>⟨(cC (h3 i p e hp he).1).1,(h3 i p e hp he).2.1⟩) w;refine⟨r,hr,?_⟩;rcases vM with⟨rfl,iF⟩| ⟨i,p,e,rfl,hp,he,hpk⟩
 ·refine .inl ⟨rfl,?_⟩;cases hg:get k with
  |none=>rfl
  |some y=>exact absurd rfl (iF _ ((h5 k y).1 hg))
 obtain⟨_,a2,a3⟩:=h3 i p e hp he;refine .inr ⟨i,e,p.2,rfl,he,?_,(h5 k p.2).2 ?_,a3⟩
 ·rw[hpk,hv] at a2;exact(zb2 a2).symm
 rw[<-hpk];exact zaC hp
theorem Fc(h:aG Q T F G w a s){n aZ:Nat}{v:Value}{kt:Nat}{get:D->Option D}{c:Int}{last:Bool}(hv:aH F w G s.rg v (.mp n aZ))(ho:s.obj n aZ=some (.map kt get c last)):
  ∃e,lk s.rg n=some e/\e.aZ=aZ/\e.obj= .map kt get c last/\v=G n/\ ∃b es clock,G n= .map (some b)/\w.heap[b]?=some (.map es clock)/\o5 Q F w kt get c es.toList clock:=by
 obtain⟨e,he,dY,ca⟩:=S.bM ho;cases hv with
 |mp _ _ _ _ hr=>obtain⟨e',cR,hle,hc⟩:=hr;rw[he] at cR;cases cR;have hv:=hc dY.symm (by rw[ca];rfl);have:=h.rg n e he;rw[ca] at this;obtain⟨b,es,clock,h1,h2,h3,_⟩:=this;exact⟨e,he,dY,ca,hv,b,es,clock,h1,h2,h3⟩
theorem Qd(h:aG Q T F G w a s){n aZ:Nat}{v:Value}{kt:Nat}{get:D->Option D}{c:Int}{p:P}{kd:D}(hv:aH F w G s.rg v (.mp n aZ))(ho:s.obj n aZ=some (.kB kt get c p kd)):
  ∃e,lk s.rg n=some e/\e.aZ=aZ/\e.obj= .kB kt get c p kd/\v=G n/\ ∃b es clock,G n= .map (some b)/\w.heap[b]?=some (.map es clock)/\o5 Q F w kt get c es.toList clock/\ ∃(i:Nat) (en:MapEntry),es[i]?=some en/\aH F w G s.rg (.int .i64 (en.born:Int)) p/\kd.cG=some en.key/\(get kd).isSome=true:=by
 obtain⟨e,he,dY,ca⟩:=S.bM ho;cases hv with
 |mp _ _ _ _ hr=>obtain⟨e',cR,hle,hc⟩:=hr;rw[he] at cR;cases cR;have hv:=hc dY.symm (by rw[ca];rfl);have:=h.rg n e he;rw[ca] at this;obtain⟨b,es,clock,h1,h2,h3,h4⟩:=this;exact⟨e,he,dY,ca,hv,b,es,clock,h1,h2,h3,h4⟩
theorem Iz(h:aG Q T F G w a s){t kt e:TypeId}{p i q:P}{ok:Bool}{z:D}(ht:kq Q t=some (kt,e))(hz:eF Q e=some z){v u:Value}(hv:aH F w G s.rg v p)(hu:aH F w G s.rg u i)
  (hq:eH Q s t p i ok z=some q): ∃r,(Instr.lookup t v u ok).run Q w= .ok r w/\aH F w G s.rg r q:=by
 have oQ:=iW ht;obtain⟨zv,Bu,HI⟩:=pI (F:=F) hz w;have two: ∀(v1:Value) (x:D) (b:Bool),bc F w v1 x->aH F w G s.rg (.tuple #[v1,.bool b]) (.cT [.d x,.d (.bool b)]):=λv1 x b hx=>
  .cT [v1,.bool b] _ rfl (λi v c hv hc=>by
   match i with
   |0=>simp at hv hc;subst hv;subst hc;exact .d hx
   |1=>simp at hv hc;subst hv;subst hc;exact .d (.bool b)
   |i+2=>simp at hv)
 unfold eH at hq;rw[ht] at hq;split at hq
 next Au e' n aZ k KN=>
  simp only[zam,zbC] at KN;obtain⟨rfl,rfl⟩:=KN;split at hq
  next kt2 get c last ho=>
   split at hq
   ·rename_i hc;simp only[zab] at hc;have EC:=zaf hc.1;subst EC;obtain⟨_,_,⟨kv,xW,CQ⟩⟩:=cC hc.2;have hu':u=kv:=hu.cG (p:= .d k) xW;subst hu';obtain⟨e0,_,_,_,Bv,b,es,clock,hG,hb,hM⟩:=Fc h hv ho;rw[hG] at Bv;subst Bv;obtain⟨ck,oR⟩:=CQ es.isEmpty;have oR:=dK oR w;obtain⟨r,hr,vM⟩:=hM.look hc.2 xW;rcases vM with⟨rfl,hg⟩| ⟨j,en,y,rfl,_,_,hg,hy⟩
    ·rw[hg] at hq;cases ok with
     |true=>simp at hq;subst hq;exact⟨.tuple #[zv,.bool false],by simp[Instr.lookup,run_underlying oQ,MapKept.run_getObj_map hb,oR,hr,Bu],two _ _ _ HI⟩
     |false=>simp at hq;subst hq;exact⟨zv,by simp[Instr.lookup,run_underlying oQ,MapKept.run_getObj_map hb,oR,hr,Bu],.d HI⟩
    rw[hg] at hq;cases ok with
    |true=>simp at hq;subst hq;exact⟨.tuple #[en.val,.bool true],by simp[Instr.lookup,run_underlying oQ,MapKept.run_getObj_map hb,oR,hr],two _ _ _ hy⟩
    |false=>simp at hq;subst hq;exact⟨en.val,by simp[Instr.lookup,run_underlying oQ,MapKept.run_getObj_map hb,oR,hr],.d hy⟩
   cases hq
  next kt2 get c pE kdE ho=>
   split at hq
   ·rename_i hc;simp only[zab,zbt] at hc;obtain⟨⟨nK,EC⟩,VO⟩:=hc;have EC:=zaf EC;subst EC;subst nK;obtain⟨_,_,⟨kv,xW,CQ⟩⟩:=cC VO;have hu':u=kv:=hu.cG (p:= .d k) xW;subst hu';obtain⟨e0,_,_,_,Bv,b,es,clock,hG,hb,hM,_⟩:=Qd h hv ho;rw[hG] at Bv;subst Bv;obtain⟨ck,oR⟩:=CQ es.isEmpty;have oR:=dK oR w;obtain⟨r,hr,vM⟩:=hM.look VO xW;rcases vM with⟨rfl,hg⟩| ⟨j,en,y,rfl,_,_,hg,hy⟩
    ·rw[hg] at hq;simp at hq;subst hq;exact⟨zv,by simp[Instr.lookup,run_underlying oQ,MapKept.run_getObj_map hb,oR,hr,Bu],.d HI⟩
    rw[hg] at hq;simp at hq;subst hq;exact⟨en.val,by simp[Instr.lookup,run_underlying oQ,MapKept.run_getObj_map hb,oR,hr],.d hy⟩
   cases hq
  cases hq
 next Au e' k KN=>
  simp only[zam,zbC] at KN;obtain⟨rfl,rfl⟩:=KN;split at hq
  next hc=>
   obtain⟨WL,_,⟨kv,xW,CQ⟩⟩:=cC hc;have hu':u=kv:=hu.cG (p:= .d k) xW;subst hu';have KK:v= .map none:=hv.cG (p:= .d .tf) rfl;subst KK;obtain⟨ck,oR⟩:=CQ true;have oR:=dK oR w;obtain⟨r,hr,vM⟩:=xV (ks:=[]) (es:=[]) WL xW rfl (λi p e hp=>by simp at hp) w;have uA:r=none:=by
    rcases vM with⟨rfl,_⟩| ⟨i,p,e,_,hp,_⟩
    ·rfl
    simp at hp
   subst uA;cases ok with
   |true=>simp at hq;subst hq;exact⟨.tuple #[zv,.bool false],by simp[Instr.lookup,run_underlying oQ,oR,hr,Bu],two _ _ _ HI⟩
   |false=>simp at hq;subst hq;exact⟨zv,by simp[Instr.lookup,run_underlying oQ,oR,hr,Bu],.d HI⟩
  cases hq
 cases hq
theorem bc.KO(F:Nat->Prop)(w:World){x:D}{v:Value}(h:x.gE=some v):bc F w v x:=by cases x<;>simp[D.gE] at h<;>subst h<;>constructor
theorem KP: ∀(cs:List D) (vs:List Value),D.dj cs=some vs->vs.length=cs.length/\ ∀(i:Nat) (v:Value) (c:D),vs[i]?=some v->cs[i]?=some c->c.gE=some v
 | [],vs,h=>by simp[D.dj] at h;subst h;exact⟨rfl,λi v c hv=>by simp at hv⟩
 |x::r,vs,h=>by
  simp only[D.dj] at h;split at h
  next v1 vs1 h1 h2=>
   simp at h;subst h;obtain⟨k1,k2⟩:=KP r vs1 h2;refine⟨by simp[k1],λi v c hv hc=> ?_⟩;cases i with
   |zero=>simp at hv hc;subst hv;subst hc;exact h1
   |succ i=>exact k2 i v c (by simpa using hv) (by simpa using hc)
  cases h
theorem bc.Qe(F:Nat->Prop)(w:World){x:D}{v:Value}(h:x.cG=some v):bc F w v x:=by
 cases x with
 |agg cs=>
  simp only[D.cG] at h;split at h
  next vs MB=>
   simp at h;subst h;obtain⟨k1,k2⟩:=KP cs vs MB;refine .agg vs cs k1 (λc hc=> ?_) λi v c hv hc=>bc.KO F w (k2 i v c hv hc);obtain⟨i,hi⟩:=zaQ hc;have bG:i<vs.length:=by have:=(zad.1 hi).1;omega
   have:=k2 i _ c (zae bG) hi;cases c<;>first |rfl |simp[D.gE] at this
  cases h
 |_=>exact bc.KO F w h
theorem xX(e:MapEntry): ∀l:List MapEntry,e∈l->(l.map (·.born)).Nodup->l.find? (λx=>x.born==e.born)=some e
 | [],h,_=>by cases h
 |x::r,h,hn=>by
  rw[zbm,za7] at hn;rw[List.find?_cons];rcases zaw.1 h with rfl |h
  ·simp
  have dP:x.born≠e.born:=λhx=>hn.1 (zaA.2 ⟨e,h,hx.symm⟩);have:(x.born==e.born)=false:=by simpa using dP
  rw[this];exact xX e r h hn.2
theorem CR{r m since:Nat}{seen:Array Nat}{es:Array MapEntry}{clock:Nat}{e:MapEntry}(hr:w.heap[r]?=some (.mapIter (some m) since (seen.push e.born) clock))(hm:w.heap[m]?=some (.map es clock))(he:e∈es.toList)(hn:(es.toList.map (·.born)).Nodup):
  (Instr.entry (.pointer (some ⟨r,0,none⟩))).run Q w= .ok (.tuple #[e.key,e.val]) w:=by
 have hf:es.find? (λx=>x.born==e.born)=some e:=by rw[<-Array.find?_toList];exact xX e _ he hn
 have hc:(clock !=clock)=false:=by simp
 simp only[Instr.entry,getObj,Sem.run_bind,Sem.run,hr,hm,Result.andThen,Array.back?_push,hc,zaz,zbk,hf];rfl
theorem MD(h:aG Q T F G w a s){p q:P}{v:Value}(hv:aH F w G s.rg v p)(hq:py s p=some q): ∃r,(Instr.entry v).run Q w= .ok r w/\aH F w G s.rg r q:=by
 unfold py at hq;split at hq
 next n aZ=>
  split at hq
  next kt vt left k x ho=>
   simp only[zam] at hq;subst hq;obtain⟨e,he,dY,ca⟩:=S.bM ho;have hO:=h.rg n e he;rw[ca] at hO;obtain⟨b,mo,since,seen,last,hg,hh,hO⟩:=hO;cases hv with
   |ref _ _ _ _ hr h1=>
    obtain⟨b',HJ,rfl⟩:=hr.at he dY (by rw[ca];rfl);rw[hg] at HJ;simp at HJ;subst HJ;rcases hO with⟨_,_,hc⟩| ⟨m,es,rfl,hF,hm,Qf,⟨ks,g1,g3,g4,g5,g6,g7⟩,hc⟩
    ·cases hc
    subst Qf;obtain⟨en,nq,ku,hk,hx⟩:=hc k x rfl;obtain⟨sn,rfl⟩:=Array.back?_eq_some_iff.1 ku;refine⟨_,CR hh hm nq g6,.cT [en.key,en.val] _ rfl λi v c hv hc=> ?_⟩
    match i with
    |0=>simp at hv hc;subst hv;subst hc;exact .d (bc.Qe F w hk)
    |1=>simp at hv hc;subst hv;subst hc;exact .d hx
    |i+2=>simp at hv
  cases hq
 cases hq
end
end Pi
