/- The text PiMap. -/
import Derived.Test.YtfelfooeclnbiaaGreatDoorPiEq
import Derived.MapKept
namespace Pi
open Go
mutual
theorem D.jY: ∀(x y:D),D.tY x y=true↔x=y
 | .bool a,y=>by cases y<;>simp[D.tY]
 | .int k a,y=>by cases y<;>simp[D.tY]
 | .str a,y=>by cases y<;>simp[D.tY]
 | .agg a,y=>by cases y<;>simp[D.tY,D.xc a]
 | .sl k a,y=>by cases y<;>simp[D.tY,D.xc a]
 | .dS,y=>by cases y<;>simp[D.tY]
 | .ni,y=>by cases y<;>simp[D.tY]
 | .se,y=>by cases y<;>simp[D.tY]
 | .BX,y=>by cases y<;>simp[D.tY]
 | .oY,y=>by cases y<;>simp[D.tY]
theorem D.xc: ∀(x y:List D),D.HM x y=true↔x=y
 | [],y=>by cases y<;>simp[D.HM]
 |x::xs,y=>by
  cases y with
  |nil=>simp[D.HM]
  |cons y ys=>simp[D.HM,D.jY x,D.xc xs]
end
theorem AF(k v:D)(get:D->Option D):gu k v get k=some v:=by unfold gu;rw[(D.jY k k).2 rfl];rfl
theorem Ke{k k':D}(v:D)(get:D->Option D)(h:k≠k'):gu k v get k'=get k':=by
 unfold gu;cases hb:D.tY k k' with
 |false=>rfl
 |true=>exact absurd ((D.jY k k').1 hb) h
theorem H4{Q:Program}{t:TypeId}{k:Nat}(h:sz Q t=some k):Q.cellsOf t=k:=by obtain⟨i,d,hi,_,rfl⟩:=gn h;unfold Program.cellsOf;rw[hi];rfl
theorem Po{Q:Program}{t:TypeId}{xs ys:List D}{off:Nat}{x y:D}(Og:(dx Q t ||Nat.beq (Q.cellsOf t) 1)=true)(h1:jf Q t xs off=some x)(h2:jf Q t ys off=some y):
  x=y↔(xs.drop off).take (Q.cellsOf t)=(ys.drop off).take (Q.cellsOf t):=by
 unfold jf at h1 h2;cases hk:sz Q t with
 |none=>rw[hk] at h1;cases h1
 |some k=>
  rw[hk] at h1 h2;have e:=H4 hk;rw[e] at Og⊢;simp only at h1 h2;cases ha:dx Q t with
  |true=>
   rw[ha] at h1 h2;simp only[zbg] at h1 h2;split at h1
   ·split at h2
    ·cases h1;cases h2;simp
    cases h2
   cases h1
  |false=>
   rw[ha] at h1 h2 Og;simp only[zaC,zbq] at h1 h2;have gJ:k=1:=by simpa using Og
   subst gJ;have l1:=(zae.1 h1).1;have l2:=(zae.1 h2).1;have e1:(xs.drop off).take 1=[x]:=by rw[za9 l1];simp[(zae.1 h1).2]
   have e2:(ys.drop off).take 1=[y]:=by rw[za9 l2];simp[(zae.1 h2).2]
   rw[e1,e2];simp
theorem xd{Q:Program}{go:TypeId->D->D->Option Bool}{xs ys:List D}{q9:Nat}(hx:xs.length=q9)(hy:ys.length=q9)
  {sh:TypeId->D->Bool} (uf: ∀t x y,sh t x=true->sh t y=true-> ∃c,go t x y=some c/\(c=true↔x=y)): ∀(fs:List Field) (off:Nat),oZ Q off fs q9=true->off<=q9->
  (∀f∈fs,(!(f.name== "_")&&(dx Q f.type ||Nat.beq (Q.cellsOf f.type) 1)&&(match jf Q f.type xs f.offset with |some y=>sh f.type y |none=>false))=true)->
  (∀f∈fs,(!(f.name== "_")&&(dx Q f.type ||Nat.beq (Q.cellsOf f.type) 1)&&(match jf Q f.type ys f.offset with |some y=>sh f.type y |none=>false))=true)->
  ∃c,Eg Q go fs xs ys=some c/\(c=true↔xs.drop off=ys.drop off)
 | [],off,ht,hle,_,_=>by have:off=q9:=zah ht;refine⟨true,rfl,?_⟩;rw[zcg (by omega),zcg (by omega)];simp
 |f::r,off,ht,hle,h1,h2=>by
  simp only[oZ,zad] at ht;have ho:f.offset=off:=zah ht.1;have V4:off+Q.cellsOf f.type<=q9:=by
   have: ∀(fs:List Field) (o:Nat),oZ Q o fs q9=true->o<=q9:=by
    intro fs
    induction fs with
    |nil=>intro o h;exact Nat.le_of_eq (zah h)
    |cons g gs ih=>intro o h;simp only[oZ,zad] at h;have:=ih _ h.2;omega
   exact this r _ ht.2
  obtain⟨c,hc,ln⟩:=xd hx hy uf r _ ht.2 V4 (λg hg=>h1 g (by simp[hg])) (λg hg=>h2 g (by simp[hg]));have a1:=h1 f (by simp);have a2:=h2 f (by simp);simp only[zad] at a1 a2;obtain⟨⟨hn,Og⟩,b1⟩:=a1;obtain⟨_,b2⟩:=a2;have hn:(f.name== "_")=false:=by simpa using hn
  unfold Eg;rw[hn];simp only;cases p1:jf Q f.type xs f.offset with
  |none=>rw[p1] at b1;cases b1
  |some x=>
   cases p2:jf Q f.type ys f.offset with
   |none=>rw[p2] at b2;cases b2
   |some y=>
    rw[p1] at b1;rw[p2] at b2;obtain⟨a,ha,haa⟩:=uf f.type x y b1 b2;simp only[ha,hc];refine⟨a&&c,rfl,?_⟩;rw[zad,haa,ln,Po Og p1 p2,ho];have Pp: ∀l:List D,l.drop off=(l.drop off).take (Q.cellsOf f.type)++l.drop (off+Q.cellsOf f.type):=λl=>by rw[<-zdg,zbv]
    constructor
    ·rintro⟨e1,e2⟩;rw[Pp xs,Pp ys,e1,e2]
    intro e;refine⟨by rw[e],?_⟩;rw[<-zdg,<-zdg,e]
theorem p0{Q:Program}: ∀(n:Nat) (t:TypeId) (x y:D),iA Q n t x=true->iA Q n t y=true-> ∃c,VW Q n t x y=some c/\(c=true↔x=y)
 |0,_,_,_,h,_=>by simp[iA] at h
 |n+1,t,x,y,h1,h2=>by
  unfold iA at h1 h2;unfold VW;cases hd:Q.underlying t with
  |none=>rw[hd] at h1;simp at h1
  |some d=>
   rw[hd] at h1 h2;cases d with
   |bool=>
    cases x<;>try (simp at h1;done)
    cases y<;>try (simp at h2;done)
    exact⟨_,rfl,by simp⟩
   |int k=>
    cases x<;>try (simp at h1;done)
    cases y<;>try (simp at h2;done)
    rename_i k1 a k2 b;have e1:k=k1:=by simpa using h1
    have e2:k=k2:=by simpa using h2
    subst e1 e2;exact⟨a==b,by simp,by simp⟩
   |string=>
    cases x<;>try (simp at h1;done)
    cases y<;>try (simp at h2;done)
    exact⟨_,rfl,by simp⟩
   |struct fs=>
    cases x<;>try (simp at h1;done)
    cases y<;>try (simp at h2;done)
    rename_i xs ys;simp only[zad] at h1 h2;obtain⟨⟨⟨l1,t1⟩,s1⟩,f1⟩:=h1;obtain⟨⟨⟨l2,_⟩,_⟩,f2⟩:=h2;have s1:Q.stoodInHeld t=false:=by simpa using s1
    obtain⟨c,hc,ln⟩:=xd (Q:=Q) (go:=VW Q n) (xs:=xs) (ys:=ys) (zah l1) (zah l2) (sh:=iA Q n) (λt x y a b=>p0 n t x y a b) fs.toList 0 t1 (za7 _)
     (λf hf=>zaZ.1 f1 f hf) (λf hf=>zaZ.1 f2 f hf)
    refine⟨c,by simp only[s1];exact hc,?_⟩;rw[ln];simp
   |_=>simp at h1
theorem cq{Q:Program}{kt:TypeId}{k:D}(h:fS Q kt k=true):iA Q 20 kt k=true/\(∀c∈k.cells,c.LZ=true)/\ ∃v,k.cp=some v/\ ∀em,∃u,ay Q (Instr.checkKey em 10000 kt v)=some u:=by
 simp only[fS,zad] at h;refine⟨h.1.1,zaZ.1 h.1.2,?_⟩;have h2:=h.2;split at h2
 next v hv=>
  split at h2
  next a b ha hb=>exact⟨v,hv,λem=>by cases em;exact⟨_,ha⟩;exact⟨_,hb⟩⟩
  cases h2
 cases h2
theorem vb{Q:Program}{kt:TypeId}{k:D}{v:Value}(hs:iA Q 20 kt k=true)(hv:k.cp=some v): ∀(ks:List (D×D)) (es:List MapEntry) (i0:Nat),ks.length=es.length->
  (∀(i:Nat) (p:D×D) (e:MapEntry),ks[i]?=some p->es[i]?=some e->iA Q 20 kt p.1=true/\p.1.cp=some e.key)->
  ∃r,ay Q (Instr.findAsking kt v es i0)=some r/\((r=none/\ ∀p∈ks,p.1≠k)\/ ∃i p e,r=some (i0+i,e.val)/\ks[i]?=some p/\es[i]?=some e/\p.1=k)
 | [],[],i0,_,_=>⟨none,rfl,.inl ⟨rfl,by simp⟩⟩
 | [],e::es,i0,h,_=>by simp at h
 |p::ks,[],i0,h,_=>by simp at h
 |p::ks,e::es,i0,hl,h=>by
  obtain⟨h1,h2⟩:=h 0 p e rfl rfl;obtain⟨c,hc,ln⟩:=p0 20 kt k p.1 hs h1;have he:=fH 20 10000 kt k p.1 c v e.key (by omega) hc hv h2;unfold Instr.findAsking;have eq:Op.equal kt v e.key=Op.equalIn 10000 kt v e.key:=rfl;rw[aw,eq,he,zaw];cases c with
  |true=>exact⟨_,rfl,.inr ⟨0,p,e,rfl,rfl,rfl,(ln.1 rfl).symm⟩⟩
  |false=>
   obtain⟨r,hr,vd⟩:=vb hs hv ks es (i0+1) (by simpa using hl) λi p e hp he=>h (i+1) p e (by simpa using hp) (by simpa using he);refine⟨r,hr,?_⟩;have cU:p.1≠k:=λe=>by have:=ln.2 e.symm;cases this
   rcases vd with⟨rfl,gy⟩| ⟨i,p',e',rfl,a,b,c⟩
   ·exact .inl ⟨rfl,λq hq=>by
     rcases zas.1 hq with rfl |hq
     ·exact cU
     exact gy q hq⟩
   exact .inr ⟨i+1,p',e',by rw[show i0+(i+1)=i0+1+i by omega],by simpa using a,by simpa using b,c⟩
theorem Ew{Q:Program}{kt:TypeId}{d:TypeDesc}(hd:Q.underlying kt=some d){v u:Value}{c:Bool}(h:Instr.sameNow d v u=some c):ay Q (Op.equal kt v u)=some c:=by
 have eq:Op.equal kt v u=Op.equalIn (9999+1) kt v u:=rfl;unfold Instr.sameNow at h;split at h
 ·split at h
  next hk=>subst hk;rw[eq,Op.equalIn,aw,aH hd];simp only[zaw,zbg];exact h
  cases h
 ·rw[eq,Op.equalIn,aw,aH hd];exact h
 ·rw[eq,Op.equalIn,aw,aH hd];exact h
 cases h
theorem xe{Q:Program}{kt:TypeId}{d:TypeDesc}(hd:Q.underlying kt=some d){v:Value}: ∀(es:List MapEntry) (i:Nat) (r:Option (Nat×Value)),Instr.findNow d v es i=some r->ay Q (Instr.findAsking kt v es i)=some r
 | [],i,r,h=>by simp[Instr.findNow] at h;subst h;rfl
 |e::es,i,r,h=>by
  unfold Instr.findNow at h;unfold Instr.findAsking;split at h
  next hs=>simp only[zak] at h;subst h;rw[aw,Ew hd hs];rfl
  next hs=>rw[aw,Ew hd hs];exact xe hd es (i+1) r h
  cases h
theorem xf{Q:Program}{kt:TypeId}{k:D}{v:Value}(hs:iA Q 20 kt k=true)(hv:k.cp=some v){ks:List (D×D)}{es:List MapEntry}(hl:ks.length=es.length)
  (h: ∀(i:Nat) (p:D×D) (e:MapEntry),ks[i]?=some p->es[i]?=some e->iA Q 20 kt p.1=true/\p.1.cp=some e.key) (w:World):
  ∃r,(Instr.findKey kt v es).run Q w= .ok r w/\((r=none/\ ∀p∈ks,p.1≠k)\/ ∃i p e,r=some (i,e.val)/\ks[i]?=some p/\es[i]?=some e/\p.1=k):=by
 obtain⟨r,hr,vd⟩:=vb hs hv ks es 0 hl h;refine⟨r,?_,?_⟩
 ·have hd: ∃d,Q.underlying kt=some d:=by
   unfold iA at hs;cases hd:Q.underlying kt with
   |none=>rw[hd] at hs;simp at hs
   |some d=>exact⟨d,rfl⟩
  obtain⟨d,hd⟩:=hd;refine dn ?_ w;unfold Instr.findKey;rw[aw,aH hd,zaw];cases hn:Instr.findNow d v es 0 with
  |none=>exact hr
  |some r'=>have:=xe hd es 0 r' hn;rw[hr] at this;cases this;rfl
 simpa using vd
theorem AG: ∀(x:D) (v:Value),(∀c∈x.cells,c.LZ=true)->x.cp=some v->Instr.sameBits 10000 v v=true:=by
 have cell: ∀(n:Nat) (x:D) (v:Value),x.LZ=true->x.fE=some v->Instr.sameBits (n+1) v v=true:=by
  intro n x v hl h;cases x<;>simp[D.fE] at h<;>simp[D.LZ] at hl<;>subst h
  ·simp[Instr.sameBits]
  ·simp[Instr.sameBits]
  rename_i s;show((⟨⟨s⟩⟩:ByteArray)==⟨⟨s⟩⟩)=true;show((⟨s⟩:Array UInt8)==⟨s⟩)=true;simp
 intro x v L6 h;cases x with
 |agg cs=>
  simp only[D.cp] at h;split at h
  next vs L5=>
   simp only[zak] at h;subst h;simp only[Instr.sameBits,zc7,zbf];rw[zaZ];intro p hp;have: ∀(l:List Value) (p:Value×Value),p∈l.zip l->p.1=p.2/\p.1∈l:=by
    intro l
    induction l with
    |nil=>intro p hp;cases hp
    |cons y l ih=>
     intro p hp;rcases zas.1 hp with rfl |hp
     ·exact⟨rfl,by simp⟩
     have:=ih p hp;exact⟨this.1,by simp[this.2]⟩
   obtain⟨e1,e2⟩:=this vs p hp;obtain⟨a,b⟩:=p;simp only at e1 e2⊢;subst e1;obtain⟨i,hi,rfl⟩:=zaN e2;have hl:=Eu L5;obtain⟨u,h1,h2⟩:=xb (i:=i) (x:=cs[i]'(by omega)) L5 (by simp);rw[zac hi] at h1;cases h1;exact cell 9998 _ _ (L6 _ (by simp[D.cells])) h2
  cases h
 |bool b=>exact cell 9999 (.bool b) _ rfl h
 |int k n=>exact cell 9999 (.int k n) _ rfl h
 |str s=>exact cell 9999 (.str s) _ rfl h
 |_=>simp[D.cells,D.LZ] at L6
section
variable{Q:Program}{T:Tg}{F:Nat->Prop}{G:Nat->Value}{w:World}{a:Act}{s:S}
theorem ph{t:TypeId}{z:D}(hz:dX Q t=some z)(w:World): ∃zv,(zeroValue t).run Q w= .ok zv w/\aU F w zv z:=by
 unfold dX at hz;split at hz
 next i hi=>
  split at hz
  next zv Kf=>exact⟨zv,by simp[zeroValue,typeInfo,hi,Kf],aU.tX F w hz⟩
  cases hz
 cases hz
theorem iF{t kt e:TypeId}(h:jQ Q t=some (kt,e)):Q.underlying t=some (.map kt e):=by
 unfold jQ at h;split at h
 ·simp only[zak,zaL] at h;obtain⟨rfl,rfl⟩:=h;assumption
 cases h
theorem oI.look{kt:TypeId}{get:D->Option D}{n:Int}{es:List MapEntry}{clock:Nat}(h:oI Q F w kt get n es clock){k:D}{v:Value}(hk:fS Q kt k=true)(hv:k.cp=some v):
  ∃r,(Instr.findKey kt v es).run Q w= .ok r w/\((r=none/\get k=none)\/ ∃i e y,r=some (i,e.val)/\es[i]?=some e/\e.key=v/\get k=some y/\aU F w e.val y):=by
 obtain⟨ks,h1,h2,h3,h4,h5,h6,h7⟩:=h;obtain⟨r,hr,vd⟩:=xf (cq hk).1 hv h1 (λi p e hp he=>⟨(cq (h3 i p e hp he).1).1,(h3 i p e hp he).2.1⟩) w;refine⟨r,hr,?_⟩;rcases vd with⟨rfl,gy⟩| ⟨i,p,e,rfl,hp,he,hpk⟩
 ·refine .inl ⟨rfl,?_⟩;cases hg:get k with
  |none=>rfl
  |some y=>exact absurd rfl (gy _ ((h5 k y).1 hg))
 obtain⟨_,a2,a3⟩:=h3 i p e hp he;refine .inr ⟨i,e,p.2,rfl,he,?_,(h5 k p.2).2 ?_,a3⟩
 ·rw[hpk,hv] at a2;exact(zb9 a2).symm
 rw[<-hpk];exact zaz hp
theorem Ex(h:aB Q T F G w a s){n aR:Nat}{v:Value}{kt:Nat}{get:D->Option D}{c:Int}{last:Bool}(hv:aF F w G s.rg v (.mp n aR))(ho:s.obj n aR=some (.map kt get c last)):
  ∃e,lk s.rg n=some e/\e.aR=aR/\e.obj= .map kt get c last/\v=G n/\ ∃b es clock,G n= .map (some b)/\w.heap[b]?=some (.map es clock)/\oI Q F w kt get c es.toList clock:=by
 obtain⟨e,he,dw,bH⟩:=S.bw ho;cases hv with
 |mp _ _ _ _ hr=>obtain⟨e',cx,hle,hc⟩:=hr;rw[he] at cx;cases cx;have hv:=hc dw.symm (by rw[bH];rfl);have:=h.rg n e he;rw[bH] at this;obtain⟨b,es,clock,h1,h2,h3,_⟩:=this;exact⟨e,he,dw,bH,hv,b,es,clock,h1,h2,h3⟩
theorem Pq(h:aB Q T F G w a s){n aR:Nat}{v:Value}{kt:Nat}{get:D->Option D}{c:Int}{p:P}{kd:D}(hv:aF F w G s.rg v (.mp n aR))(ho:s.obj n aR=some (.jV kt get c p kd)):
  ∃e,lk s.rg n=some e/\e.aR=aR/\e.obj= .jV kt get c p kd/\v=G n/\ ∃b es clock,G n= .map (some b)/\w.heap[b]?=some (.map es clock)/\oI Q F w kt get c es.toList clock/\ ∃(i:Nat) (en:MapEntry),es[i]?=some en/\aF F w G s.rg (.int .i64 (en.born:Int)) p/\kd.cp=some en.key/\(get kd).isSome=true:=by
 obtain⟨e,he,dw,bH⟩:=S.bw ho;cases hv with
 |mp _ _ _ _ hr=>obtain⟨e',cx,hle,hc⟩:=hr;rw[he] at cx;cases cx;have hv:=hc dw.symm (by rw[bH];rfl);have:=h.rg n e he;rw[bH] at this;obtain⟨b,es,clock,h1,h2,h3,h4⟩:=this;exact⟨e,he,dw,bH,hv,b,es,clock,h1,h2,h3,h4⟩
theorem H5(h:aB Q T F G w a s){t kt e:TypeId}{p i q:P}{ok:Bool}{z:D}(ht:jQ Q t=some (kt,e))(hz:dX Q e=some z){v u:Value}(hv:aF F w G s.rg v p)(hu:aF F w G s.rg u i)
  (hq:eo Q s t p i ok z=some q): ∃r,(Instr.lookup t v u ok).run Q w= .ok r w/\aF F w G s.rg r q:=by
 have oh:=iF ht;obtain⟨zv,AH,Hi⟩:=ph (F:=F) hz w;have two: ∀(v1:Value) (x:D) (b:Bool),aU F w v1 x->aF F w G s.rg (.tuple #[v1,.bool b]) (.bI [.d x,.d (.bool b)]):=λv1 x b hx=>
  .bI [v1,.bool b] _ rfl (λi v c hv hc=>by
   match i with
   |0=>simp at hv hc;subst hv;subst hc;exact .d hx
   |1=>simp at hv hc;subst hv;subst hc;exact .d (.bool b)
   |i+2=>simp at hv)
 unfold eo at hq;rw[ht] at hq;split at hq
 next zB e' n aR k Kg=>
  simp only[zak,zaL] at Kg;obtain⟨rfl,rfl⟩:=Kg;split at hq
  next kt2 get c last ho=>
   split at hq
   ·rename_i hc;simp only[zad] at hc;have DN:=zah hc.1;subst DN;obtain⟨_,_,⟨kv,xg,B9⟩⟩:=cq hc.2;have hu':u=kv:=hu.cp (p:= .d k) xg;subst hu';obtain⟨e0,_,_,_,AI,b,es,clock,hG,hb,hM⟩:=Ex h hv ho;rw[hG] at AI;subst AI;obtain⟨ck,oT⟩:=B9 es.isEmpty;have oT:=dn oT w;obtain⟨r,hr,vd⟩:=hM.look hc.2 xg;rcases vd with⟨rfl,hg⟩| ⟨j,en,y,rfl,_,_,hg,hy⟩
    ·rw[hg] at hq;cases ok with
     |true=>simp at hq;subst hq;exact⟨.tuple #[zv,.bool false],by simp[Instr.lookup,run_underlying oh,MapKept.run_getObj_map hb,oT,hr,AH],two _ _ _ Hi⟩
     |false=>simp at hq;subst hq;exact⟨zv,by simp[Instr.lookup,run_underlying oh,MapKept.run_getObj_map hb,oT,hr,AH],.d Hi⟩
    rw[hg] at hq;cases ok with
    |true=>simp at hq;subst hq;exact⟨.tuple #[en.val,.bool true],by simp[Instr.lookup,run_underlying oh,MapKept.run_getObj_map hb,oT,hr],two _ _ _ hy⟩
    |false=>simp at hq;subst hq;exact⟨en.val,by simp[Instr.lookup,run_underlying oh,MapKept.run_getObj_map hb,oT,hr],.d hy⟩
   cases hq
  next kt2 get c pE kdE ho=>
   split at hq
   ·rename_i hc;simp only[zad,zbA] at hc;obtain⟨⟨nx,DN⟩,Vn⟩:=hc;have DN:=zah DN;subst DN;subst nx;obtain⟨_,_,⟨kv,xg,B9⟩⟩:=cq Vn;have hu':u=kv:=hu.cp (p:= .d k) xg;subst hu';obtain⟨e0,_,_,_,AI,b,es,clock,hG,hb,hM,_⟩:=Pq h hv ho;rw[hG] at AI;subst AI;obtain⟨ck,oT⟩:=B9 es.isEmpty;have oT:=dn oT w;obtain⟨r,hr,vd⟩:=hM.look Vn xg;rcases vd with⟨rfl,hg⟩| ⟨j,en,y,rfl,_,_,hg,hy⟩
    ·rw[hg] at hq;simp at hq;subst hq;exact⟨zv,by simp[Instr.lookup,run_underlying oh,MapKept.run_getObj_map hb,oT,hr,AH],.d Hi⟩
    rw[hg] at hq;simp at hq;subst hq;exact⟨en.val,by simp[Instr.lookup,run_underlying oh,MapKept.run_getObj_map hb,oT,hr],.d hy⟩
   cases hq
  cases hq
 next zB e' k Kg=>
  simp only[zak,zaL] at Kg;obtain⟨rfl,rfl⟩:=Kg;split at hq
  next hc=>
   obtain⟨Og,_,⟨kv,xg,B9⟩⟩:=cq hc;have hu':u=kv:=hu.cp (p:= .d k) xg;subst hu';have Em:v= .map none:=hv.cp (p:= .d .se) rfl;subst Em;obtain⟨ck,oT⟩:=B9 true;have oT:=dn oT w;obtain⟨r,hr,vd⟩:=xf (ks:=[]) (es:=[]) Og xg rfl (λi p e hp=>by simp at hp) w;have ve:r=none:=by
    rcases vd with⟨rfl,_⟩| ⟨i,p,e,_,hp,_⟩
    ·rfl
    simp at hp
   subst ve;cases ok with
   |true=>simp at hq;subst hq;exact⟨.tuple #[zv,.bool false],by simp[Instr.lookup,run_underlying oh,oT,hr,AH],two _ _ _ Hi⟩
   |false=>simp at hq;subst hq;exact⟨zv,by simp[Instr.lookup,run_underlying oh,oT,hr,AH],.d Hi⟩
  cases hq
 cases hq
theorem aU.Kh(F:Nat->Prop)(w:World){x:D}{v:Value}(h:x.fE=some v):aU F w v x:=by cases x<;>simp[D.fE] at h<;>subst h<;>constructor
theorem Ki: ∀(cs:List D) (vs:List Value),D.cW cs=some vs->vs.length=cs.length/\ ∀(i:Nat) (v:Value) (c:D),vs[i]?=some v->cs[i]?=some c->c.fE=some v
 | [],vs,h=>by simp[D.cW] at h;subst h;exact⟨rfl,λi v c hv=>by simp at hv⟩
 |x::r,vs,h=>by
  simp only[D.cW] at h;split at h
  next v1 vs1 h1 h2=>
   simp at h;subst h;obtain⟨k1,k2⟩:=Ki r vs1 h2;refine⟨by simp[k1],λi v c hv hc=> ?_⟩;cases i with
   |zero=>simp at hv hc;subst hv;subst hc;exact h1
   |succ i=>exact k2 i v c (by simpa using hv) (by simpa using hc)
  cases h
theorem aU.Pr(F:Nat->Prop)(w:World){x:D}{v:Value}(h:x.cp=some v):aU F w v x:=by
 cases x with
 |agg cs=>
  simp only[D.cp] at h;split at h
  next vs L5=>
   simp at h;subst h;obtain⟨k1,k2⟩:=Ki cs vs L5;refine .agg vs cs k1 (λc hc=> ?_) λi v c hv hc=>aU.Kh F w (k2 i v c hv hc);obtain⟨i,hi⟩:=zaP hc;have bz:i<vs.length:=by have:=(zae.1 hi).1;omega
   have:=k2 i _ c (zac bz) hi;cases c<;>first |rfl |simp[D.fE] at this
  cases h
 |_=>exact aU.Kh F w h
theorem xh(e:MapEntry): ∀l:List MapEntry,e∈l->(l.map (·.born)).Nodup->l.find? (λx=>x.born==e.born)=some e
 | [],h,_=>by cases h
 |x::r,h,hn=>by
  rw[zaO,za8] at hn;rw[List.find?_cons];rcases zas.1 h with rfl |h
  ·simp
  have cU:x.born≠e.born:=λhx=>hn.1 (zaX.2 ⟨e,h,hx.symm⟩);have:(x.born==e.born)=false:=by simpa using cU
  rw[this];exact xh e r h hn.2
theorem Ca{r m since:Nat}{seen:Array Nat}{es:Array MapEntry}{clock:Nat}{e:MapEntry}(hr:w.heap[r]?=some (.mapIter (some m) since (seen.push e.born) clock))(hm:w.heap[m]?=some (.map es clock))(he:e∈es.toList)(hn:(es.toList.map (·.born)).Nodup):
  (Instr.entry (.pointer (some ⟨r,0,none⟩))).run Q w= .ok (.tuple #[e.key,e.val]) w:=by
 have hf:es.find? (λx=>x.born==e.born)=some e:=by rw[<-Array.find?_toList];exact xh e _ he hn
 have hc:(clock !=clock)=false:=by simp
 simp only[Instr.entry,getObj,Sem.run_bind,Sem.run,hr,hm,Result.andThen,Array.back?_push,hc,zaC,zbq,hf];rfl
theorem L7(h:aB Q T F G w a s){p q:P}{v:Value}(hv:aF F w G s.rg v p)(hq:o5 s p=some q): ∃r,(Instr.entry v).run Q w= .ok r w/\aF F w G s.rg r q:=by
 unfold o5 at hq;split at hq
 next n aR=>
  split at hq
  next kt vt left k x ho=>
   simp only[zak] at hq;subst hq;obtain⟨e,he,dw,bH⟩:=S.bw ho;have hO:=h.rg n e he;rw[bH] at hO;obtain⟨b,mo,since,seen,last,hg,hh,hO⟩:=hO;cases hv with
   |ref _ _ _ _ hr h1=>
    obtain⟨b',AJ,rfl⟩:=hr.at he dw (by rw[bH];rfl);rw[hg] at AJ;simp at AJ;subst AJ;rcases hO with⟨_,_,hc⟩| ⟨m,es,rfl,hF,hm,oi,⟨ks,g1,g3,g4,g5,g6,g7⟩,hc⟩
    ·cases hc
    subst oi;obtain⟨en,mC,jT,hk,hx⟩:=hc k x rfl;obtain⟨sn,rfl⟩:=Array.back?_eq_some_iff.1 jT;refine⟨_,Ca hh hm mC g6,.bI [en.key,en.val] _ rfl λi v c hv hc=> ?_⟩
    match i with
    |0=>simp at hv hc;subst hv;subst hc;exact .d (aU.Pr F w hk)
    |1=>simp at hv hc;subst hv;subst hc;exact .d hx
    |i+2=>simp at hv
  cases hq
 cases hq
end
end Pi
