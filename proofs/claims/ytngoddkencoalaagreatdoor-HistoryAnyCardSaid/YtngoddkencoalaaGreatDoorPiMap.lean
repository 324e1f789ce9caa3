/- The text PiMap. -/
import Derived.Test.YtngoddkencoalaaGreatDoorPiEq
import Derived.MapKept
namespace Pi
open Go
mutual
theorem D.gA: ∀(x y:D),D.nD x y=true↔x=y
 | .bool a,y=>by cases y<;>simp[D.nD]
 | .int k a,y=>by cases y<;>simp[D.nD]
 | .str a,y=>by cases y<;>simp[D.nD]
 | .agg a,y=>by cases y<;>simp[D.nD,D.vZ a]
 | .sl k a,y=>by cases y<;>simp[D.nD,D.vZ a]
 | .gu,y=>by cases y<;>simp[D.nD]
 | .qP,y=>by cases y<;>simp[D.nD]
 | .rR,y=>by cases y<;>simp[D.nD]
 | .AW,y=>by cases y<;>simp[D.nD]
 | .AX,y=>by cases y<;>simp[D.nD]
theorem D.vZ: ∀(x y:List D),D.FT x y=true↔x=y
 | [],y=>by cases y<;>simp[D.FT]
 |x::xs,y=>by
  cases y with
  |nil=>simp[D.FT]
  |cons y ys=>simp[D.FT,D.gA x,D.vZ xs]
end
theorem zG (k v:D) (get:D->Option D):cO k v get k=some v:=by
 unfold cO;rw[(D.gA k k).2 rfl];rfl
theorem Ij {k k':D} (v:D) (get:D->Option D) (h:k≠k'):cO k v get k'=get k':=by
 unfold cO
 cases hb:D.nD k k' with
 |false=>rfl
 |true=>exact absurd ((D.gA k k').1 hb) h
theorem Gd {Q:Program} {t:TypeId} {k:Nat} (h:sz Q t=some k):Q.cellsOf t=k:=by
 obtain⟨i,d,hi,_,rfl⟩:=fU h
 unfold Program.cellsOf
 rw[hi]
 rfl
theorem Nh {Q:Program} {t:TypeId} {xs ys:List D} {off:Nat} {x y:D} (S9:(dp Q t ||Nat.beq (Q.cellsOf t) 1)=true) (h1:iN Q t xs off=some x) (h2:iN Q t ys off=some y):
  x=y↔(xs.drop off).take (Q.cellsOf t)=(ys.drop off).take (Q.cellsOf t):=by
 unfold iN at h1 h2
 cases hk:sz Q t with
 |none=>rw[hk] at h1;cases h1
 |some k=>
  rw[hk] at h1 h2
  have e:=Gd hk
  rw[e] at S9⊢
  simp only at h1 h2
  cases ha:dp Q t with
  |true=>
   rw[ha] at h1 h2
   simp only[if_true] at h1 h2
   split at h1
   ·split at h2
    ·cases h1;cases h2;simp
    ·cases h2
   ·cases h1
  |false=>
   rw[ha] at h1 h2 S9
   simp only[Bool.false_eq_true,if_false] at h1 h2
   have gh:k=1:=by simpa using S9
   subst gh
   have l1:=(List.getElem?_eq_some_iff.1 h1).1
   have l2:=(List.getElem?_eq_some_iff.1 h2).1
   have e1:(xs.drop off).take 1=[x]:=by
    rw[List.drop_eq_getElem_cons l1]
    simp[(List.getElem?_eq_some_iff.1 h1).2]
   have e2:(ys.drop off).take 1=[y]:=by
    rw[List.drop_eq_getElem_cons l2]
    simp[(List.getElem?_eq_some_iff.1 h2).2]
   rw[e1,e2]
   simp
theorem v7 {Q:Program} {go:TypeId->D->D->Option Bool} {xs ys:List D} {sM:Nat} (hx:xs.length=sM) (hy:ys.length=sM)
  {sh:TypeId->D->Bool} (lL: ∀t x y,sh t x=true->sh t y=true-> ∃c,go t x y=some c/\(c=true↔x=y)): ∀(fs:List Field) (off:Nat),oc Q off fs sM=true->off<=sM->
  (∀f∈fs,(!(f.name== "_")&&(dp Q f.type ||Nat.beq (Q.cellsOf f.type) 1)&&(match iN Q f.type xs f.offset with |some y=>sh f.type y |none=>false))=true)->
  (∀f∈fs,(!(f.name== "_")&&(dp Q f.type ||Nat.beq (Q.cellsOf f.type) 1)&&(match iN Q f.type ys f.offset with |some y=>sh f.type y |none=>false))=true)->
  ∃c,Dj Q go fs xs ys=some c/\(c=true↔xs.drop off=ys.drop off)
 | [],off,ht,hle,_,_=>by
  have:off=sM:=Nat.eq_of_beq_eq_true ht
  refine⟨true,rfl,?_⟩
  rw[List.drop_eq_nil_of_le (by omega),List.drop_eq_nil_of_le (by omega)]
  simp
 |f::r,off,ht,hle,h1,h2=>by
  simp only[oc,Bool.and_eq_true] at ht
  have ho:f.offset=off:=Nat.eq_of_beq_eq_true ht.1
  have Ni:off+Q.cellsOf f.type<=sM:=by
   have: ∀(fs:List Field) (o:Nat),oc Q o fs sM=true->o<=sM:=by
    intro fs
    induction fs with
    |nil=>intro o h;exact Nat.le_of_eq (Nat.eq_of_beq_eq_true h)
    |cons g gs ih=>
     intro o h
     simp only[oc,Bool.and_eq_true] at h
     have:=ih _ h.2
     omega
   exact this r _ ht.2
  obtain⟨c,hc,iQ⟩:=v7 hx hy lL r _ ht.2 Ni (fun g hg=>h1 g (by simp[hg])) (fun g hg=>h2 g (by simp[hg]))
  have a1:=h1 f (by simp)
  have a2:=h2 f (by simp)
  simp only[Bool.and_eq_true] at a1 a2
  obtain⟨⟨hn,S9⟩,b1⟩:=a1
  obtain⟨_,b2⟩:=a2
  have hn:(f.name== "_")=false:=by simpa using hn
  unfold Dj
  rw[hn]
  simp only
  cases p1:iN Q f.type xs f.offset with
  |none=>rw[p1] at b1;cases b1
  |some x=>
   cases p2:iN Q f.type ys f.offset with
   |none=>rw[p2] at b2;cases b2
   |some y=>
    rw[p1] at b1
    rw[p2] at b2
    obtain⟨a,ha,haa⟩:=lL f.type x y b1 b2
    simp only[ha,hc]
    refine⟨a&&c,rfl,?_⟩
    rw[Bool.and_eq_true,haa,iQ,Nh S9 p1 p2,ho]
    have Nj: ∀l:List D,l.drop off=(l.drop off).take (Q.cellsOf f.type)++l.drop (off+Q.cellsOf f.type):=fun l=>by
     rw[<-List.drop_drop,List.take_append_drop]
    constructor
    ·rintro⟨e1,e2⟩
     rw[Nj xs,Nj ys,e1,e2]
    ·intro e
     refine⟨by rw[e],?_⟩
     rw[<-List.drop_drop,<-List.drop_drop,e]
theorem pA {Q:Program}: ∀(n:Nat) (t:TypeId) (x y:D),ig Q n t x=true->ig Q n t y=true-> ∃c,S1 Q n t x y=some c/\(c=true↔x=y)
 |0,_,_,_,h,_=>by simp[ig] at h
 |n+1,t,x,y,h1,h2=>by
  unfold ig at h1 h2
  unfold S1
  cases hd:Q.underlying t with
  |none=>rw[hd] at h1;simp at h1
  |some d=>
   rw[hd] at h1 h2
   cases d with
   |bool=>
    cases x<;>try (simp at h1;done)
    cases y<;>try (simp at h2;done)
    exact⟨_,rfl,by simp⟩
   |int k=>
    cases x<;>try (simp at h1;done)
    cases y<;>try (simp at h2;done)
    rename_i k1 a k2 b
    have e1:k=k1:=by simpa using h1
    have e2:k=k2:=by simpa using h2
    subst e1 e2
    exact⟨a==b,by simp,by simp⟩
   |string=>
    cases x<;>try (simp at h1;done)
    cases y<;>try (simp at h2;done)
    exact⟨_,rfl,by simp⟩
   |struct fs=>
    cases x<;>try (simp at h1;done)
    cases y<;>try (simp at h2;done)
    rename_i xs ys
    simp only[Bool.and_eq_true] at h1 h2
    obtain⟨⟨⟨l1,t1⟩,s1⟩,f1⟩:=h1
    obtain⟨⟨⟨l2,_⟩,_⟩,f2⟩:=h2
    have s1:Q.stoodInHeld t=false:=by simpa using s1
    obtain⟨c,hc,iQ⟩:=v7 (Q:=Q) (go:=S1 Q n) (xs:=xs) (ys:=ys) (Nat.eq_of_beq_eq_true l1) (Nat.eq_of_beq_eq_true l2) (sh:=ig Q n) (fun t x y a b=>pA n t x y a b) fs.toList 0 t1 (Nat.zero_le _)
     (fun f hf=>List.all_eq_true.1 f1 f hf) (fun f hf=>List.all_eq_true.1 f2 f hf)
    refine⟨c,by simp only[s1];exact hc,?_⟩
    rw[iQ]
    simp
   |_=>simp at h1
theorem cc {Q:Program} {kt:TypeId} {k:D} (h:fB Q kt k=true):ig Q 20 kt k=true/\(∀c∈k.cells,c.J0=true)/\ ∃v,k.cw=some v/\ ∀em,∃u,av Q (Instr.checkKey em 10000 kt v)=some u:=by
 simp only[fB,Bool.and_eq_true] at h
 refine⟨h.1.1,List.all_eq_true.1 h.1.2,?_⟩
 have h2:=h.2
 split at h2
 ·rename_i v hv
  split at h2
  ·rename_i a b ha hb
   exact⟨v,hv,fun em=>by cases em;exact⟨_,ha⟩;exact⟨_,hb⟩⟩
  ·cases h2
 ·cases h2
theorem tN {Q:Program} {kt:TypeId} {k:D} {v:Value} (hs:ig Q 20 kt k=true) (hv:k.cw=some v): ∀(ks:List (D×D)) (es:List MapEntry) (i0:Nat),ks.length=es.length->
  (∀(i:Nat) (p:D×D) (e:MapEntry),ks[i]?=some p->es[i]?=some e->ig Q 20 kt p.1=true/\p.1.cw=some e.key)->
  ∃r,av Q (Instr.findAsking kt v es i0)=some r/\((r=none/\ ∀p∈ks,p.1≠k)\/ ∃i p e,r=some (i0+i,e.val)/\ks[i]?=some p/\es[i]?=some e/\p.1=k)
 | [],[],i0,_,_=>⟨none,rfl,.inl ⟨rfl,by simp⟩⟩
 | [],e::es,i0,h,_=>by simp at h
 |p::ks,[],i0,h,_=>by simp at h
 |p::ks,e::es,i0,hl,h=>by
  obtain⟨h1,h2⟩:=h 0 p e rfl rfl
  obtain⟨c,hc,iQ⟩:=pA 20 kt k p.1 hs h1
  have he:=fk 20 10000 kt k p.1 c v e.key (by omega) hc hv h2
  unfold Instr.findAsking
  have eq:Op.equal kt v e.key=Op.equalIn 10000 kt v e.key:=rfl
  rw[au,eq,he,Option.bind_some]
  cases c with
  |true=>exact⟨_,rfl,.inr ⟨0,p,e,rfl,rfl,rfl,(iQ.1 rfl).symm⟩⟩
  |false=>
   obtain⟨r,hr,Fq⟩:=tN hs hv ks es (i0+1) (by simpa using hl) fun i p e hp he=>h (i+1) p e (by simpa using hp) (by simpa using he)
   refine⟨r,hr,?_⟩
   have dz:p.1≠k:=fun e=>by
    have:=iQ.2 e.symm
    cases this
   rcases Fq with⟨rfl,gB⟩| ⟨i,p',e',rfl,a,b,c⟩
   ·exact .inl ⟨rfl,fun q hq=>by
     rcases List.mem_cons.1 hq with rfl |hq
     ·exact dz
     ·exact gB q hq⟩
   ·exact .inr ⟨i+1,p',e',by rw[show i0+(i+1)=i0+1+i by omega],by simpa using a,by simpa using b,c⟩
theorem Dw {Q:Program} {kt:TypeId} {d:TypeDesc} (hd:Q.underlying kt=some d) {v u:Value} {c:Bool} (h:Instr.sameNow d v u=some c):av Q (Op.equal kt v u)=some c:=by
 have eq:Op.equal kt v u=Op.equalIn (9999+1) kt v u:=rfl
 unfold Instr.sameNow at h
 split at h
 ·split at h
  ·rename_i hk
   subst hk
   rw[eq,Op.equalIn,au,aG hd]
   simp only[Option.bind_some,if_true]
   exact h
  ·cases h
 ·rw[eq,Op.equalIn,au,aG hd]
  exact h
 ·rw[eq,Op.equalIn,au,aG hd]
  exact h
 ·cases h
theorem v8 {Q:Program} {kt:TypeId} {d:TypeDesc} (hd:Q.underlying kt=some d) {v:Value}: ∀(es:List MapEntry) (i:Nat) (r:Option (Nat×Value)),Instr.findNow d v es i=some r->av Q (Instr.findAsking kt v es i)=some r
 | [],i,r,h=>by simp[Instr.findNow] at h;subst h;rfl
 |e::es,i,r,h=>by
  unfold Instr.findNow at h
  unfold Instr.findAsking
  split at h
  ·rename_i hs
   simp only[Option.some.injEq] at h
   subst h
   rw[au,Dw hd hs]
   rfl
  ·rename_i hs
   rw[au,Dw hd hs]
   exact v8 hd es (i+1) r h
  ·cases h
theorem wa {Q:Program} {kt:TypeId} {k:D} {v:Value} (hs:ig Q 20 kt k=true) (hv:k.cw=some v) {ks:List (D×D)} {es:List MapEntry} (hl:ks.length=es.length)
  (h: ∀(i:Nat) (p:D×D) (e:MapEntry),ks[i]?=some p->es[i]?=some e->ig Q 20 kt p.1=true/\p.1.cw=some e.key) (w:World):
  ∃r,(Instr.findKey kt v es).run Q w= .ok r w/\((r=none/\ ∀p∈ks,p.1≠k)\/ ∃i p e,r=some (i,e.val)/\ks[i]?=some p/\es[i]?=some e/\p.1=k):=by
 obtain⟨r,hr,Fq⟩:=tN hs hv ks es 0 hl h
 refine⟨r,?_,?_⟩
 ·have hd: ∃d,Q.underlying kt=some d:=by
   unfold ig at hs
   cases hd:Q.underlying kt with
   |none=>rw[hd] at hs;simp at hs
   |some d=>exact⟨d,rfl⟩
  obtain⟨d,hd⟩:=hd
  refine du ?_ w
  unfold Instr.findKey
  rw[au,aG hd,Option.bind_some]
  cases hn:Instr.findNow d v es 0 with
  |none=>exact hr
  |some r'=>
   have:=v8 hd es 0 r' hn
   rw[hr] at this
   cases this
   rfl
 ·simpa using Fq
theorem zH: ∀(x:D) (v:Value),(∀c∈x.cells,c.J0=true)->x.cw=some v->Instr.sameBits 10000 v v=true:=by
 have cell: ∀(n:Nat) (x:D) (v:Value),x.J0=true->x.fW=some v->Instr.sameBits (n+1) v v=true:=by
  intro n x v hl h
  cases x<;>simp[D.fW] at h<;>simp[D.J0] at hl<;>subst h
  ·simp[Instr.sameBits]
  ·simp[Instr.sameBits]
  ·rename_i s
   show((⟨⟨s⟩⟩:ByteArray)==⟨⟨s⟩⟩)=true
   show((⟨s⟩:Array UInt8)==⟨s⟩)=true
   simp
 intro x v Ge h
 cases x with
 |agg cs=>
  simp only[D.cw] at h
  split at h
  ·rename_i vs Ii
   simp only[Option.some.injEq] at h
   subst h
   simp only[Instr.sameBits,beq_self_eq_true,Bool.true_and]
   rw[List.all_eq_true]
   intro p hp
   have: ∀(l:List Value) (p:Value×Value),p∈l.zip l->p.1=p.2/\p.1∈l:=by
    intro l
    induction l with
    |nil=>intro p hp;cases hp
    |cons y l ih=>
     intro p hp
     rcases List.mem_cons.1 hp with rfl |hp
     ·exact⟨rfl,by simp⟩
     ·have:=ih p hp
      exact⟨this.1,by simp[this.2]⟩
   obtain⟨e1,e2⟩:=this vs p hp
   obtain⟨a,b⟩:=p
   simp only at e1 e2⊢
   subst e1
   obtain⟨i,hi,rfl⟩:=List.getElem_of_mem e2
   have hl:=Dv Ii
   obtain⟨u,h1,h2⟩:=vY (i:=i) (x:=cs[i]'(by omega)) Ii (by simp)
   rw[List.getElem?_eq_getElem hi] at h1
   cases h1
   exact cell 9998 _ _ (Ge _ (by simp[D.cells])) h2
  ·cases h
 |bool b=>exact cell 9999 (.bool b) _ rfl h
 |int k n=>exact cell 9999 (.int k n) _ rfl h
 |str s=>exact cell 9999 (.str s) _ rfl h
 |_=>simp[D.cells,D.J0] at Ge
section
variable {Q:Program} {T:Tg} {F:Nat->Prop} {G:Nat->Value} {w:World} {a:Act} {s:S}
theorem oz {t:TypeId} {z:D} (hz:dY Q t=some z) (w:World): ∃zv,(zeroValue t).run Q w= .ok zv w/\aW F w zv z:=by
 unfold dY at hz
 split at hz
 ·rename_i i hi
  split at hz
  ·rename_i zv Fs
   exact⟨zv,by simp[zeroValue,typeInfo,hi,Fs],aW.sQ F w hz⟩
  ·cases hz
 ·cases hz
theorem iq {t kt e:TypeId} (h:jt Q t=some (kt,e)):Q.underlying t=some (.map kt e):=by
 unfold jt at h
 split at h
 ·simp only[Option.some.injEq,Prod.mk.injEq] at h
  obtain⟨rfl,rfl⟩:=h
  assumption
 ·cases h
theorem nQ.look {kt:TypeId} {get:D->Option D} {n:Int} {es:List MapEntry} {clock:Nat} (h:nQ Q F w kt get n es clock) {k:D} {v:Value} (hk:fB Q kt k=true) (hv:k.cw=some v):
  ∃r,(Instr.findKey kt v es).run Q w= .ok r w/\((r=none/\get k=none)\/ ∃i e y,r=some (i,e.val)/\es[i]?=some e/\e.key=v/\get k=some y/\aW F w e.val y):=by
 obtain⟨ks,h1,h2,h3,h4,h5,h6,h7⟩:=h
 obtain⟨r,hr,Fq⟩:=wa (cc hk).1 hv h1 (fun i p e hp he=>⟨(cc (h3 i p e hp he).1).1,(h3 i p e hp he).2.1⟩) w
 refine⟨r,hr,?_⟩
 rcases Fq with⟨rfl,gB⟩| ⟨i,p,e,rfl,hp,he,hpk⟩
 ·refine .inl ⟨rfl,?_⟩
  cases hg:get k with
  |none=>rfl
  |some y=>exact absurd rfl (gB _ ((h5 k y).1 hg))
 ·obtain⟨_,a2,a3⟩:=h3 i p e hp he
  refine .inr ⟨i,e,p.2,rfl,he,?_,(h5 k p.2).2 ?_,a3⟩
  ·rw[hpk,hv] at a2
   exact(Option.some.inj a2).symm
  ·rw[<-hpk]
   exact List.mem_of_getElem? hp
theorem Dx (h:aB Q T F G w a s) {n aU:Nat} {v:Value} {kt:Nat} {get:D->Option D} {c:Int} {last:Bool} (hv:aD F w G s.rg v (.mp n aU)) (ho:s.obj n aU=some (.map kt get c last)):
  ∃e,lk s.rg n=some e/\e.aU=aU/\e.obj= .map kt get c last/\v=G n/\ ∃b es clock,G n= .map (some b)/\w.heap[b]?=some (.map es clock)/\nQ Q F w kt get c es.toList clock:=by
 obtain⟨e,he,dI,bR⟩:=S.bF ho
 cases hv with
 |mp _ _ _ _ hr=>
  obtain⟨e',cF,hle,hc⟩:=hr
  rw[he] at cF
  cases cF
  have hv:=hc dI.symm (by rw[bR];rfl)
  have:=h.rg n e he
  rw[bR] at this
  obtain⟨b,es,clock,h1,h2,h3,_⟩:=this
  exact⟨e,he,dI,bR,hv,b,es,clock,h1,h2,h3⟩
theorem Nk (h:aB Q T F G w a s) {n aU:Nat} {v:Value} {kt:Nat} {get:D->Option D} {c:Int} {p:P} {kd:D} (hv:aD F w G s.rg v (.mp n aU)) (ho:s.obj n aU=some (.jA kt get c p kd)):
  ∃e,lk s.rg n=some e/\e.aU=aU/\e.obj= .jA kt get c p kd/\v=G n/\ ∃b es clock,G n= .map (some b)/\w.heap[b]?=some (.map es clock)/\nQ Q F w kt get c es.toList clock/\ ∃(i:Nat) (en:MapEntry),es[i]?=some en/\aD F w G s.rg (.int .i64 (en.born:Int)) p/\kd.cw=some en.key/\(get kd).isSome=true:=by
 obtain⟨e,he,dI,bR⟩:=S.bF ho
 cases hv with
 |mp _ _ _ _ hr=>
  obtain⟨e',cF,hle,hc⟩:=hr
  rw[he] at cF
  cases cF
  have hv:=hc dI.symm (by rw[bR];rfl)
  have:=h.rg n e he
  rw[bR] at this
  obtain⟨b,es,clock,h1,h2,h3,h4⟩:=this
  exact⟨e,he,dI,bR,hv,b,es,clock,h1,h2,h3,h4⟩
theorem Gf (h:aB Q T F G w a s) {t kt e:TypeId} {p i q:P} {ok:Bool} {z:D} (ht:jt Q t=some (kt,e)) (hz:dY Q e=some z) {v u:Value} (hv:aD F w G s.rg v p) (hu:aD F w G s.rg u i)
  (hq:ec Q s t p i ok z=some q): ∃r,(Instr.lookup t v u ok).run Q w= .ok r w/\aD F w G s.rg r q:=by
 have nF:=iq ht
 obtain⟨zv,zI,Ft⟩:=oz (F:=F) hz w
 have two: ∀(v1:Value) (x:D) (b:Bool),aW F w v1 x->aD F w G s.rg (.tuple #[v1,.bool b]) (.da [.d x,.d (.bool b)]):=fun v1 x b hx=>
  .da [v1,.bool b] _ rfl (fun i v c hv hc=>by
   match i with
   |0=>simp at hv hc;subst hv;subst hc;exact .d hx
   |1=>simp at hv hc;subst hv;subst hc;exact .d (.bool b)
   |i+2=>simp at hv)
 unfold ec at hq
 rw[ht] at hq
 split at hq
 ·rename_i yE e' n aU k Fu
  simp only[Option.some.injEq,Prod.mk.injEq] at Fu
  obtain⟨rfl,rfl⟩:=Fu
  split at hq
  ·rename_i kt2 get c last ho
   split at hq
   ·rename_i hc
    simp only[Bool.and_eq_true] at hc
    have Bb:=Nat.eq_of_beq_eq_true hc.1
    subst Bb
    obtain⟨_,_,⟨kv,wb,Bc⟩⟩:=cc hc.2
    have hu':u=kv:=hu.cw (p:= .d k) wb
    subst hu'
    obtain⟨e0,_,_,_,zJ,b,es,clock,hG,hb,hM⟩:=Dx h hv ho
    rw[hG] at zJ
    subst zJ
    obtain⟨ck,nG⟩:=Bc es.isEmpty
    have nG:=du nG w
    obtain⟨r,hr,Fq⟩:=hM.look hc.2 wb
    rcases Fq with⟨rfl,hg⟩| ⟨j,en,y,rfl,_,_,hg,hy⟩
    ·rw[hg] at hq
     cases ok with
     |true=>
      simp at hq
      subst hq
      exact⟨.tuple #[zv,.bool false],by simp[Instr.lookup,run_underlying nF,MapKept.run_getObj_map hb,nG,hr,zI],two _ _ _ Ft⟩
     |false=>
      simp at hq
      subst hq
      exact⟨zv,by simp[Instr.lookup,run_underlying nF,MapKept.run_getObj_map hb,nG,hr,zI],.d Ft⟩
    ·rw[hg] at hq
     cases ok with
     |true=>
      simp at hq
      subst hq
      exact⟨.tuple #[en.val,.bool true],by simp[Instr.lookup,run_underlying nF,MapKept.run_getObj_map hb,nG,hr],two _ _ _ hy⟩
     |false=>
      simp at hq
      subst hq
      exact⟨en.val,by simp[Instr.lookup,run_underlying nF,MapKept.run_getObj_map hb,nG,hr],.d hy⟩
   ·cases hq
  ·rename_i kt2 get c pE kdE ho
   split at hq
   ·rename_i hc
    simp only[Bool.and_eq_true,Bool.not_eq_true'] at hc
    obtain⟨⟨ml,Bb⟩,Nl⟩:=hc
    have Bb:=Nat.eq_of_beq_eq_true Bb
    subst Bb
    subst ml
    obtain⟨_,_,⟨kv,wb,Bc⟩⟩:=cc Nl
    have hu':u=kv:=hu.cw (p:= .d k) wb
    subst hu'
    obtain⟨e0,_,_,_,zJ,b,es,clock,hG,hb,hM,_⟩:=Nk h hv ho
    rw[hG] at zJ
    subst zJ
    obtain⟨ck,nG⟩:=Bc es.isEmpty
    have nG:=du nG w
    obtain⟨r,hr,Fq⟩:=hM.look Nl wb
    rcases Fq with⟨rfl,hg⟩| ⟨j,en,y,rfl,_,_,hg,hy⟩
    ·rw[hg] at hq
     simp at hq
     subst hq
     exact⟨zv,by simp[Instr.lookup,run_underlying nF,MapKept.run_getObj_map hb,nG,hr,zI],.d Ft⟩
    ·rw[hg] at hq
     simp at hq
     subst hq
     exact⟨en.val,by simp[Instr.lookup,run_underlying nF,MapKept.run_getObj_map hb,nG,hr],.d hy⟩
   ·cases hq
  ·cases hq
 ·rename_i yE e' k Fu
  simp only[Option.some.injEq,Prod.mk.injEq] at Fu
  obtain⟨rfl,rfl⟩:=Fu
  split at hq
  ·rename_i hc
   obtain⟨S9,_,⟨kv,wb,Bc⟩⟩:=cc hc
   have hu':u=kv:=hu.cw (p:= .d k) wb
   subst hu'
   have Ga:v= .map none:=hv.cw (p:= .d .rR) rfl
   subst Ga
   obtain⟨ck,nG⟩:=Bc true
   have nG:=du nG w
   obtain⟨r,hr,Fq⟩:=wa (ks:=[]) (es:=[]) S9 wb rfl (fun i p e hp=>by simp at hp) w
   have sN:r=none:=by
    rcases Fq with⟨rfl,_⟩| ⟨i,p,e,_,hp,_⟩
    ·rfl
    ·simp at hp
   subst sN
   cases ok with
   |true=>
    simp at hq
    subst hq
    exact⟨.tuple #[zv,.bool false],by simp[Instr.lookup,run_underlying nF,nG,hr,zI],two _ _ _ Ft⟩
   |false=>
    simp at hq
    subst hq
    exact⟨zv,by simp[Instr.lookup,run_underlying nF,nG,hr,zI],.d Ft⟩
  ·cases hq
 ·cases hq
theorem aW.Ik (F:Nat->Prop) (w:World) {x:D} {v:Value} (h:x.fW=some v):aW F w v x:=by
 cases x<;>simp[D.fW] at h<;>subst h<;>constructor
theorem Il: ∀(cs:List D) (vs:List Value),D.cR cs=some vs->vs.length=cs.length/\ ∀(i:Nat) (v:Value) (c:D),vs[i]?=some v->cs[i]?=some c->c.fW=some v
 | [],vs,h=>by simp[D.cR] at h;subst h;exact⟨rfl,fun i v c hv=>by simp at hv⟩
 |x::r,vs,h=>by
  simp only[D.cR] at h
  split at h
  ·rename_i v1 vs1 h1 h2
   simp at h
   subst h
   obtain⟨k1,k2⟩:=Il r vs1 h2
   refine⟨by simp[k1],fun i v c hv hc=> ?_⟩
   cases i with
   |zero=>simp at hv hc;subst hv;subst hc;exact h1
   |succ i=>exact k2 i v c (by simpa using hv) (by simpa using hc)
  ·cases h
theorem aW.Nn (F:Nat->Prop) (w:World) {x:D} {v:Value} (h:x.cw=some v):aW F w v x:=by
 cases x with
 |agg cs=>
  simp only[D.cw] at h
  split at h
  ·rename_i vs Ii
   simp at h
   subst h
   obtain⟨k1,k2⟩:=Il cs vs Ii
   refine .agg vs cs k1 (fun c hc=> ?_) fun i v c hv hc=>aW.Ik F w (k2 i v c hv hc)
   obtain⟨i,hi⟩:=List.getElem?_of_mem hc
   have bk:i<vs.length:=by have:=(List.getElem?_eq_some_iff.1 hi).1;omega
   have:=k2 i _ c (List.getElem?_eq_getElem bk) hi
   cases c<;>first |rfl |simp[D.fW] at this
  ·cases h
 |_=>exact aW.Ik F w h
theorem wc (e:MapEntry): ∀l:List MapEntry,e∈l->(l.map (·.born)).Nodup->l.find? (fun x=>x.born==e.born)=some e
 | [],h,_=>by cases h
 |x::r,h,hn=>by
  rw[List.map_cons,List.nodup_cons] at hn
  rw[List.find?_cons]
  rcases List.mem_cons.1 h with rfl |h
  ·simp
  ·have dz:x.born≠e.born:=fun hx=>hn.1 (List.mem_map.2 ⟨e,h,hx.symm⟩)
   have:(x.born==e.born)=false:=by simpa using dz
   rw[this]
   exact wc e r h hn.2
theorem Bd {r m since:Nat} {seen:Array Nat} {es:Array MapEntry} {clock:Nat} {e:MapEntry} (hr:w.heap[r]?=some (.mapIter (some m) since (seen.push e.born) clock)) (hm:w.heap[m]?=some (.map es clock)) (he:e∈es.toList) (hn:(es.toList.map (·.born)).Nodup):
  (Instr.entry (.pointer (some ⟨r,0,none⟩))).run Q w= .ok (.tuple #[e.key,e.val]) w:=by
 have hf:es.find? (fun x=>x.born==e.born)=some e:=by
  rw[<-Array.find?_toList]
  exact wc e _ he hn
 have hc:(clock !=clock)=false:=by simp
 simp only[Instr.entry,getObj,Sem.run_bind,Sem.run,hr,hm,Result.andThen,Array.back?_push,hc,Bool.false_eq_true,if_false,hf]
 rfl
theorem J7 (h:aB Q T F G w a s) {p q:P} {v:Value} (hv:aD F w G s.rg v p) (hq:oe s p=some q): ∃r,(Instr.entry v).run Q w= .ok r w/\aD F w G s.rg r q:=by
 unfold oe at hq
 split at hq
 ·rename_i n aU
  split at hq
  ·rename_i kt vt left k x ho
   simp only[Option.some.injEq] at hq
   subst hq
   obtain⟨e,he,dI,bR⟩:=S.bF ho
   have hO:=h.rg n e he
   rw[bR] at hO
   obtain⟨b,mo,since,seen,last,hg,hh,hO⟩:=hO
   cases hv with
   |ref _ _ _ _ hr h1=>
    obtain⟨b',J8,rfl⟩:=hr.at he dI (by rw[bR];rfl)
    rw[hg] at J8
    simp at J8
    subst J8
    rcases hO with⟨_,_,hc⟩| ⟨m,es,rfl,hF,hm,Np,⟨ks,g1,g3,g4,g5,g6,g7⟩,hc⟩
    ·cases hc
    ·subst Np
     obtain⟨en,jC,jx,hk,hx⟩:=hc k x rfl
     obtain⟨sn,rfl⟩:=Array.back?_eq_some_iff.1 jx
     refine⟨_,Bd hh hm jC g6,.da [en.key,en.val] _ rfl fun i v c hv hc=> ?_⟩
     match i with
     |0=>simp at hv hc;subst hv;subst hc;exact .d (aW.Nn F w hk)
     |1=>simp at hv hc;subst hv;subst hc;exact .d hx
     |i+2=>simp at hv
  ·cases hq
 ·cases hq
end
end Pi
