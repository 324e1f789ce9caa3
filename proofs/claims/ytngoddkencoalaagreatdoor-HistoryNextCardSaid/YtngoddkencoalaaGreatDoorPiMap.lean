/- The text PiMap. -/
import Derived.Test.YtngoddkencoalaaGreatDoorPiEq
import Derived.MapKept
namespace Pi
open Go
mutual
theorem D.gU: ∀(x y:D),D.nZ x y=true↔x=y
 | .bool a,y=>by cases y<;>simp[D.nZ]
 | .int k a,y=>by cases y<;>simp[D.nZ]
 | .str a,y=>by cases y<;>simp[D.nZ]
 | .agg a,y=>by cases y<;>simp[D.nZ,D.wY a]
 | .sl k a,y=>by cases y<;>simp[D.nZ,D.wY a]
 | .fQ,y=>by cases y<;>simp[D.nZ]
 | .q7,y=>by cases y<;>simp[D.nZ]
 | .sa,y=>by cases y<;>simp[D.nZ]
 | .BW,y=>by cases y<;>simp[D.nZ]
 | .BX,y=>by cases y<;>simp[D.nZ]
theorem D.wY: ∀(x y:List D),D.Hs x y=true↔x=y
 | [],y=>by cases y<;>simp[D.Hs]
 |x::xs,y=>by
  cases y with
  |nil=>simp[D.Hs]
  |cons y ys=>simp[D.Hs,D.gU x,D.wY xs]
end
theorem AG (k v:D) (get:D->Option D):cY k v get k=some v:=by
 unfold cY;rw[(D.gU k k).2 rfl];rfl
theorem J7 {k k':D} (v:D) (get:D->Option D) (h:k≠k'):cY k v get k'=get k':=by
 unfold cY
 cases hb:D.nZ k k' with
 |false=>rfl
 |true=>exact absurd ((D.gU k k').1 hb) h
theorem HK {Q:Program} {t:TypeId} {k:Nat} (h:sz Q t=some k):Q.cellsOf t=k:=by
 obtain⟨i,d,hi,_,rfl⟩:=gl h
 unfold Program.cellsOf
 rw[hi]
 rfl
theorem O6 {Q:Program} {t:TypeId} {xs ys:List D} {off:Nat} {x y:D} (VO:(dy Q t ||Nat.beq (Q.cellsOf t) 1)=true) (h1:jj Q t xs off=some x) (h2:jj Q t ys off=some y):
  x=y↔(xs.drop off).take (Q.cellsOf t)=(ys.drop off).take (Q.cellsOf t):=by
 unfold jj at h1 h2
 cases hk:sz Q t with
 |none=>rw[hk] at h1;cases h1
 |some k=>
  rw[hk] at h1 h2
  have e:=HK hk
  rw[e] at VO⊢
  simp only at h1 h2
  cases ha:dy Q t with
  |true=>
   rw[ha] at h1 h2
   simp only[zba] at h1 h2
   split at h1
   ·split at h2
    ·cases h1;cases h2;simp
    ·cases h2
   ·cases h1
  |false=>
   rw[ha] at h1 h2 VO
   simp only[zaz,zbd] at h1 h2
   have fW:k=1:=by simpa using VO
   subst fW
   have l1:=(zad.1 h1).1
   have l2:=(zad.1 h2).1
   have e1:(xs.drop off).take 1=[x]:=by
    rw[za2 l1]
    simp[(zad.1 h1).2]
   have e2:(ys.drop off).take 1=[y]:=by
    rw[za2 l2]
    simp[(zad.1 h2).2]
   rw[e1,e2]
   simp
theorem wZ {Q:Program} {go:TypeId->D->D->Option Bool} {xs ys:List D} {q8:Nat} (hx:xs.length=q8) (hy:ys.length=q8)
  {sh:TypeId->D->Bool} (mv: ∀t x y,sh t x=true->sh t y=true-> ∃c,go t x y=some c/\(c=true↔x=y)): ∀(fs:List Field) (off:Nat),oU Q off fs q8=true->off<=q8->
  (∀f∈fs,(!(f.name== "_")&&(dy Q f.type ||Nat.beq (Q.cellsOf f.type) 1)&&(match jj Q f.type xs f.offset with |some y=>sh f.type y |none=>false))=true)->
  (∀f∈fs,(!(f.name== "_")&&(dy Q f.type ||Nat.beq (Q.cellsOf f.type) 1)&&(match jj Q f.type ys f.offset with |some y=>sh f.type y |none=>false))=true)->
  ∃c,Ef Q go fs xs ys=some c/\(c=true↔xs.drop off=ys.drop off)
 | [],off,ht,hle,_,_=>by
  have:off=q8:=zaf ht
  refine⟨true,rfl,?_⟩
  rw[zcy (by omega),zcy (by omega)]
  simp
 |f::r,off,ht,hle,h1,h2=>by
  simp only[oU,zab] at ht
  have ho:f.offset=off:=zaf ht.1
  have VP:off+Q.cellsOf f.type<=q8:=by
   have: ∀(fs:List Field) (o:Nat),oU Q o fs q8=true->o<=q8:=by
    intro fs
    induction fs with
    |nil=>intro o h;exact Nat.le_of_eq (zaf h)
    |cons g gs ih=>
     intro o h
     simp only[oU,zab] at h
     have:=ih _ h.2
     omega
   exact this r _ ht.2
  obtain⟨c,hc,jG⟩:=wZ hx hy mv r _ ht.2 VP (fun g hg=>h1 g (by simp[hg])) (fun g hg=>h2 g (by simp[hg]))
  have a1:=h1 f (by simp)
  have a2:=h2 f (by simp)
  simp only[zab] at a1 a2
  obtain⟨⟨hn,VO⟩,b1⟩:=a1
  obtain⟨_,b2⟩:=a2
  have hn:(f.name== "_")=false:=by simpa using hn
  unfold Ef
  rw[hn]
  simp only
  cases p1:jj Q f.type xs f.offset with
  |none=>rw[p1] at b1;cases b1
  |some x=>
   cases p2:jj Q f.type ys f.offset with
   |none=>rw[p2] at b2;cases b2
   |some y=>
    rw[p1] at b1
    rw[p2] at b2
    obtain⟨a,ha,haa⟩:=mv f.type x y b1 b2
    simp only[ha,hc]
    refine⟨a&&c,rfl,?_⟩
    rw[zab,haa,jG,O6 VO p1 p2,ho]
    have O7: ∀l:List D,l.drop off=(l.drop off).take (Q.cellsOf f.type)++l.drop (off+Q.cellsOf f.type):=fun l=>by
     rw[<-zc4,zbR]
    constructor
    ·rintro⟨e1,e2⟩
     rw[O7 xs,O7 ys,e1,e2]
    ·intro e
     refine⟨by rw[e],?_⟩
     rw[<-zc4,<-zc4,e]
theorem p8 {Q:Program}: ∀(n:Nat) (t:TypeId) (x y:D),iG Q n t x=true->iG Q n t y=true-> ∃c,VG Q n t x y=some c/\(c=true↔x=y)
 |0,_,_,_,h,_=>by simp[iG] at h
 |n+1,t,x,y,h1,h2=>by
  unfold iG at h1 h2
  unfold VG
  cases hd:Q.underlying t with
  |none=>rw[hd] at h1;simp at h1
  |some d=>
   rw[hd] at h1 h2
   cases d with
   |bool=>
    cases x<;>try (simp at h1;done)
    cases y<;>try (simp at h2;done)
    exact⟨_,rfl,by simp⟩
   |int k=>
    cases x<;>try (simp at h1;done)
    cases y<;>try (simp at h2;done)
    rename_i k1 a k2 b
    have e1:k=k1:=by simpa using h1
    have e2:k=k2:=by simpa using h2
    subst e1 e2
    exact⟨a==b,by simp,by simp⟩
   |string=>
    cases x<;>try (simp at h1;done)
    cases y<;>try (simp at h2;done)
    exact⟨_,rfl,by simp⟩
   |struct fs=>
    cases x<;>try (simp at h1;done)
    cases y<;>try (simp at h2;done)
    rename_i xs ys
    simp only[zab] at h1 h2
    obtain⟨⟨⟨l1,t1⟩,s1⟩,f1⟩:=h1
    obtain⟨⟨⟨l2,_⟩,_⟩,f2⟩:=h2
    have s1:Q.stoodInHeld t=false:=by simpa using s1
    obtain⟨c,hc,jG⟩:=wZ (Q:=Q) (go:=VG Q n) (xs:=xs) (ys:=ys) (zaf l1) (zaf l2) (sh:=iG Q n) (fun t x y a b=>p8 n t x y a b) fs.toList 0 t1 (za5 _)
     (fun f hf=>zbk.1 f1 f hf) (fun f hf=>zbk.1 f2 f hf)
    refine⟨c,by simp only[s1];exact hc,?_⟩
    rw[jG]
    simp
   |_=>simp at h1
theorem cu {Q:Program} {kt:TypeId} {k:D} (h:fR Q kt k=true):iG Q 20 kt k=true/\(∀c∈k.cells,c.LJ=true)/\ ∃v,k.cy=some v/\ ∀em,∃u,aw Q (Instr.checkKey em 10000 kt v)=some u:=by
 simp only[fR,zab] at h
 refine⟨h.1.1,zbk.1 h.1.2,?_⟩
 have h2:=h.2
 split at h2
 ·rename_i v hv
  split at h2
  ·rename_i a b ha hb
   exact⟨v,hv,fun em=>by cases em;exact⟨_,ha⟩;exact⟨_,hb⟩⟩
  ·cases h2
 ·cases h2
theorem uB {Q:Program} {kt:TypeId} {k:D} {v:Value} (hs:iG Q 20 kt k=true) (hv:k.cy=some v): ∀(ks:List (D×D)) (es:List MapEntry) (i0:Nat),ks.length=es.length->
  (∀(i:Nat) (p:D×D) (e:MapEntry),ks[i]?=some p->es[i]?=some e->iG Q 20 kt p.1=true/\p.1.cy=some e.key)->
  ∃r,aw Q (Instr.findAsking kt v es i0)=some r/\((r=none/\ ∀p∈ks,p.1≠k)\/ ∃i p e,r=some (i0+i,e.val)/\ks[i]?=some p/\es[i]?=some e/\p.1=k)
 | [],[],i0,_,_=>⟨none,rfl,.inl ⟨rfl,by simp⟩⟩
 | [],e::es,i0,h,_=>by simp at h
 |p::ks,[],i0,h,_=>by simp at h
 |p::ks,e::es,i0,hl,h=>by
  obtain⟨h1,h2⟩:=h 0 p e rfl rfl
  obtain⟨c,hc,jG⟩:=p8 20 kt k p.1 hs h1
  have he:=fE 20 10000 kt k p.1 c v e.key (by omega) hc hv h2
  unfold Instr.findAsking
  have eq:Op.equal kt v e.key=Op.equalIn 10000 kt v e.key:=rfl
  rw[av,eq,he,zau]
  cases c with
  |true=>exact⟨_,rfl,.inr ⟨0,p,e,rfl,rfl,rfl,(jG.1 rfl).symm⟩⟩
  |false=>
   obtain⟨r,hr,uC⟩:=uB hs hv ks es (i0+1) (by simpa using hl) fun i p e hp he=>h (i+1) p e (by simpa using hp) (by simpa using he)
   refine⟨r,hr,?_⟩
   have dG:p.1≠k:=fun e=>by
    have:=jG.2 e.symm
    cases this
   rcases uC with⟨rfl,il⟩| ⟨i,p',e',rfl,a,b,c⟩
   ·exact .inl ⟨rfl,fun q hq=>by
     rcases zav.1 hq with rfl |hq
     ·exact dG
     ·exact il q hq⟩
   ·exact .inr ⟨i+1,p',e',by rw[show i0+(i+1)=i0+1+i by omega],by simpa using a,by simpa using b,c⟩
theorem Et {Q:Program} {kt:TypeId} {d:TypeDesc} (hd:Q.underlying kt=some d) {v u:Value} {c:Bool} (h:Instr.sameNow d v u=some c):aw Q (Op.equal kt v u)=some c:=by
 have eq:Op.equal kt v u=Op.equalIn (9999+1) kt v u:=rfl
 unfold Instr.sameNow at h
 split at h
 ·split at h
  ·rename_i hk
   subst hk
   rw[eq,Op.equalIn,av,aK hd]
   simp only[zau,zba]
   exact h
  ·cases h
 ·rw[eq,Op.equalIn,av,aK hd]
  exact h
 ·rw[eq,Op.equalIn,av,aK hd]
  exact h
 ·cases h
theorem w5 {Q:Program} {kt:TypeId} {d:TypeDesc} (hd:Q.underlying kt=some d) {v:Value}: ∀(es:List MapEntry) (i:Nat) (r:Option (Nat×Value)),Instr.findNow d v es i=some r->aw Q (Instr.findAsking kt v es i)=some r
 | [],i,r,h=>by simp[Instr.findNow] at h;subst h;rfl
 |e::es,i,r,h=>by
  unfold Instr.findNow at h
  unfold Instr.findAsking
  split at h
  ·rename_i hs
   simp only[zal] at h
   subst h
   rw[av,Et hd hs]
   rfl
  ·rename_i hs
   rw[av,Et hd hs]
   exact w5 hd es (i+1) r h
  ·cases h
theorem w6 {Q:Program} {kt:TypeId} {k:D} {v:Value} (hs:iG Q 20 kt k=true) (hv:k.cy=some v) {ks:List (D×D)} {es:List MapEntry} (hl:ks.length=es.length)
  (h: ∀(i:Nat) (p:D×D) (e:MapEntry),ks[i]?=some p->es[i]?=some e->iG Q 20 kt p.1=true/\p.1.cy=some e.key) (w:World):
  ∃r,(Instr.findKey kt v es).run Q w= .ok r w/\((r=none/\ ∀p∈ks,p.1≠k)\/ ∃i p e,r=some (i,e.val)/\ks[i]?=some p/\es[i]?=some e/\p.1=k):=by
 obtain⟨r,hr,uC⟩:=uB hs hv ks es 0 hl h
 refine⟨r,?_,?_⟩
 ·have hd: ∃d,Q.underlying kt=some d:=by
   unfold iG at hs
   cases hd:Q.underlying kt with
   |none=>rw[hd] at hs;simp at hs
   |some d=>exact⟨d,rfl⟩
  obtain⟨d,hd⟩:=hd
  refine dB ?_ w
  unfold Instr.findKey
  rw[av,aK hd,zau]
  cases hn:Instr.findNow d v es 0 with
  |none=>exact hr
  |some r'=>
   have:=w5 hd es 0 r' hn
   rw[hr] at this
   cases this
   rfl
 ·simpa using uC
theorem AH: ∀(x:D) (v:Value),(∀c∈x.cells,c.LJ=true)->x.cy=some v->Instr.sameBits 10000 v v=true:=by
 have cell: ∀(n:Nat) (x:D) (v:Value),x.LJ=true->x.gu=some v->Instr.sameBits (n+1) v v=true:=by
  intro n x v hl h
  cases x<;>simp[D.gu] at h<;>simp[D.LJ] at hl<;>subst h
  ·simp[Instr.sameBits]
  ·simp[Instr.sameBits]
  ·rename_i s
   show((⟨⟨s⟩⟩:ByteArray)==⟨⟨s⟩⟩)=true
   show((⟨s⟩:Array UInt8)==⟨s⟩)=true
   simp
 intro x v LR h
 cases x with
 |agg cs=>
  simp only[D.cy] at h
  split at h
  ·rename_i vs LQ
   simp only[zal] at h
   subst h
   simp only[Instr.sameBits,zbG,zaQ]
   rw[zbk]
   intro p hp
   have: ∀(l:List Value) (p:Value×Value),p∈l.zip l->p.1=p.2/\p.1∈l:=by
    intro l
    induction l with
    |nil=>intro p hp;cases hp
    |cons y l ih=>
     intro p hp
     rcases zav.1 hp with rfl |hp
     ·exact⟨rfl,by simp⟩
     ·have:=ih p hp
      exact⟨this.1,by simp[this.2]⟩
   obtain⟨e1,e2⟩:=this vs p hp
   obtain⟨a,b⟩:=p
   simp only at e1 e2⊢
   subst e1
   obtain⟨i,hi,rfl⟩:=zaU e2
   have hl:=Es LQ
   obtain⟨u,h1,h2⟩:=wX (i:=i) (x:=cs[i]'(by omega)) LQ (by simp)
   rw[zae hi] at h1
   cases h1
   exact cell 9998 _ _ (LR _ (by simp[D.cells])) h2
  ·cases h
 |bool b=>exact cell 9999 (.bool b) _ rfl h
 |int k n=>exact cell 9999 (.int k n) _ rfl h
 |str s=>exact cell 9999 (.str s) _ rfl h
 |_=>simp[D.cells,D.LJ] at LR
section
variable {Q:Program} {T:Tg} {F:Nat->Prop} {G:Nat->Value} {w:World} {a:Act} {s:S}
theorem o9 {t:TypeId} {z:D} (hz:ey Q t=some z) (w:World): ∃zv,(zeroValue t).run Q w= .ok zv w/\a7 F w zv z:=by
 unfold ey at hz
 split at hz
 ·rename_i i hi
  split at hz
  ·rename_i zv J8
   exact⟨zv,by simp[zeroValue,typeInfo,hi,J8],a7.tF F w hz⟩
  ·cases hz
 ·cases hz
theorem iK {t kt e:TypeId} (h:jT Q t=some (kt,e)):Q.underlying t=some (.map kt e):=by
 unfold jT at h
 split at h
 ·simp only[zal,zbB] at h
  obtain⟨rfl,rfl⟩:=h
  assumption
 ·cases h
theorem oq.look {kt:TypeId} {get:D->Option D} {n:Int} {es:List MapEntry} {clock:Nat} (h:oq Q F w kt get n es clock) {k:D} {v:Value} (hk:fR Q kt k=true) (hv:k.cy=some v):
  ∃r,(Instr.findKey kt v es).run Q w= .ok r w/\((r=none/\get k=none)\/ ∃i e y,r=some (i,e.val)/\es[i]?=some e/\e.key=v/\get k=some y/\a7 F w e.val y):=by
 obtain⟨ks,h1,h2,h3,h4,h5,h6,h7⟩:=h
 obtain⟨r,hr,uC⟩:=w6 (cu hk).1 hv h1 (fun i p e hp he=>⟨(cu (h3 i p e hp he).1).1,(h3 i p e hp he).2.1⟩) w
 refine⟨r,hr,?_⟩
 rcases uC with⟨rfl,il⟩| ⟨i,p,e,rfl,hp,he,hpk⟩
 ·refine .inl ⟨rfl,?_⟩
  cases hg:get k with
  |none=>rfl
  |some y=>exact absurd rfl (il _ ((h5 k y).1 hg))
 ·obtain⟨_,a2,a3⟩:=h3 i p e hp he
  refine .inr ⟨i,e,p.2,rfl,he,?_,(h5 k p.2).2 ?_,a3⟩
  ·rw[hpk,hv] at a2
   exact(zb1 a2).symm
  ·rw[<-hpk]
   exact zaC hp
theorem Eu (h:aC Q T F G w a s) {n aX:Nat} {v:Value} {kt:Nat} {get:D->Option D} {c:Int} {last:Bool} (hv:aF F w G s.rg v (.mp n aX)) (ho:s.obj n aX=some (.map kt get c last)):
  ∃e,lk s.rg n=some e/\e.aX=aX/\e.obj= .map kt get c last/\v=G n/\ ∃b es clock,G n= .map (some b)/\w.heap[b]?=some (.map es clock)/\oq Q F w kt get c es.toList clock:=by
 obtain⟨e,he,dP,bV⟩:=S.bH ho
 cases hv with
 |mp _ _ _ _ hr=>
  obtain⟨e',cI,hle,hc⟩:=hr
  rw[he] at cI
  cases cI
  have hv:=hc dP.symm (by rw[bV];rfl)
  have:=h.rg n e he
  rw[bV] at this
  obtain⟨b,es,clock,h1,h2,h3,_⟩:=this
  exact⟨e,he,dP,bV,hv,b,es,clock,h1,h2,h3⟩
theorem O8 (h:aC Q T F G w a s) {n aX:Nat} {v:Value} {kt:Nat} {get:D->Option D} {c:Int} {p:P} {kd:D} (hv:aF F w G s.rg v (.mp n aX)) (ho:s.obj n aX=some (.jZ kt get c p kd)):
  ∃e,lk s.rg n=some e/\e.aX=aX/\e.obj= .jZ kt get c p kd/\v=G n/\ ∃b es clock,G n= .map (some b)/\w.heap[b]?=some (.map es clock)/\oq Q F w kt get c es.toList clock/\ ∃(i:Nat) (en:MapEntry),es[i]?=some en/\aF F w G s.rg (.int .i64 (en.born:Int)) p/\kd.cy=some en.key/\(get kd).isSome=true:=by
 obtain⟨e,he,dP,bV⟩:=S.bH ho
 cases hv with
 |mp _ _ _ _ hr=>
  obtain⟨e',cI,hle,hc⟩:=hr
  rw[he] at cI
  cases cI
  have hv:=hc dP.symm (by rw[bV];rfl)
  have:=h.rg n e he
  rw[bV] at this
  obtain⟨b,es,clock,h1,h2,h3,h4⟩:=this
  exact⟨e,he,dP,bV,hv,b,es,clock,h1,h2,h3,h4⟩
theorem HL (h:aC Q T F G w a s) {t kt e:TypeId} {p i q:P} {ok:Bool} {z:D} (ht:jT Q t=some (kt,e)) (hz:ey Q e=some z) {v u:Value} (hv:aF F w G s.rg v p) (hu:aF F w G s.rg u i)
  (hq:eB Q s t p i ok z=some q): ∃r,(Instr.lookup t v u ok).run Q w= .ok r w/\aF F w G s.rg r q:=by
 have n5:=iK ht
 obtain⟨zv,AI,GQ⟩:=o9 (F:=F) hz w
 have two: ∀(v1:Value) (x:D) (b:Bool),a7 F w v1 x->aF F w G s.rg (.tuple #[v1,.bool b]) (.cV [.d x,.d (.bool b)]):=fun v1 x b hx=>
  .cV [v1,.bool b] _ rfl (fun i v c hv hc=>by
   match i with
   |0=>simp at hv hc;subst hv;subst hc;exact .d hx
   |1=>simp at hv hc;subst hv;subst hc;exact .d (.bool b)
   |i+2=>simp at hv)
 unfold eB at hq
 rw[ht] at hq
 split at hq
 ·rename_i zA e' n aX k J9
  simp only[zal,zbB] at J9
  obtain⟨rfl,rfl⟩:=J9
  split at hq
  ·rename_i kt2 get c last ho
   split at hq
   ·rename_i hc
    simp only[zab] at hc
    have DQ:=zaf hc.1
    subst DQ
    obtain⟨_,_,⟨kv,w7,Cb⟩⟩:=cu hc.2
    have hu':u=kv:=hu.cy (p:= .d k) w7
    subst hu'
    obtain⟨e0,_,_,_,AJ,b,es,clock,hG,hb,hM⟩:=Eu h hv ho
    rw[hG] at AJ
    subst AJ
    obtain⟨ck,n9⟩:=Cb es.isEmpty
    have n9:=dB n9 w
    obtain⟨r,hr,uC⟩:=hM.look hc.2 w7
    rcases uC with⟨rfl,hg⟩| ⟨j,en,y,rfl,_,_,hg,hy⟩
    ·rw[hg] at hq
     cases ok with
     |true=>
      simp at hq
      subst hq
      exact⟨.tuple #[zv,.bool false],by simp[Instr.lookup,run_underlying n5,MapKept.run_getObj_map hb,n9,hr,AI],two _ _ _ GQ⟩
     |false=>
      simp at hq
      subst hq
      exact⟨zv,by simp[Instr.lookup,run_underlying n5,MapKept.run_getObj_map hb,n9,hr,AI],.d GQ⟩
    ·rw[hg] at hq
     cases ok with
     |true=>
      simp at hq
      subst hq
      exact⟨.tuple #[en.val,.bool true],by simp[Instr.lookup,run_underlying n5,MapKept.run_getObj_map hb,n9,hr],two _ _ _ hy⟩
     |false=>
      simp at hq
      subst hq
      exact⟨en.val,by simp[Instr.lookup,run_underlying n5,MapKept.run_getObj_map hb,n9,hr],.d hy⟩
   ·cases hq
  ·rename_i kt2 get c pE kdE ho
   split at hq
   ·rename_i hc
    simp only[zab,zbs] at hc
    obtain⟨⟨mX,DQ⟩,UX⟩:=hc
    have DQ:=zaf DQ
    subst DQ
    subst mX
    obtain⟨_,_,⟨kv,w7,Cb⟩⟩:=cu UX
    have hu':u=kv:=hu.cy (p:= .d k) w7
    subst hu'
    obtain⟨e0,_,_,_,AJ,b,es,clock,hG,hb,hM,_⟩:=O8 h hv ho
    rw[hG] at AJ
    subst AJ
    obtain⟨ck,n9⟩:=Cb es.isEmpty
    have n9:=dB n9 w
    obtain⟨r,hr,uC⟩:=hM.look UX w7
    rcases uC with⟨rfl,hg⟩| ⟨j,en,y,rfl,_,_,hg,hy⟩
    ·rw[hg] at hq
     simp at hq
     subst hq
     exact⟨zv,by simp[Instr.lookup,run_underlying n5,MapKept.run_getObj_map hb,n9,hr,AI],.d GQ⟩
    ·rw[hg] at hq
     simp at hq
     subst hq
     exact⟨en.val,by simp[Instr.lookup,run_underlying n5,MapKept.run_getObj_map hb,n9,hr],.d hy⟩
   ·cases hq
  ·cases hq
 ·rename_i zA e' k J9
  simp only[zal,zbB] at J9
  obtain⟨rfl,rfl⟩:=J9
  split at hq
  ·rename_i hc
   obtain⟨VO,_,⟨kv,w7,Cb⟩⟩:=cu hc
   have hu':u=kv:=hu.cy (p:= .d k) w7
   subst hu'
   have J6:v= .map none:=hv.cy (p:= .d .sa) rfl
   subst J6
   obtain⟨ck,n9⟩:=Cb true
   have n9:=dB n9 w
   obtain⟨r,hr,uC⟩:=w6 (ks:=[]) (es:=[]) VO w7 rfl (fun i p e hp=>by simp at hp) w
   have tv:r=none:=by
    rcases uC with⟨rfl,_⟩| ⟨i,p,e,_,hp,_⟩
    ·rfl
    ·simp at hp
   subst tv
   cases ok with
   |true=>
    simp at hq
    subst hq
    exact⟨.tuple #[zv,.bool false],by simp[Instr.lookup,run_underlying n5,n9,hr,AI],two _ _ _ GQ⟩
   |false=>
    simp at hq
    subst hq
    exact⟨zv,by simp[Instr.lookup,run_underlying n5,n9,hr,AI],.d GQ⟩
  ·cases hq
 ·cases hq
theorem a7.Ka (F:Nat->Prop) (w:World) {x:D} {v:Value} (h:x.gu=some v):a7 F w v x:=by
 cases x<;>simp[D.gu] at h<;>subst h<;>constructor
theorem Kb: ∀(cs:List D) (vs:List Value),D.c7 cs=some vs->vs.length=cs.length/\ ∀(i:Nat) (v:Value) (c:D),vs[i]?=some v->cs[i]?=some c->c.gu=some v
 | [],vs,h=>by simp[D.c7] at h;subst h;exact⟨rfl,fun i v c hv=>by simp at hv⟩
 |x::r,vs,h=>by
  simp only[D.c7] at h
  split at h
  ·rename_i v1 vs1 h1 h2
   simp at h
   subst h
   obtain⟨k1,k2⟩:=Kb r vs1 h2
   refine⟨by simp[k1],fun i v c hv hc=> ?_⟩
   cases i with
   |zero=>simp at hv hc;subst hv;subst hc;exact h1
   |succ i=>exact k2 i v c (by simpa using hv) (by simpa using hc)
  ·cases h
theorem a7.O9 (F:Nat->Prop) (w:World) {x:D} {v:Value} (h:x.cy=some v):a7 F w v x:=by
 cases x with
 |agg cs=>
  simp only[D.cy] at h
  split at h
  ·rename_i vs LQ
   simp at h
   subst h
   obtain⟨k1,k2⟩:=Kb cs vs LQ
   refine .agg vs cs k1 (fun c hc=> ?_) fun i v c hv hc=>a7.Ka F w (k2 i v c hv hc)
   obtain⟨i,hi⟩:=zaP hc
   have bG:i<vs.length:=by have:=(zad.1 hi).1;omega
   have:=k2 i _ c (zae bG) hi
   cases c<;>first |rfl |simp[D.gu] at this
  ·cases h
 |_=>exact a7.Ka F w h
theorem w8 (e:MapEntry): ∀l:List MapEntry,e∈l->(l.map (·.born)).Nodup->l.find? (fun x=>x.born==e.born)=some e
 | [],h,_=>by cases h
 |x::r,h,hn=>by
  rw[zbl,za7] at hn
  rw[List.find?_cons]
  rcases zav.1 h with rfl |h
  ·simp
  ·have dG:x.born≠e.born:=fun hx=>hn.1 (zaA.2 ⟨e,h,hx.symm⟩)
   have:(x.born==e.born)=false:=by simpa using dG
   rw[this]
   exact w8 e r h hn.2
theorem Cc {r m since:Nat} {seen:Array Nat} {es:Array MapEntry} {clock:Nat} {e:MapEntry} (hr:w.heap[r]?=some (.mapIter (some m) since (seen.push e.born) clock)) (hm:w.heap[m]?=some (.map es clock)) (he:e∈es.toList) (hn:(es.toList.map (·.born)).Nodup):
  (Instr.entry (.pointer (some ⟨r,0,none⟩))).run Q w= .ok (.tuple #[e.key,e.val]) w:=by
 have hf:es.find? (fun x=>x.born==e.born)=some e:=by
  rw[<-Array.find?_toList]
  exact w8 e _ he hn
 have hc:(clock !=clock)=false:=by simp
 simp only[Instr.entry,getObj,Sem.run_bind,Sem.run,hr,hm,Result.andThen,Array.back?_push,hc,zaz,zbd,hf]
 rfl
theorem LS (h:aC Q T F G w a s) {p q:P} {v:Value} (hv:aF F w G s.rg v p) (hq:oW s p=some q): ∃r,(Instr.entry v).run Q w= .ok r w/\aF F w G s.rg r q:=by
 unfold oW at hq
 split at hq
 ·rename_i n aX
  split at hq
  ·rename_i kt vt left k x ho
   simp only[zal] at hq
   subst hq
   obtain⟨e,he,dP,bV⟩:=S.bH ho
   have hO:=h.rg n e he
   rw[bV] at hO
   obtain⟨b,mo,since,seen,last,hg,hh,hO⟩:=hO
   cases hv with
   |ref _ _ _ _ hr h1=>
    obtain⟨b',GR,rfl⟩:=hr.at he dP (by rw[bV];rfl)
    rw[hg] at GR
    simp at GR
    subst GR
    rcases hO with⟨_,_,hc⟩| ⟨m,es,rfl,hF,hm,Pa,⟨ks,g1,g3,g4,g5,g6,g7⟩,hc⟩
    ·cases hc
    ·subst Pa
     obtain⟨en,mF,jV,hk,hx⟩:=hc k x rfl
     obtain⟨sn,rfl⟩:=Array.back?_eq_some_iff.1 jV
     refine⟨_,Cc hh hm mF g6,.cV [en.key,en.val] _ rfl fun i v c hv hc=> ?_⟩
     match i with
     |0=>simp at hv hc;subst hv;subst hc;exact .d (a7.O9 F w hk)
     |1=>simp at hv hc;subst hv;subst hc;exact .d hx
     |i+2=>simp at hv
  ·cases hq
 ·cases hq
end
end Pi
