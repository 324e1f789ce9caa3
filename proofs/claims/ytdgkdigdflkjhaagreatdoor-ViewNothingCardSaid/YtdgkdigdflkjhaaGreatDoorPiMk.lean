/- The text PiMk. -/
import Derived.Test.YtdgkdigdflkjhaaGreatDoorPiEfOk4
import Derived.Laws.MakeOwn
namespace Pi
open Go
section
variable{Q:Program}{T:Tg}{F:Nat->Prop}{G:Nat->Value}{w:World}{a:Act}{s:S}
theorem Uc{zc n k i j}(hk:zc.size=k)(hj:j<k)(hn:i*k+j<n):(madeCells zc n).getD (i*k+j) undef=zc.getD j undef:=by
 have e:(i*k+j)%zc.size=j:=by rw[hk,zco,Nat.mul_add_mod,Nat.mod_eq_of_lt hj]
 have NU:j<zc.size:=by omega
 simp[madeCells,Array.getD,hn,e,NU]
theorem rz{F w z zv}{k l n}(hz:aY F w zv z)(hl:z.cells.length=k)(hn:l*k<=n):n5 F w (madeCells zv.cells n) k (List.replicate l z):=by
 obtain⟨c1,c2,c3⟩:=eB hz;have hs:zv.cells.size=k:=by rw[<-hl,<-c1];simp
 intro i x hx;rw[List.getElem?_replicate] at hx;split at hx
 next hi=>
  cases hx;refine⟨hl,c2,λj c hc=> ?_⟩;have hj:j<k:=by have:=(zae.1 hc).1;omega
  have bK:i*k+j<n:=by
   calc i*k+j<i*k+k:=by omega
    _=(i+1)*k:=by rw[za2,zbB]
    _<=l*k:=zar _ hi
    _<=n:=hn
  rw[Uc hs hj bK];exact c3 j _ c (by simp_all) hc
 cases hx
theorem Ud(h:aC Q T F G w a s){dst t p q s'}(hs:uk Q s dst t p q=some s'){vx vy}(hx:aH F w G s.rg vx p)(hy:aH F w G s.rg vy q):
  ∃v w' G',(Instr.makeSlice t vx vy).run Q w= .ok v w'/\aC Q T F G' w' (a.put dst v) s'/\Ext (Own G s.rg) (Own G' s'.rg) F F w w':=by
 unfold uk at hs;split at hs
 next e k1 l k2 c het=>
  have ht:=dM het;split at hs
  next i k z hi hk hz=>
   obtain⟨i',_,zQ,_,gf⟩:=gN hk;rw[hi] at zQ;cases zQ;obtain⟨zv,NI,Sx,hzs⟩:=o9 hi hz;split at hs
   ·rename_i fy;simp only[zac,zah] at fy;obtain⟨Dy,h0,KR,h63,hb⟩:=fy;have Dy:z.cells.length=k+1:=by simpa using Dy
    split at hs
    ·rename_i s1 v hn;cases hx with
     |d hx=>
      cases hx;cases hy with
      |d hy=>
       cases hy;have hr:=run_make (P:=Q) w t e i zv ht hi NI k1 k2 l c h0 KR hb h63;have hle:l.toNat<=c.toNat:=by omega
       obtain⟨h1,h2,h3,h4⟩:=nE h hn (g1:= .slice (some ⟨w.heap.size,0,none⟩) l.toNat c.toNat) (w':=w.alloc (.cells (madeCells zv.cells (c.toNat*i.size)) e))
        (λb hb=>heap_alloc_old w _ b hb) (by simp) rfl rfl rfl (λb hb=>by simp[bB,aO] at hb;omega)
        (.inr ⟨w.heap.size,c.toNat,madeCells zv.cells (c.toNat*i.size),k+1,by rw[bc,zbD],heap_alloc_new w _,hk,by omega,by rw[zbD];exact hle,by simp only[maxLen];omega,
         by rw[size_madeCells,gf],by simp,rz (aY.vQ _ _ Sx) Dy (by simp_all [zar])⟩)
       obtain⟨c1,c2⟩:=cy h1 hs (v:= .slice (some ⟨w.heap.size,0,none⟩) l.toNat c.toNat) (cE.of (.sl (site dst) v l.toNat _ rfl ⟨_,h4,zal _,λ_ _=>⟨_,l.toNat,c.toNat,bc _ _ _,rfl,zal _⟩⟩));grind
    cases hs
   cases hs
  cases hs
 cases hs
theorem n5.set{F w cs k i}{es x v}(hE:n5 F w cs k es)(dS:cs.size=es.length*k)(hi:i<es.length)(hx:aY F w v x)(hl:x.cells.length=k):
  ((v.cells.toList.zipIdx 0).foldl (λcs x=>cs.setIfInBounds (i*k+x.2) x.1) cs).size=(es.set i x).length*k/\
  n5 F w ((v.cells.toList.zipIdx 0).foldl (λcs x=>cs.setIfInBounds (i*k+x.2) x.1) cs) k (es.set i x):=by
 obtain⟨c1,c2,c3⟩:=eB hx;have hle:i*k+k<=es.length*k:=by
  calc i*k+k=(i+1)*k:=by rw[za2,zbB]
   _<=es.length*k:=zar _ hi
 obtain⟨h1,h2⟩:=E7 (i*k) v.cells.toList 0 cs (by omega);refine⟨by rw[h1,dS,zbp],λi' y hy=> ?_⟩;by_cases he:i=i'
 ·grind
 rw[zbc he] at hy;obtain⟨g1,g2,g3⟩:=hE i' y hy;refine⟨g1,g2,λj c hc=> ?_⟩;have hj:j<k:=by have:=(zae.1 hc).1;omega
 have bI: ¬(i*k+0<=i'*k+j/\i'*k+j<i*k+0+v.cells.toList.length):=by
  rcases zcw he with h |h
  ·have:(i+1)*k<=i'*k:=zar _ h;rw[za2,zbB] at this;omega
  have:(i'+1)*k<=i*k:=zar _ h;rw[za2,zbB] at this;omega
 grind
theorem qK{t k}(hk:0<k): ∀ps vs s s' es dh F cs,aC Q T F G w a s->cY Q t k s es ps=some (s',dh)->
  vs.length=ps.length->(∀(i:Nat) x y,vs[i]?=some x->ps[i]?=some y->x.1=y.1/\aH F w G s.rg x.2 y.2)->cs.size=es.length*k->n5 F w cs k es->
  ∃F' mA,aC Q T F' G w a s'/\Ext (Own G s.rg) (Own G s'.rg) F F' w w/\dh.length=es.length/\mA.size=dh.length*k/\n5 F' w mA k dh/\Instr.fill (λi=>some (i*k,k)) cs vs=some mA
 | [],vs,s,s',es,dh,F,cs,h,hb,hl,_,dS,hE=>by
  obtain⟨rfl,rfl⟩:=hb;have:vs=[]:=by grind
  subst this;exact⟨F,cs,h,Ext.refl _ _ _,rfl,dS,hE,rfl⟩
 | (i,p)::ps,[],s,s',es,dh,F,cs,h,hb,hl,_,dS,hE=>by simp at hl
 | (i,p)::ps,(i0,v)::vs,s,s',es,dh,F,cs,h,hb,hl,hv,dS,hE=>by
  simp only[cY] at hb;split at hb
  next s1 x hf=>
   split at hb
   ·rename_i hc;simp only[zac] at hc;have hxl:x.cells.length=k:=by simpa using hc.1
    have hi:i<es.length:=by simp_all
    obtain⟨e0,hp⟩:=hv 0 (i0,v) (i,p) rfl rfl;subst e0;obtain⟨F1,g1,g2,g3,g4,g5⟩:=yF h hf hp;have hE1:n5 F1 w cs k es:=hE.mono g4 (λ_ _=>rfl);obtain⟨m1,m2⟩:=hE1.set dS hi g5 hxl;obtain⟨F2,cs2,k1,k2,k3,k4,k5,k6⟩:=qK hk ps vs s1 s' _ dh F1 _ g1 hb (by grind) (λj x y hx hy=>by obtain⟨q1,q2⟩:=hv (j+1) x y (by grind) (by grind);exact⟨q1,q2.mono g4 (λ_ _=>rfl) g3⟩) m1 m2;refine⟨F2,cs2,k1,g2.trans k2,by rw[k3,zbp],k4,k5,?_⟩;have Hj:v.cells.size=k:=by have:=(eB g5).1;grind
    have hle:i0*k+k<=cs.size:=by
     rw[dS]
     calc i0*k+k=(i0+1)*k:=by rw[za2,zbB]
      _<=es.length*k:=zar _ hi
    have fy:(decide (v.cells.size≠k)||decide (i0*k+v.cells.size>cs.size))=false:=by simp;omega
    simp only[Instr.fill,fy,zaE,zbn];rw[<-k6];congr 1;rw[<-zc7];simp
   cases hb
  cases hb
theorem Qw(h:aC Q T F G w a s){dst t len ps}{s'}(hs:sX Q s dst t len ps=some s'){vs}(hl:vs.toList.length=ps.length)
  (hv: ∀(i:Nat) x y,vs.toList[i]?=some x->ps[i]?=some y->x.1=y.1/\aH F w G s.rg x.2 y.2):
  ∃v w' F' G',(Instr.buildSlice t len vs).run Q w= .ok v w'/\aC Q T F' G' w' (a.put dst v) s'/\Ext (Own G s.rg) (Own G' s'.rg) F F' w w':=by
 unfold sX at hs;split at hs
 next e het=>
  have ht:=dM het;split at hs
  next i k z hi hk hz=>
   obtain⟨i',_,zQ,_,gf⟩:=gN hk;rw[hi] at zQ;cases zQ;obtain⟨zv,NI,Sx,hzs⟩:=o9 hi hz;split at hs
   ·rename_i fy;simp only[zac] at fy;obtain⟨⟨Dy,Ue⟩,Ff⟩:=fy;have Dy:z.cells.length=k+1:=by simpa using Dy
    have Ue:len*(k+1)<=16777216:=zbL Ue;split at hs
    ·rename_i s1 es hbe;split at hs
     ·rename_i s2 aV hn;have qfw: ∃LJ:Array Value,LJ.size=(List.replicate len z).length*(k+1)/\n5 F w LJ (k+1) (List.replicate len z)/\((len*(k+1)=0/\LJ= #[])\/(len*(k+1)≠0/\LJ=madeCells zv.cells (len*(k+1)))):=by
       by_cases h0:len*(k+1)=0
       ·have:len=0:=by grind
        subst this;exact⟨#[],by simp,λi x hx=>by simp at hx,.inl ⟨h0,rfl⟩⟩
       exact⟨madeCells zv.cells (len*(k+1)),by rw[size_madeCells,zbD],rz (aY.vQ _ _ Sx) Dy (zal _),.inr ⟨h0,rfl⟩⟩
      obtain⟨LJ,q1,q2,q3⟩:=qfw;obtain⟨F1,Hf,g1,g2,g3,g4,g5,g6⟩:=qK (by omega) ps vs.toList s s1 _ es F LJ h hbe hl hv q1 q2;have hlen:es.length=len:=by rw[g3,zbD]
      obtain⟨h1,h2,h3,h4⟩:=nE g1 hn (g1:= .slice (some ⟨w.heap.size,0,none⟩) len len) (w':=w.alloc (.cells Hf e))
       (λb hb=>heap_alloc_old w _ b hb) (by simp) rfl rfl rfl (λb hb=>by simp[bB,aO] at hb;omega)
       (.inr ⟨w.heap.size,len,Hf,k+1,by rw[bc,hlen],heap_alloc_new w _,hk,by omega,by omega,by simp only[maxLen];have:len<=len*(k+1):=Nat.le_mul_of_pos_right _ (by omega);omega,
        by rw[g4,hlen],by simp,g5.mono (λ_ h=>h) (λb hb=>heap_alloc_old w _ b (g1.jE b hb))⟩)
      obtain⟨c1,c2⟩:=cy h1 hs (v:= .slice (some ⟨w.heap.size,0,none⟩) len len) (cE.of (.sl (site dst) aV len _ rfl ⟨_,h4,zal _,λ_ _=>⟨_,len,len,bc _ _ _,rfl,zal _⟩⟩));refine⟨_,_,_,_,?_,c1,?_⟩
      ·have dS:(Go.sizeOf e).run Q w= .ok (k+1) w:=run_sizeOf hk w;unfold Instr.buildSlice;simp only[Sem.run_bind,run_underlying ht,Result.andThen_ok,dS];rw[zan (by omega)];rcases q3 with⟨h0,rfl⟩| ⟨h0,rfl⟩
       ·have e0:((Array.range (len*(k+1))).map λx=>(#[]:Array Value)[x%(#[]:Array Value).size]!)= #[]:=by rw[h0];simp
        rw[zap h0];simp only[Sem.run_bind,Sem.run_pure,Result.andThen_ok];rw[e0,g6];rfl
       have e0:((Array.range (len*(k+1))).map λx=>zv.cells[x%zv.cells.size]!)=madeCells zv.cells (len*(k+1)):=rfl;rw[zan h0];have Dt:(zeroValue e).run Q w= .ok zv w:=by simp[zeroValue,typeInfo,hi,NI]
       simp only[Sem.run_bind,Sem.run_pure,Result.andThen_ok,Dt];rw[e0,g6];rfl
      rw[c2];exact g2.trans h2
     cases hs
    cases hs
   cases hs
  cases hs
 cases hs
theorem sw{t k}: ∀ps es dh,rn Q t k es ps=some dh-> ∀s,cY Q t k s es ps=some (s,dh)
 | [],es,dh,h,s=>by simp only[rn,zam] at h;subst h;rfl
 | (i,.d x)::r,es,dh,h,s=>by
  have e:oW Q s t (.d x)=some (s,nzE Q t x):=by
   unfold oW nzE;cases sg Q t with
   |false=>rfl
   |true=>show(nzD Q t x).force (λy=>some (s,y))=_;rw[D.force_eq]
  simp only[rn] at h;split at h
  next hc=>simp only[cY,e,zap hc];exact sw r _ _ h s
  cases h
 | (_,.agg _)::_,_,_,h,_ | (_,.dz _)::_,_,_,h,_ | (_,.ref ..)::_,_,_,h,_ | (_,.dJ ..)::_,_,_,h,_ | (_,.fh ..)::_,_,_,h,_ | (_,.sl ..)::_,_,_,h,_ | (_,.mG ..)::_,_,_,h,_ | (_,.mp ..)::_,_,_,h,_ | (_,.fn ..)::_,_,_,h,_ | (_,.bad)::_,_,_,h,_ | (_,.when ..)::_,_,_,h,_=>by simp[rn] at h
theorem aC.grow(h:aC Q T F G w a s) cs e:aC Q T (λb=>F b\/b=w.heap.size) G (w.alloc (.cells cs e)) a s/\Ext (Own G s.rg) (Own G s.rg) F (λb=>F b\/b=w.heap.size) w (w.alloc (.cells cs e)):=by
 have hk: ∀b,b<w.heap.size->(w.alloc (.cells cs e)).heap[b]?=w.heap[b]?:=λb hb=>heap_alloc_old w _ b hb;have dS:(w.alloc (.cells cs e)).heap.size=w.heap.size+1:=by simp
 have hx:Ext (Own G s.rg) (Own G s.rg) F (λb=>F b\/b=w.heap.size) w (w.alloc (.cells cs e)):=
  ⟨λ_=> .inl,λb hb=>hb.elim .inl λe=> .inr (.inr (by omega)),λ_=> .inl,λb hb _=>hk b hb,by omega,rfl,rfl,rfl⟩
 refine⟨⟨h.s7.go hx,h.size,λt p hp=>cE.mono (λ_=> .inl) (λb hb=>hk b (h.jE b hb)) (Names.refl _ _) (h.tm t p hp),λn e he=>(h.rg n e he).mono (λ_=> .inl) (λb hb=>hk b (h.jE b hb)) (Names.refl _ _) rfl (λb hb=>hk b ((h.rg n e he).lt hb)),h.own,
  λn e b he hb hf=>hf.elim (h.nA n e b he hb) λe'=> ?_,λb hb=> ?_,h.tag,λb hb=>⟨.inl (h.z b hb).1,(hk b (h.jE b (h.z b hb).1)).trans (h.z b hb).2⟩,h.dr,zaL h.sz hx.size⟩,hx⟩
 ·have:=(h.rg n e he).lt hb;omega
 rcases hb with hb |hb
 ·have:=h.jE b hb;omega
 omega
theorem Uf(h:aC Q T F G w a s){t len ps p}(hs:De Q t len ps=some p){vs}(hl:vs.toList.length=ps.length)
  (hv: ∀(i:Nat) x y,vs.toList[i]?=some x->ps[i]?=some y->x.1=y.1/\aH F w G s.rg x.2 y.2):
  ∃v w' F',(Instr.buildSlice t len vs).run Q w= .ok v w'/\aC Q T F' G w' a s/\aH F' w' G s.rg v p/\Ext (Own G s.rg) (Own G s.rg) F F' w w':=by
 unfold De at hs;split at hs
 next e het=>
  have ht:=dM het;split at hs
  next i k z hi hk hz=>
   obtain⟨i',_,zQ,_,gf⟩:=gN hk;rw[hi] at zQ;cases zQ;obtain⟨zv,NI,Sx,hzs⟩:=o9 hi hz;split at hs
   ·rename_i fy;simp only[zac] at fy;obtain⟨⟨Dy,Ue⟩,Ff⟩:=fy;have Dy:z.cells.length=k+1:=by simpa using Dy
    have Ue:len*(k+1)<=16777216:=zbL Ue;split at hs
    ·rename_i es hde;cases hs;have hbe:=sw _ _ _ hde s;have qfw: ∃LJ:Array Value,LJ.size=(List.replicate len z).length*(k+1)/\n5 F w LJ (k+1) (List.replicate len z)/\((len*(k+1)=0/\LJ= #[])\/(len*(k+1)≠0/\LJ=madeCells zv.cells (len*(k+1)))):=by
      by_cases h0:len*(k+1)=0
      ·have:len=0:=by grind
       subst this;exact⟨#[],by simp,λi x hx=>by simp at hx,.inl ⟨h0,rfl⟩⟩
      exact⟨madeCells zv.cells (len*(k+1)),by rw[size_madeCells,zbD],rz (aY.vQ _ _ Sx) Dy (zal _),.inr ⟨h0,rfl⟩⟩
     obtain⟨LJ,q1,q2,q3⟩:=qfw;obtain⟨F1,Hf,g1,g2,g3,g4,g5,g6⟩:=qK (by omega) ps vs.toList s s _ es F LJ h hbe hl hv q1 q2;have hlen:es.length=len:=by rw[g3,zbD]
     obtain⟨h1,h2⟩:=g1.grow Hf e;have hE:n5 (λb=>F1 b\/b=w.heap.size) (w.alloc (.cells Hf e)) Hf (k+1) es:=g5.mono (λ_=> .inl) (λb hb=>heap_alloc_old w _ b (g1.jE b hb));refine⟨.slice (some ⟨w.heap.size,0,none⟩) len len,_,_,?_,h1,?_,g2.trans h2⟩
     ·have dS:(Go.sizeOf e).run Q w= .ok (k+1) w:=run_sizeOf hk w;unfold Instr.buildSlice;simp only[Sem.run_bind,run_underlying ht,Result.andThen_ok,dS];rw[zan (by omega)];rcases q3 with⟨h0,rfl⟩| ⟨h0,rfl⟩
      ·have e0:((Array.range (len*(k+1))).map λx=>(#[]:Array Value)[x%(#[]:Array Value).size]!)= #[]:=by rw[h0];simp
       rw[zap h0];simp only[Sem.run_bind,Sem.run_pure,Result.andThen_ok];rw[e0,g6];rfl
      have e0:((Array.range (len*(k+1))).map λx=>zv.cells[x%zv.cells.size]!)=madeCells zv.cells (len*(k+1)):=rfl;rw[zan h0];have Dt:(zeroValue e).run Q w= .ok zv w:=by simp[zeroValue,typeInfo,hi,NI]
      simp only[Sem.run_bind,Sem.run_pure,Result.andThen_ok,Dt];rw[e0,g6];rfl
     refine .d ?_;have cm: ∀j,j<es.length*(k+1)->(w.alloc (.cells Hf e)).cell? ⟨w.heap.size,0+j,none⟩=some (Hf.getD j undef):=λj hj=>by simp_all
     have:=aY.Sv (F:=λb=>F1 b\/b=w.heap.size) (w:=w.alloc (.cells Hf e)) w.heap.size 0 (k+1) len es (λj=>Hf.getD j undef) (by omega) (.inr rfl)
      (λx hx=>by obtain⟨i,hi,rfl⟩:=zaQ hx;exact(hE i _ (zad hi)).1) (λx hx=>by obtain⟨i,hi,rfl⟩:=zaQ hx;exact(hE i _ (zad hi)).2.1) cm (λi j x c hx hc=>(hE i x hx).2.2 j c hc)
     rwa [hlen] at this
    cases hs
   cases hs
  cases hs
 cases hs
theorem Fh{t tx ty e i}(ht:Q.underlying t=some (.slice e))(hi:Q.info? e=some i){b dLen dCap cur}(hg:w.heap[b]?=some (.cells cur e (0,0))){x n news}(hs:Src Q i.size tx x n news w)
  (hn:n<=dLen) (H9:news.length<=cur.size):
  (Builtin.copy_ #[t,tx] ty #[.slice (some ⟨b,0,none⟩) dLen dCap,x]).run Q w= .ok (goInt n) (w.setRow b (news++cur.toList.drop news.length).toArray):=by
 have kH:=run_storeCells_at Q b 0 e news 0 cur w hg (by grind) hs.one;have hm:Nat.min n dLen=n:=zcv hn;simp[Builtin.copy_,run_underlying ht,Go.sizeOf,typeInfo,hi,hs.len,hm,hs.cells,kH]
theorem run_copy_none{t tx ty e i}(ht:Q.underlying t=some (.slice e))(hi:Q.info? e=some i){dLen dCap x}(hs:Src Q i.size tx x 0 [] w):
  (Builtin.copy_ #[t,tx] ty #[.slice none dLen dCap,x]).run Q w= .ok (goInt 0) w:=by
 have hm:Nat.min 0 dLen=0:=Nat.zero_min _;simp[Builtin.copy_,run_underlying ht,Go.sizeOf,typeInfo,hi,hs.len,hm,hs.cells]
theorem Ug(h:aC Q T F G w a s){dst t t2 ty p q s'}(hs:um Q s dst t t2 p q=some s'){vx vy}(hx:aH F w G s.rg vx p)(hy:aH F w G s.rg vy q):
  ∃v w' G',(Builtin.copy_ #[t,t2] ty #[vx,vy]).run Q w= .ok v w'/\aC Q T F G' w' (a.put dst v) s'/\Ext (Own G s.rg) (Own G' s'.rg) F F w w':=by
 unfold um at hs;split at hs
 next e n aV len het=>
  have ht:=dM het;split at hs
  next k hk=>
   obtain⟨i,_,hi,_,gf⟩:=gN hk;split at hs
   ·rename_i ys ty' es hys ho;split at hs
    ·rename_i hc;simp only[zac,zah] at hc;obtain⟨Lx,hle,hyl⟩:=hc;have Lx:ty'=e:=by simpa using Lx
     subst Lx;obtain⟨en,lJ,eb,b8⟩:=S.bM ho;obtain⟨news,Cv,gC⟩:=Fg h (by omega) hys hy;have qdL:Src Q i.size t2 vy ys.length news w:=by rw[gf];exact Cv
     rw[S.fA lJ] at hs;have fV:qF G s.rg n ⟨en.aV,en.tag,.arr ty' false (ys++es.drop ys.length)⟩ (G n):=λe' cR=>by rw[lJ] at cR;cases cR;exact .inr ⟨rfl,λ_=>⟨by rw[b8];rfl,rfl⟩⟩
     have fin: ∀(w':World) (v:Value),(Builtin.copy_ #[t,t2] ty #[vx,vy]).run Q w= .ok v w'->v= .int .i64 ys.length->(∀b,b<w.heap.size-> ¬(∃e,lk s.rg n=some e/\bB (G n) e.obj=some b)->w'.heap[b]?=w.heap[b]?)->
       w.heap.size<=w'.heap.size->w'.os=w.os->w'.tape=w.tape->w'.output=w.output->pZ Q F w' G (ins n ⟨en.aV,en.tag,.arr ty' false (ys++es.drop ys.length)⟩ s.rg) n (.arr ty' false (ys++es.drop ys.length))->
       ∃v w' G',(Builtin.copy_ #[t,t2] ty #[vx,vy]).run Q w= .ok v w'/\aC Q T F G' w' (a.put dst v) s'/\Ext (Own G s.rg) (Own G' s'.rg) F F w w':=by
      intro w' v ca hv eU dS T0 htp bw Ib;obtain⟨d1,d2⟩:=h.od (n:=n) (e1:=⟨en.aV,en.tag,.arr ty' false (ys++es.drop ys.length)⟩) (g1:=G n) (w':=w') (hdr:=rv _ ca) fV eU dS T0 htp bw
       (λb hb=> .inr ⟨en,lJ,by rw[b8];exact hb⟩) (by rw[bV];exact Ib) (λi zQ _=>h.tag n en i lJ zQ (by rw[b8];rfl))
      obtain⟨c1,c2⟩:=cy d1 hs (v:= .int .i64 ys.length) (cE.of (.d (.int .i64 ys.length)));grind
     have hO:=h.rg n en lJ;rw[b8] at hO;cases hx with
     |sl _ _ _ _ h1 hr=>
      obtain⟨a0,N,cap,hG,rfl,qnc⟩:=hr.at lJ eb (by rw[b8];rfl);rcases hO with⟨hg,rfl⟩| ⟨b,jl,cs,k',hg,hh,iB,qao,KR,BR,dS,_,hE⟩
      ·rw[hG] at hg;obtain⟨rfl,rfl,rfl⟩:=hg;have h0:ys=[]:=zaB (by omega);subst h0;have hn0:news=[]:=by have:=gC.1;simpa using this
       subst hn0;exact fin w _ (run_copy_none ht hi qdL) rfl (λ_ _ _=>rfl) (zal _) rfl rfl rfl (.inl ⟨hG,by simp⟩)
      rw[hk] at iB;cases iB;rw[hG] at hg;obtain⟨rfl,rfl,rfl⟩:=hg;have qai:ys.length<=es.length:=by omega
      have vL:news.length=ys.length*(k+1):=gC.1;have H9:news.length<=cs.size:=by rw[vL,dS];exact zar _ (by omega)
      have ca:=Fh (ty:=ty) (dLen:=len) (dCap:=cap) ht hi hh qdL hyl H9;have uA:(ys++es.drop ys.length).length=es.length:=by rw[zaj,zbk];omega
      have fB:bB (G n) en.obj=some b:=by rw[b8,hG];rfl
      have hnF: ¬F b:=h.nA n en b lJ fB;have hkF: ∀c,F c->(w.setRow b (news++cs.toList.drop news.length).toArray).heap[c]?=w.heap[c]?:=λc hc=>setRow_other w b c _ (λe=>hnF (e▸hc));refine fin _ _ ca rfl (λc _ bI=>setRow_other w b c _ (λe'=>bI ⟨en,lJ,by rw[e'];exact fB⟩)) (by simp) rfl rfl rfl
       (.inr ⟨b,cap,_,k+1,by rw[uA];exact hG,setRow_heap w b cs _ ty' _ hh,hk,by omega,by rw[uA];exact KR,BR,?_,by simp,?_⟩)
      ·skip
       grind
      refine eG.toE ?_;rw[uA];have hf:=(eG.take hE (zal _) (by simp_all [zar])).drop ys.length;rw[zai] at hf;have e1:((news++cs.toList.drop news.length).toArray.toList.take (es.length*(k+1)))=news++(cs.toList.take (es.length*(k+1))).drop (ys.length*(k+1)):=by rw[List.take_append,zak (by simp_all [zar]),vL,zc4]
      rw[e1];exact(gC.append hf).mono (λ_ h=>h) hkF
     |_=>rename_i hd;cases hd
    cases hs
   cases hs
  cases hs
 cases hs
theorem Qx{F w z zv}{k l}(hz:aY F w zv z)(hl:z.cells.length=k):eG F w k (List.replicate l z) (Builtin.zeroCells zv.cells l).toList:=by
 obtain⟨c1,c2,c3⟩:=eB hz;have hs:zv.cells.size=k:=by rw[<-hl,<-c1];simp
 have hE:=rz (l:=l) (n:=l*k) hz hl (zal _);have dS:(madeCells zv.cells (l*k)).size=l*k:=by simp[size_madeCells]
 have hf:=eG.take (len:=l) hE (by simp) (by rw[zbD,dS];simp);have e1:(List.replicate l z).take l=List.replicate l z:=zak (by simp);have e2:(Builtin.zeroCells zv.cells l).toList=(madeCells zv.cells (l*k)).toList.take (l*k):=by rw[zak (by grind)];unfold Builtin.zeroCells madeCells;rw[hs]
 rw[e1] at hf;rw[e2];exact hf
theorem Qy(h:aC Q T F G w a s){dst t ty p s'}(hs:oX Q s dst t p=some s'){vx}(hx:aH F w G s.rg vx p):
  ∃v w' G',(Builtin.clear_ #[t] ty #[vx]).run Q w= .ok v w'/\aC Q T F G' w' (a.put dst v) s'/\Ext (Own G s.rg) (Own G' s'.rg) F F w w':=by
 unfold oX at hs;split at hs
 next e n aV k0 off len het=>
  have ht:=dM het;split at hs
  next k z ty' es hk hz ho=>
   obtain⟨i,_,hi,_,gf⟩:=gN hk;split at hs
   ·rename_i hc;simp only[zac,zah] at hc;obtain⟨⟨⟨Lx,kj⟩,Dy⟩,qfx⟩:=hc;have Lx:ty'=e:=zag Lx;have kj:k0=k+1:=zag kj;have Dy:z.cells.length=k+1:=zag Dy;subst Lx kj;obtain⟨en,lJ,eb,b8⟩:=S.bM ho;obtain⟨zv,Dt,E5⟩:=qC hz w;rw[S.fA lJ] at hs;generalize qfy:es.take off++List.replicate len z++es.drop (off+len)=dh at hs;have uA:dh.length=es.length:=by rw[<-qfy];simp;omega
    have fV:qF G s.rg n ⟨en.aV,en.tag,.arr ty' false dh⟩ (G n):=λe' cR=>by rw[lJ] at cR;cases cR;exact .inr ⟨rfl,λ_=>⟨by rw[b8];rfl,rfl⟩⟩
    have fin: ∀(w':World),(Builtin.clear_ #[t] ty #[vx]).run Q w= .ok (.tuple #[]) w'->(∀b,b<w.heap.size-> ¬(∃e,lk s.rg n=some e/\bB (G n) e.obj=some b)->w'.heap[b]?=w.heap[b]?)->
      w.heap.size<=w'.heap.size->w'.os=w.os->w'.tape=w.tape->w'.output=w.output->pZ Q F w' G (ins n ⟨en.aV,en.tag,.arr ty' false dh⟩ s.rg) n (.arr ty' false dh)->
      ∃v w' G',(Builtin.clear_ #[t] ty #[vx]).run Q w= .ok v w'/\aC Q T F G' w' (a.put dst v) s'/\Ext (Own G s.rg) (Own G' s'.rg) F F w w':=by
     intro w' ca eU dS T0 htp bw Ib;obtain⟨d1,d2⟩:=h.od (n:=n) (e1:=⟨en.aV,en.tag,.arr ty' false dh⟩) (g1:=G n) (w':=w') (hdr:=rv _ ca) fV eU dS T0 htp bw
      (λb hb=> .inr ⟨en,lJ,by rw[b8];exact hb⟩) (by rw[bV];exact Ib) (λi zQ _=>h.tag n en i lJ zQ (by rw[b8];rfl))
     obtain⟨c1,c2⟩:=cy d1 hs (v:= .tuple #[]) (cE.of (.bad _));grind
    have hO:=h.rg n en lJ;rw[b8] at hO;cases hx with
    |mG _ _ _ _ _ _ h1 hr=>
     obtain⟨a0,N,cap,hG,hle,a1,rW,rfl,TN,hzz⟩:=hr.at lJ eb (by rw[b8];rfl);by_cases h0:len=0
     ·subst h0;have e0:dh=es:=by rw[<-qfy];simp
      subst e0;refine fin w ?_ (λ_ _ _=>rfl) (zal _) rfl rfl rfl ?_
      ·cases a1<;>simp[Builtin.clear_,run_underlying ht]
      exact hO
     obtain⟨b0,ha0,TO⟩: ∃b,a0=some ⟨b,0,none⟩/\a1=some ⟨b,off*(k+1),none⟩:=by grind
     subst ha0 TO;rcases hO with⟨hg,rfl⟩| ⟨b,jl,cs,k',hg,hh,iB,qao,KR,BR,dS,_,hE⟩
     ·rw[hG] at hg;simp at hg
     rw[hk] at iB;cases iB;rw[hG] at hg;obtain⟨rfl,rfl,rfl⟩:=hg;have H8:=Qx (l:=len) E5 Dy;have vL:(Builtin.zeroCells zv.cells len).toList.length=len*(k+1):=by have:=H8.1;grind
     have hole:off*(k+1)+len*(k+1)<=es.length*(k+1):=by rw[<-za2];simp_all [zar]
     have qoT:es.length*(k+1)<=cs.size:=by simp_all [zar]
     have kH:=run_storeCells_at Q b0 (off*(k+1)) ty' (Builtin.zeroCells zv.cells len).toList 0 cs w hh (by omega) (H8.one (by omega));simp only[zb1,vL] at kH;have ca:(Builtin.clear_ #[t] ty #[.slice (some ⟨b0,off*(k+1),none⟩) len rW]).run Q w= .ok (.tuple #[]) (w.setRow b0 (cs.toList.take (off*(k+1))++(Builtin.zeroCells zv.cells len).toList++cs.toList.drop (off*(k+1)+len*(k+1))).toArray):=by simp[Builtin.clear_,run_underlying ht,Dt,kH]
     have fB:bB (G n) en.obj=some b0:=by rw[b8,hG];rfl
     have hnF: ¬F b0:=h.nA n en b0 lJ fB;have hkF: ∀c,F c->(w.setRow b0 (cs.toList.take (off*(k+1))++(Builtin.zeroCells zv.cells len).toList++cs.toList.drop (off*(k+1)+len*(k+1))).toArray).heap[c]?=w.heap[c]?:=λc hc=>setRow_other w b0 c _ (λe=>hnF (e▸hc));refine fin _ ca (λc _ bI=>setRow_other w b0 c _ (λe'=>bI ⟨en,lJ,by rw[e'];exact fB⟩)) (by simp) rfl rfl rfl
      (.inr ⟨b0,cap,_,k+1,by rw[uA];exact hG,setRow_heap w b0 cs _ ty' _ hh,hk,by omega,by rw[uA];exact KR,BR,?_,by simp,?_⟩)
     ·skip
      grind
     refine eG.toE ?_;rw[uA,<-qfy];have f1:=eG.take (len:=off) hE (by omega) (by grind);have f3:=(eG.take hE (zal _) (by grind)).drop (off+len);rw[zai] at f3;have e1:((cs.toList.take (off*(k+1))++(Builtin.zeroCells zv.cells len).toList++cs.toList.drop (off*(k+1)+len*(k+1))).toArray.toList.take (es.length*(k+1)))=cs.toList.take (off*(k+1))++(Builtin.zeroCells zv.cells len).toList++(cs.toList.take (es.length*(k+1))).drop ((off+len)*(k+1)):=by
      have l1:(cs.toList.take (off*(k+1))).length=off*(k+1):=by simp;omega
      rw[List.take_append,zak (by rw[zaj,l1,vL];exact hole),zaj,l1,vL,zc4,za2]
     rw[e1];exact((f1.append H8).append f3).mono (λ_ h=>h) hkF
    |_=>rename_i hd;cases hd
   cases hs
  cases hs
 cases hs
end
end Pi
