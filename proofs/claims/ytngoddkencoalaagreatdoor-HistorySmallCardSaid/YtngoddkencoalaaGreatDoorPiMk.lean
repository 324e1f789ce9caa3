/- The text PiMk. -/
import Derived.Test.YtngoddkencoalaaGreatDoorPiEfOk4
import Derived.Laws.MakeOwn
namespace Pi
open Go
section
variable{Q:Program}{T:Tg}{F:Nat->Prop}{G:Nat->Value}{w:World}{a:Act}{s:S}
theorem Qy{zc:Array Value}{n k i j:Nat}(hk:zc.size=k)(hj:j<k)(hn:i*k+j<n):(madeCells zc n).getD (i*k+j) undef=zc.getD j undef:=by
 have e:(i*k+j)%zc.size=j:=by rw[hk,zcb,Nat.mul_add_mod,Nat.mod_eq_of_lt hj]
 have KX:j<zc.size:=by omega
 simp[madeCells,Array.getD,hn,e,KX]
theorem qH{F:Nat->Prop}{w:World}{z:D}{zv:Value}{k l n:Nat}(hz:bc F w zv z)(hl:z.cells.length=k)(hn:l*k<=n):ni F w (madeCells zv.cells n) k (List.replicate l z):=by
 obtain⟨c1,c2,c3⟩:=eu hz;have hs:zv.cells.size=k:=by rw[<-hl,<-c1];simp
 intro i x hx;rw[List.getElem?_replicate] at hx;split at hx
 next hi=>
  cases hx;refine⟨hl,c2,λj c hc=> ?_⟩;have hj:j<k:=by have:=(zad.1 hc).1;omega
  have bG:i*k+j<n:=by
   calc i*k+j<i*k+k:=by omega
    _=(i+1)*k:=by rw[zaV,zbs]
    _<=l*k:=zaq _ hi
    _<=n:=hn
  rw[Qy hs hj bG];exact c3 j _ c (by simp_all) hc
 cases hx
theorem Qz(h:aG Q T F G w a s){dst:Option Nat}{t:TypeId}{p q:P}{s':S}(hs:tj Q s dst t p q=some s'){vx vy:Value}(hx:aH F w G s.rg vx p)(hy:aH F w G s.rg vy q):
  ∃v w' G',(Instr.makeSlice t vx vy).run Q w= .ok v w'/\aG Q T F G' w' (a.put dst v) s'/\Ext (Own G s.rg) (Own G' s'.rg) F F w w':=by
 unfold tj at hs;split at hs
 next e k1 l k2 c het=>
  have ht:=dL het;split at hs
  next i k z hi hk hz=>
   obtain⟨i',_,yc,_,fR⟩:=gA hk;rw[hi] at yc;cases yc;obtain⟨zv,KM,O2,hzs⟩:=n9 hi hz;split at hs
   ·rename_i fq;simp only[zab,zai] at fq;obtain⟨Bz,h0,HK,h63,hb⟩:=fq;have Bz:z.cells.length=k+1:=by simpa using Bz
    split at hs
    ·rename_i s1 v hn;cases hx with
     |d hx=>
      cases hx;cases hy with
      |d hy=>
       cases hy;have hr:=run_make (P:=Q) w t e i zv ht hi KM k1 k2 l c h0 HK hb h63;have hle:l.toNat<=c.toNat:=by omega
       obtain⟨h1,h2,h3,h4⟩:=mJ h hn (g1:= .slice (some ⟨w.heap.size,0,none⟩) l.toNat c.toNat) (w':=w.alloc (.cells (madeCells zv.cells (c.toNat*i.size)) e))
        (λb hb=>heap_alloc_old w _ b hb) (by simp) rfl rfl rfl (λb hb=>by simp[bL,aR] at hb;omega)
        (.inr ⟨w.heap.size,c.toNat,madeCells zv.cells (c.toNat*i.size),k+1,by rw[bf,zbv],heap_alloc_new w _,hk,by omega,by rw[zbv];exact hle,by simp only[maxLen];omega,
         by rw[size_madeCells,fR],by simp,qH (bc.uK _ _ O2) Bz (by simp_all [zaq])⟩)
       obtain⟨c1,c2⟩:=cD h1 hs (v:= .slice (some ⟨w.heap.size,0,none⟩) l.toNat c.toNat) (cB.of (.sl (site dst) v l.toNat _ rfl ⟨_,h4,zak _,λ_ _=>⟨_,l.toNat,c.toNat,bf _ _ _,rfl,zak _⟩⟩));grind
    cases hs
   cases hs
  cases hs
 cases hs
theorem ni.set{F:Nat->Prop}{w:World}{cs:Array Value}{k i:Nat}{es:List D}{x:D}{v:Value}(hE:ni F w cs k es)(dB:cs.size=es.length*k)(hi:i<es.length)(hx:bc F w v x)(hl:x.cells.length=k):
  ((v.cells.toList.zipIdx 0).foldl (λ(cs:Array Value) (x:Value×Nat)=>cs.setIfInBounds (i*k+x.2) x.1) cs).size=(es.set i x).length*k/\
  ni F w ((v.cells.toList.zipIdx 0).foldl (λ(cs:Array Value) (x:Value×Nat)=>cs.setIfInBounds (i*k+x.2) x.1) cs) k (es.set i x):=by
 obtain⟨c1,c2,c3⟩:=eu hx;have hle:i*k+k<=es.length*k:=by
  calc i*k+k=(i+1)*k:=by rw[zaV,zbs]
   _<=es.length*k:=zaq _ hi
 obtain⟨h1,h2⟩:=CS (i*k) v.cells.toList 0 cs (by omega);refine⟨by rw[h1,dB,zbb],λi' y hy=> ?_⟩;by_cases he:i=i'
 ·grind
 rw[zaR he] at hy;obtain⟨g1,g2,g3⟩:=hE i' y hy;refine⟨g1,g2,λj c hc=> ?_⟩;have hj:j<k:=by have:=(zad.1 hc).1;omega
 have bX: ¬(i*k+0<=i'*k+j/\i'*k+j<i*k+0+v.cells.toList.length):=by
  rcases zcm he with h |h
  ·have:(i+1)*k<=i'*k:=zaq _ h;rw[zaV,zbs] at this;omega
  have:(i'+1)*k<=i*k:=zaq _ h;rw[zaV,zbs] at this;omega
 grind
theorem pO{t:TypeId}{k:Nat}(hk:0<k): ∀(ps:List (Nat×P)) (vs:List (Nat×Value)) (s s':S) (es fH:List D) (F:Nat->Prop) (cs:Array Value),aG Q T F G w a s->cU Q t k s es ps=some (s',fH)->
  vs.length=ps.length->(∀(i:Nat) x y,vs[i]?=some x->ps[i]?=some y->x.1=y.1/\aH F w G s.rg x.2 y.2)->cs.size=es.length*k->ni F w cs k es->
  ∃F' lU,aG Q T F' G w a s'/\Ext (Own G s.rg) (Own G s'.rg) F F' w w/\fH.length=es.length/\lU.size=fH.length*k/\ni F' w lU k fH/\Instr.fill (λi=>some (i*k,k)) cs vs=some lU
 | [],vs,s,s',es,fH,F,cs,h,hb,hl,_,dB,hE=>by
  obtain⟨rfl,rfl⟩:=hb;have:vs=[]:=by grind
  subst this;exact⟨F,cs,h,Ext.refl _ _ _,rfl,dB,hE,rfl⟩
 | (i,p)::ps,[],s,s',es,fH,F,cs,h,hb,hl,_,dB,hE=>by simp at hl
 | (i,p)::ps,(i0,v)::vs,s,s',es,fH,F,cs,h,hb,hl,hv,dB,hE=>by
  simp only[cU] at hb;split at hb
  next s1 x hf=>
   split at hb
   ·rename_i hc;simp only[zab] at hc;have hxl:x.cells.length=k:=by simpa using hc.1
    have hi:i<es.length:=by simp_all
    obtain⟨e0,hp⟩:=hv 0 (i0,v) (i,p) rfl rfl;subst e0;obtain⟨F1,g1,g2,g3,g4,g5⟩:=xh h hf hp;have hE1:ni F1 w cs k es:=hE.mono g4 (λ_ _=>rfl);obtain⟨m1,m2⟩:=hE1.set dB hi g5 hxl;obtain⟨F2,cs2,k1,k2,k3,k4,k5,k6⟩:=pO hk ps vs s1 s' _ fH F1 _ g1 hb (by grind) (λj x y hx hy=>by obtain⟨q1,q2⟩:=hv (j+1) x y (by grind) (by grind);exact⟨q1,q2.mono g4 (λ_ _=>rfl) g3⟩) m1 m2;refine⟨F2,cs2,k1,g2.trans k2,by rw[k3,zbb],k4,k5,?_⟩;have HM:v.cells.size=k:=by have:=(eu g5).1;grind
    have hle:i0*k+k<=cs.size:=by
     rw[dB]
     calc i0*k+k=(i0+1)*k:=by rw[zaV,zbs]
      _<=es.length*k:=zaq _ hi
    have fq:(decide (v.cells.size≠k)||decide (i0*k+v.cells.size>cs.size))=false:=by simp;omega
    simp only[Instr.fill,fq,zaz,zbk];rw[<-k6];congr 1;rw[<-zcP];simp
   cases hb
  cases hb
theorem MQ(h:aG Q T F G w a s){dst:Option Nat}{t:TypeId}{len:Nat}{ps:List (Nat×P)}{s':S}(hs:r5 Q s dst t len ps=some s'){vs:Array (Nat×Value)}(hl:vs.toList.length=ps.length)
  (hv: ∀(i:Nat) x y,vs.toList[i]?=some x->ps[i]?=some y->x.1=y.1/\aH F w G s.rg x.2 y.2):
  ∃v w' F' G',(Instr.buildSlice t len vs).run Q w= .ok v w'/\aG Q T F' G' w' (a.put dst v) s'/\Ext (Own G s.rg) (Own G' s'.rg) F F' w w':=by
 unfold r5 at hs;split at hs
 next e het=>
  have ht:=dL het;split at hs
  next i k z hi hk hz=>
   obtain⟨i',_,yc,_,fR⟩:=gA hk;rw[hi] at yc;cases yc;obtain⟨zv,KM,O2,hzs⟩:=n9 hi hz;split at hs
   ·rename_i fq;simp only[zab] at fq;obtain⟨⟨Bz,QA⟩,C0⟩:=fq;have Bz:z.cells.length=k+1:=by simpa using Bz
    have QA:len*(k+1)<=16777216:=zbJ QA;split at hs
    ·rename_i s1 es hbe;split at hs
     ·rename_i s2 aZ hn;have qcq: ∃II:Array Value,II.size=(List.replicate len z).length*(k+1)/\ni F w II (k+1) (List.replicate len z)/\((len*(k+1)=0/\II= #[])\/(len*(k+1)≠0/\II=madeCells zv.cells (len*(k+1)))):=by
       by_cases h0:len*(k+1)=0
       ·have:len=0:=by grind
        subst this;exact⟨#[],by simp,λi x hx=>by simp at hx,.inl ⟨h0,rfl⟩⟩
       exact⟨madeCells zv.cells (len*(k+1)),by rw[size_madeCells,zbv],qH (bc.uK _ _ O2) Bz (zak _),.inr ⟨h0,rfl⟩⟩
      obtain⟨II,q1,q2,q3⟩:=qcq;obtain⟨F1,ED,g1,g2,g3,g4,g5,g6⟩:=pO (by omega) ps vs.toList s s1 _ es F II h hbe hl hv q1 q2;have hlen:es.length=len:=by rw[g3,zbv]
      obtain⟨h1,h2,h3,h4⟩:=mJ g1 hn (g1:= .slice (some ⟨w.heap.size,0,none⟩) len len) (w':=w.alloc (.cells ED e))
       (λb hb=>heap_alloc_old w _ b hb) (by simp) rfl rfl rfl (λb hb=>by simp[bL,aR] at hb;omega)
       (.inr ⟨w.heap.size,len,ED,k+1,by rw[bf,hlen],heap_alloc_new w _,hk,by omega,by omega,by simp only[maxLen];have:len<=len*(k+1):=Nat.le_mul_of_pos_right _ (by omega);omega,
        by rw[g4,hlen],by simp,g5.mono (λ_ h=>h) (λb hb=>heap_alloc_old w _ b (g1.jz b hb))⟩)
      obtain⟨c1,c2⟩:=cD h1 hs (v:= .slice (some ⟨w.heap.size,0,none⟩) len len) (cB.of (.sl (site dst) aZ len _ rfl ⟨_,h4,zak _,λ_ _=>⟨_,len,len,bf _ _ _,rfl,zak _⟩⟩));refine⟨_,_,_,_,?_,c1,?_⟩
      ·have dB:(Go.sizeOf e).run Q w= .ok (k+1) w:=run_sizeOf hk w;unfold Instr.buildSlice;simp only[Sem.run_bind,run_underlying ht,Result.andThen_ok,dB];rw[zal (by omega)];rcases q3 with⟨h0,rfl⟩| ⟨h0,rfl⟩
       ·have e0:((Array.range (len*(k+1))).map λx=>(#[]:Array Value)[x%(#[]:Array Value).size]!)= #[]:=by rw[h0];simp
        rw[zao h0];simp only[Sem.run_bind,Sem.run_pure,Result.andThen_ok];rw[e0,g6];rfl
       have e0:((Array.range (len*(k+1))).map λx=>zv.cells[x%zv.cells.size]!)=madeCells zv.cells (len*(k+1)):=rfl;rw[zal h0];have Bu:(zeroValue e).run Q w= .ok zv w:=by simp[zeroValue,typeInfo,hi,KM]
       simp only[Sem.run_bind,Sem.run_pure,Result.andThen_ok,Bu];rw[e0,g6];rfl
      rw[c2];exact g2.trans h2
     cases hs
    cases hs
   cases hs
  cases hs
 cases hs
theorem rI{t:TypeId}{k:Nat}: ∀(ps:List (Nat×P)) (es fH:List D),qB Q t k es ps=some fH-> ∀s:S,cU Q t k s es ps=some (s,fH)
 | [],es,fH,h,s=>by simp only[qB,zam] at h;subst h;rfl
 | (i,.d x)::r,es,fH,h,s=>by
  have e:nT Q s t (.d x)=some (s,nzE Q t x):=by
   unfold nT nzE;cases rA Q t with
   |false=>rfl
   |true=>show(nzD Q t x).force (λy=>some (s,y))=_;rw[D.force_eq]
  simp only[qB] at h;split at h
  next hc=>simp only[cU,e,zao hc];exact rI r _ _ h s
  cases h
 | (_,.agg _)::_,_,_,h,_ | (_,.cT _)::_,_,_,h,_ | (_,.ref ..)::_,_,_,h,_ | (_,.dG ..)::_,_,_,h,_ | (_,.fe ..)::_,_,_,h,_ | (_,.sl ..)::_,_,_,h,_ | (_,.l0 ..)::_,_,_,h,_ | (_,.mp ..)::_,_,_,h,_ | (_,.fn ..)::_,_,_,h,_ | (_,.bad)::_,_,_,h,_ | (_,.when ..)::_,_,_,h,_=>by simp[qB] at h
theorem aG.grow(h:aG Q T F G w a s)(cs:Array Value)(e:TypeId):aG Q T (λb=>F b\/b=w.heap.size) G (w.alloc (.cells cs e)) a s/\Ext (Own G s.rg) (Own G s.rg) F (λb=>F b\/b=w.heap.size) w (w.alloc (.cells cs e)):=by
 have hk: ∀b,b<w.heap.size->(w.alloc (.cells cs e)).heap[b]?=w.heap[b]?:=λb hb=>heap_alloc_old w _ b hb;have dB:(w.alloc (.cells cs e)).heap.size=w.heap.size+1:=by simp
 have hx:Ext (Own G s.rg) (Own G s.rg) F (λb=>F b\/b=w.heap.size) w (w.alloc (.cells cs e)):=
  ⟨λ_=> .inl,λb hb=>hb.elim .inl λe=> .inr (.inr (by omega)),λ_=> .inl,λb hb _=>hk b hb,by omega,rfl,rfl,rfl⟩
 refine⟨⟨h.r9.go hx,h.size,λt p hp=>cB.mono (λ_=> .inl) (λb hb=>hk b (h.jz b hb)) (Names.refl _ _) (h.tm t p hp),λn e he=>(h.rg n e he).mono (λ_=> .inl) (λb hb=>hk b (h.jz b hb)) (Names.refl _ _) rfl (λb hb=>hk b ((h.rg n e he).lt hb)),h.own,
  λn e b he hb hf=>hf.elim (h.mU n e b he hb) λe'=> ?_,λb hb=> ?_,h.tag,λb hb=>⟨.inl (h.z b hb).1,(hk b (h.jz b (h.z b hb).1)).trans (h.z b hb).2⟩,h.dr,zaG h.sz hx.size⟩,hx⟩
 ·have:=(h.rg n e he).lt hb;omega
 rcases hb with hb |hb
 ·have:=h.jz b hb;omega
 omega
theorem QB(h:aG Q T F G w a s){t:TypeId}{len:Nat}{ps:List (Nat×P)}{p:P}(hs:Bi Q t len ps=some p){vs:Array (Nat×Value)}(hl:vs.toList.length=ps.length)
  (hv: ∀(i:Nat) x y,vs.toList[i]?=some x->ps[i]?=some y->x.1=y.1/\aH F w G s.rg x.2 y.2):
  ∃v w' F',(Instr.buildSlice t len vs).run Q w= .ok v w'/\aG Q T F' G w' a s/\aH F' w' G s.rg v p/\Ext (Own G s.rg) (Own G s.rg) F F' w w':=by
 unfold Bi at hs;split at hs
 next e het=>
  have ht:=dL het;split at hs
  next i k z hi hk hz=>
   obtain⟨i',_,yc,_,fR⟩:=gA hk;rw[hi] at yc;cases yc;obtain⟨zv,KM,O2,hzs⟩:=n9 hi hz;split at hs
   ·rename_i fq;simp only[zab] at fq;obtain⟨⟨Bz,QA⟩,C0⟩:=fq;have Bz:z.cells.length=k+1:=by simpa using Bz
    have QA:len*(k+1)<=16777216:=zbJ QA;split at hs
    ·rename_i es MR;cases hs;have hbe:=rI _ _ _ MR s;have qcq: ∃II:Array Value,II.size=(List.replicate len z).length*(k+1)/\ni F w II (k+1) (List.replicate len z)/\((len*(k+1)=0/\II= #[])\/(len*(k+1)≠0/\II=madeCells zv.cells (len*(k+1)))):=by
      by_cases h0:len*(k+1)=0
      ·have:len=0:=by grind
       subst this;exact⟨#[],by simp,λi x hx=>by simp at hx,.inl ⟨h0,rfl⟩⟩
      exact⟨madeCells zv.cells (len*(k+1)),by rw[size_madeCells,zbv],qH (bc.uK _ _ O2) Bz (zak _),.inr ⟨h0,rfl⟩⟩
     obtain⟨II,q1,q2,q3⟩:=qcq;obtain⟨F1,ED,g1,g2,g3,g4,g5,g6⟩:=pO (by omega) ps vs.toList s s _ es F II h hbe hl hv q1 q2;have hlen:es.length=len:=by rw[g3,zbv]
     obtain⟨h1,h2⟩:=g1.grow ED e;have hE:ni (λb=>F1 b\/b=w.heap.size) (w.alloc (.cells ED e)) ED (k+1) es:=g5.mono (λ_=> .inl) (λb hb=>heap_alloc_old w _ b (g1.jz b hb));refine⟨.slice (some ⟨w.heap.size,0,none⟩) len len,_,_,?_,h1,?_,g2.trans h2⟩
     ·have dB:(Go.sizeOf e).run Q w= .ok (k+1) w:=run_sizeOf hk w;unfold Instr.buildSlice;simp only[Sem.run_bind,run_underlying ht,Result.andThen_ok,dB];rw[zal (by omega)];rcases q3 with⟨h0,rfl⟩| ⟨h0,rfl⟩
      ·have e0:((Array.range (len*(k+1))).map λx=>(#[]:Array Value)[x%(#[]:Array Value).size]!)= #[]:=by rw[h0];simp
       rw[zao h0];simp only[Sem.run_bind,Sem.run_pure,Result.andThen_ok];rw[e0,g6];rfl
      have e0:((Array.range (len*(k+1))).map λx=>zv.cells[x%zv.cells.size]!)=madeCells zv.cells (len*(k+1)):=rfl;rw[zal h0];have Bu:(zeroValue e).run Q w= .ok zv w:=by simp[zeroValue,typeInfo,hi,KM]
      simp only[Sem.run_bind,Sem.run_pure,Result.andThen_ok,Bu];rw[e0,g6];rfl
     refine .d ?_;have cj: ∀j,j<es.length*(k+1)->(w.alloc (.cells ED e)).cell? ⟨w.heap.size,0+j,none⟩=some (ED.getD j undef):=λj hj=>by simp_all
     have:=bc.PW (F:=λb=>F1 b\/b=w.heap.size) (w:=w.alloc (.cells ED e)) w.heap.size 0 (k+1) len es (λj=>ED.getD j undef) (by omega) (.inr rfl)
      (λx hx=>by obtain⟨i,hi,rfl⟩:=zaW hx;exact(hE i _ (zae hi)).1) (λx hx=>by obtain⟨i,hi,rfl⟩:=zaW hx;exact(hE i _ (zae hi)).2.1) cj (λi j x c hx hc=>(hE i x hx).2.2 j c hc)
     rwa [hlen] at this
    cases hs
   cases hs
  cases hs
 cases hs
theorem C2{t tx ty e:TypeId}{i:TypeInfo}(ht:Q.underlying t=some (.slice e))(hi:Q.info? e=some i){b dLen dCap:Nat}{cur:Array Value}(hg:w.heap[b]?=some (.cells cur e (0,0))){x:Value}{n:Nat}{news:List Value}(hs:Src Q i.size tx x n news w)
  (hn:n<=dLen) (Fp:news.length<=cur.size):
  (Builtin.copy_ #[t,tx] ty #[.slice (some ⟨b,0,none⟩) dLen dCap,x]).run Q w= .ok (goInt n) (w.setRow b (news++cur.toList.drop news.length).toArray):=by
 have ln:=run_storeCells_at Q b 0 e news 0 cur w hg (by grind) hs.one;have hm:Nat.min n dLen=n:=zci hn;simp[Builtin.copy_,run_underlying ht,Go.sizeOf,typeInfo,hi,hs.len,hm,hs.cells,ln]
theorem run_copy_none{t tx ty e:TypeId}{i:TypeInfo}(ht:Q.underlying t=some (.slice e))(hi:Q.info? e=some i){dLen dCap:Nat}{x:Value}(hs:Src Q i.size tx x 0 [] w):
  (Builtin.copy_ #[t,tx] ty #[.slice none dLen dCap,x]).run Q w= .ok (goInt 0) w:=by
 have hm:Nat.min 0 dLen=0:=Nat.zero_min _;simp[Builtin.copy_,run_underlying ht,Go.sizeOf,typeInfo,hi,hs.len,hm,hs.cells]
theorem QC(h:aG Q T F G w a s){dst:Option Nat}{t t2 ty:TypeId}{p q:P}{s':S}(hs:tq Q s dst t t2 p q=some s'){vx vy:Value}(hx:aH F w G s.rg vx p)(hy:aH F w G s.rg vy q):
  ∃v w' G',(Builtin.copy_ #[t,t2] ty #[vx,vy]).run Q w= .ok v w'/\aG Q T F G' w' (a.put dst v) s'/\Ext (Own G s.rg) (Own G' s'.rg) F F w w':=by
 unfold tq at hs;split at hs
 next e n aZ len het=>
  have ht:=dL het;split at hs
  next k hk=>
   obtain⟨i,_,hi,_,fR⟩:=gA hk;split at hs
   ·rename_i ys ty' es hys ho;split at hs
    ·rename_i hc;simp only[zab,zai] at hc;obtain⟨CP,hle,hyl⟩:=hc;have CP:ty'=e:=by simpa using CP
     subst CP;obtain⟨en,nq,dY,ca⟩:=S.bM ho;obtain⟨news,AF,gj⟩:=C1 h (by omega) hys hy;have qbi:Src Q i.size t2 vy ys.length news w:=by rw[fR];exact AF
     rw[S.ft nq] at hs;have gl:rG G s.rg n ⟨en.aZ,en.tag,.arr ty' false (ys++es.drop ys.length)⟩ (G n):=λe' cR=>by rw[nq] at cR;cases cR;exact .inr ⟨rfl,λ_=>⟨by rw[ca];rfl,rfl⟩⟩
     have fin: ∀(w':World) (v:Value),(Builtin.copy_ #[t,t2] ty #[vx,vy]).run Q w= .ok v w'->v= .int .i64 ys.length->(∀b,b<w.heap.size-> ¬(∃e,lk s.rg n=some e/\bL (G n) e.obj=some b)->w'.heap[b]?=w.heap[b]?)->
       w.heap.size<=w'.heap.size->w'.os=w.os->w'.tape=w.tape->w'.output=w.output->o6 Q F w' G (ins n ⟨en.aZ,en.tag,.arr ty' false (ys++es.drop ys.length)⟩ s.rg) n (.arr ty' false (ys++es.drop ys.length))->
       ∃v w' G',(Builtin.copy_ #[t,t2] ty #[vx,vy]).run Q w= .ok v w'/\aG Q T F G' w' (a.put dst v) s'/\Ext (Own G s.rg) (Own G' s'.rg) F F w w':=by
      intro w' v cc hv eP dB Ql htp bt Fs;obtain⟨d1,d2⟩:=h.nL (n:=n) (e1:=⟨en.aZ,en.tag,.arr ty' false (ys++es.drop ys.length)⟩) (g1:=G n) (w':=w') (hdr:=qG _ cc) gl eP dB Ql htp bt
       (λb hb=> .inr ⟨en,nq,by rw[ca];exact hb⟩) (by rw[cb];exact Fs) (λi yc _=>h.tag n en i nq yc (by rw[ca];rfl))
      obtain⟨c1,c2⟩:=cD d1 hs (v:= .int .i64 ys.length) (cB.of (.d (.int .i64 ys.length)));grind
     have hO:=h.rg n en nq;rw[ca] at hO;cases hx with
     |sl _ _ _ _ h1 hr=>
      obtain⟨a0,N,cap,hG,rfl,qiM⟩:=hr.at nq dY (by rw[ca];rfl);rcases hO with⟨hg,rfl⟩| ⟨b,iV,cs,k',hg,hh,mV,WW,HK,zY,dB,_,hE⟩
      ·rw[hG] at hg;obtain⟨rfl,rfl,rfl⟩:=hg;have h0:ys=[]:=zau (by omega);subst h0;have hn0:news=[]:=by have:=gj.1;simpa using this
       subst hn0;exact fin w _ (run_copy_none ht hi qbi) rfl (λ_ _ _=>rfl) (zak _) rfl rfl rfl (.inl ⟨hG,by simp⟩)
      rw[hk] at mV;cases mV;rw[hG] at hg;obtain⟨rfl,rfl,rfl⟩:=hg;have WM:ys.length<=es.length:=by omega
      have rH:news.length=ys.length*(k+1):=gj.1;have Fp:news.length<=cs.size:=by rw[rH,dB];exact zaq _ (by omega)
      have cc:=C2 (ty:=ty) (dLen:=len) (dCap:=cap) ht hi hh qbi hyl Fp;have tH:(ys++es.drop ys.length).length=es.length:=by rw[zan,zbf];omega
      have gb:bL (G n) en.obj=some b:=by rw[ca,hG];rfl
      have WV: ¬F b:=h.mU n en b nq gb;have hkF: ∀c,F c->(w.setRow b (news++cs.toList.drop news.length).toArray).heap[c]?=w.heap[c]?:=λc hc=>setRow_other w b c _ (λe=>WV (e▸hc));refine fin _ _ cc rfl (λc _ bX=>setRow_other w b c _ (λe'=>bX ⟨en,nq,by rw[e'];exact gb⟩)) (by simp) rfl rfl rfl
       (.inr ⟨b,cap,_,k+1,by rw[tH];exact hG,setRow_heap w b cs _ ty' _ hh,hk,by omega,by rw[tH];exact HK,zY,?_,by simp,?_⟩)
      ·skip
       grind
      refine eC.toE ?_;rw[tH];have hf:=(eC.take hE (zak _) (by simp_all [zaq])).drop ys.length;rw[zaj] at hf;have e1:((news++cs.toList.drop news.length).toArray.toList.take (es.length*(k+1)))=news++(cs.toList.take (es.length*(k+1))).drop (ys.length*(k+1)):=by rw[List.take_append,zah (by simp_all [zaq]),rH,zcK]
      rw[e1];exact(gj.append hf).mono (λ_ h=>h) hkF
     |_=>rename_i hd;cases hd
    cases hs
   cases hs
  cases hs
 cases hs
theorem MS{F:Nat->Prop}{w:World}{z:D}{zv:Value}{k l:Nat}(hz:bc F w zv z)(hl:z.cells.length=k):eC F w k (List.replicate l z) (Builtin.zeroCells zv.cells l).toList:=by
 obtain⟨c1,c2,c3⟩:=eu hz;have hs:zv.cells.size=k:=by rw[<-hl,<-c1];simp
 have hE:=qH (l:=l) (n:=l*k) hz hl (zak _);have dB:(madeCells zv.cells (l*k)).size=l*k:=by simp[size_madeCells]
 have hf:=eC.take (len:=l) hE (by simp) (by rw[zbv,dB];simp);have e1:(List.replicate l z).take l=List.replicate l z:=zah (by simp);have e2:(Builtin.zeroCells zv.cells l).toList=(madeCells zv.cells (l*k)).toList.take (l*k):=by rw[zah (by grind)];unfold Builtin.zeroCells madeCells;rw[hs]
 rw[e1] at hf;rw[e2];exact hf
theorem MT(h:aG Q T F G w a s){dst:Option Nat}{t ty:TypeId}{p:P}{s':S}(hs:nU Q s dst t p=some s'){vx:Value}(hx:aH F w G s.rg vx p):
  ∃v w' G',(Builtin.clear_ #[t] ty #[vx]).run Q w= .ok v w'/\aG Q T F G' w' (a.put dst v) s'/\Ext (Own G s.rg) (Own G' s'.rg) F F w w':=by
 unfold nU at hs;split at hs
 next e n aZ k0 off len het=>
  have ht:=dL het;split at hs
  next k z ty' es hk hz ho=>
   obtain⟨i,_,hi,_,fR⟩:=gA hk;split at hs
   ·rename_i hc;simp only[zab,zai] at hc;obtain⟨⟨⟨CP,jV⟩,Bz⟩,qcr⟩:=hc;have CP:ty'=e:=zaf CP;have jV:k0=k+1:=zaf jV;have Bz:z.cells.length=k+1:=zaf Bz;subst CP jV;obtain⟨en,nq,dY,ca⟩:=S.bM ho;obtain⟨zv,Bu,HI⟩:=pI hz w;rw[S.ft nq] at hs;generalize qcs:es.take off++List.replicate len z++es.drop (off+len)=fH at hs;have tH:fH.length=es.length:=by rw[<-qcs];simp;omega
    have gl:rG G s.rg n ⟨en.aZ,en.tag,.arr ty' false fH⟩ (G n):=λe' cR=>by rw[nq] at cR;cases cR;exact .inr ⟨rfl,λ_=>⟨by rw[ca];rfl,rfl⟩⟩
    have fin: ∀(w':World),(Builtin.clear_ #[t] ty #[vx]).run Q w= .ok (.tuple #[]) w'->(∀b,b<w.heap.size-> ¬(∃e,lk s.rg n=some e/\bL (G n) e.obj=some b)->w'.heap[b]?=w.heap[b]?)->
      w.heap.size<=w'.heap.size->w'.os=w.os->w'.tape=w.tape->w'.output=w.output->o6 Q F w' G (ins n ⟨en.aZ,en.tag,.arr ty' false fH⟩ s.rg) n (.arr ty' false fH)->
      ∃v w' G',(Builtin.clear_ #[t] ty #[vx]).run Q w= .ok v w'/\aG Q T F G' w' (a.put dst v) s'/\Ext (Own G s.rg) (Own G' s'.rg) F F w w':=by
     intro w' cc eP dB Ql htp bt Fs;obtain⟨d1,d2⟩:=h.nL (n:=n) (e1:=⟨en.aZ,en.tag,.arr ty' false fH⟩) (g1:=G n) (w':=w') (hdr:=qG _ cc) gl eP dB Ql htp bt
      (λb hb=> .inr ⟨en,nq,by rw[ca];exact hb⟩) (by rw[cb];exact Fs) (λi yc _=>h.tag n en i nq yc (by rw[ca];rfl))
     obtain⟨c1,c2⟩:=cD d1 hs (v:= .tuple #[]) (cB.of (.bad _));grind
    have hO:=h.rg n en nq;rw[ca] at hO;cases hx with
    |l0 _ _ _ _ _ _ h1 hr=>
     obtain⟨a0,N,cap,hG,hle,a1,qZ,rfl,P9,hzz⟩:=hr.at nq dY (by rw[ca];rfl);by_cases h0:len=0
     ·subst h0;have e0:fH=es:=by rw[<-qcs];simp
      subst e0;refine fin w ?_ (λ_ _ _=>rfl) (zak _) rfl rfl rfl ?_
      ·cases a1<;>simp[Builtin.clear_,run_underlying ht]
      exact hO
     obtain⟨b0,ha0,Qa⟩: ∃b,a0=some ⟨b,0,none⟩/\a1=some ⟨b,off*(k+1),none⟩:=by grind
     subst ha0 Qa;rcases hO with⟨hg,rfl⟩| ⟨b,iV,cs,k',hg,hh,mV,WW,HK,zY,dB,_,hE⟩
     ·rw[hG] at hg;simp at hg
     rw[hk] at mV;cases mV;rw[hG] at hg;obtain⟨rfl,rfl,rfl⟩:=hg;have Fo:=MS (l:=len) HI Bz;have rH:(Builtin.zeroCells zv.cells len).toList.length=len*(k+1):=by have:=Fo.1;grind
     have hole:off*(k+1)+len*(k+1)<=es.length*(k+1):=by rw[<-zaV];simp_all [zaq]
     have qkm:es.length*(k+1)<=cs.size:=by simp_all [zaq]
     have ln:=run_storeCells_at Q b0 (off*(k+1)) ty' (Builtin.zeroCells zv.cells len).toList 0 cs w hh (by omega) (Fo.one (by omega));simp only[zbR,rH] at ln;have cc:(Builtin.clear_ #[t] ty #[.slice (some ⟨b0,off*(k+1),none⟩) len qZ]).run Q w= .ok (.tuple #[]) (w.setRow b0 (cs.toList.take (off*(k+1))++(Builtin.zeroCells zv.cells len).toList++cs.toList.drop (off*(k+1)+len*(k+1))).toArray):=by simp[Builtin.clear_,run_underlying ht,Bu,ln]
     have gb:bL (G n) en.obj=some b0:=by rw[ca,hG];rfl
     have WV: ¬F b0:=h.mU n en b0 nq gb;have hkF: ∀c,F c->(w.setRow b0 (cs.toList.take (off*(k+1))++(Builtin.zeroCells zv.cells len).toList++cs.toList.drop (off*(k+1)+len*(k+1))).toArray).heap[c]?=w.heap[c]?:=λc hc=>setRow_other w b0 c _ (λe=>WV (e▸hc));refine fin _ cc (λc _ bX=>setRow_other w b0 c _ (λe'=>bX ⟨en,nq,by rw[e'];exact gb⟩)) (by simp) rfl rfl rfl
      (.inr ⟨b0,cap,_,k+1,by rw[tH];exact hG,setRow_heap w b0 cs _ ty' _ hh,hk,by omega,by rw[tH];exact HK,zY,?_,by simp,?_⟩)
     ·skip
      grind
     refine eC.toE ?_;rw[tH,<-qcs];have f1:=eC.take (len:=off) hE (by omega) (by grind);have f3:=(eC.take hE (zak _) (by grind)).drop (off+len);rw[zaj] at f3;have e1:((cs.toList.take (off*(k+1))++(Builtin.zeroCells zv.cells len).toList++cs.toList.drop (off*(k+1)+len*(k+1))).toArray.toList.take (es.length*(k+1)))=cs.toList.take (off*(k+1))++(Builtin.zeroCells zv.cells len).toList++(cs.toList.take (es.length*(k+1))).drop ((off+len)*(k+1)):=by
      have l1:(cs.toList.take (off*(k+1))).length=off*(k+1):=by simp;omega
      rw[List.take_append,zah (by rw[zan,l1,rH];exact hole),zan,l1,rH,zcK,zaV]
     rw[e1];exact((f1.append Fo).append f3).mono (λ_ h=>h) hkF
    |_=>rename_i hd;cases hd
   cases hs
  cases hs
 cases hs
end
end Pi
