/- The text PiMk. -/
import Derived.Test.YtngoddkencoalaaGreatDoorPiEfOk4
import Derived.Laws.MakeOwn
namespace Pi
open Go
section
variable{Q:Program}{T:Tg}{F:Nat->Prop}{G:Nat->Value}{w:World}{a:Act}{s:S}
theorem Sl{zc:Array Value}{n k i j:Nat}(hk:zc.size=k)(hj:j<k)(hn:i*k+j<n):(madeCells zc n).getD (i*k+j) undef=zc.getD j undef:=by
 have e:(i*k+j)%zc.size=j:=by rw[hk,zcm,Nat.mul_add_mod,Nat.mod_eq_of_lt hj]
 have My:j<zc.size:=by omega
 simp[madeCells,Array.getD,hn,e,My]
theorem q5{F:Nat->Prop}{w:World}{z:D}{zv:Value}{k l n:Nat}(hz:aS F w zv z)(hl:z.cells.length=k)(hn:l*k<=n):nB F w (madeCells zv.cells n) k (List.replicate l z):=by
 obtain⟨c1,c2,c3⟩:=ec hz;have hs:zv.cells.size=k:=by rw[<-hl,<-c1];simp
 intro i x hx;rw[List.getElem?_replicate] at hx;split at hx
 next hi=>
  cases hx;refine⟨hl,c2,λj c hc=> ?_⟩;have hj:j<k:=by have:=(zaf.1 hc).1;omega
  have bJ:i*k+j<n:=by
   calc i*k+j<i*k+k:=by omega
    _=(i+1)*k:=by rw[zaZ,zbs]
    _<=l*k:=zar _ hi
    _<=n:=hn
  rw[Sl hs hj bJ];exact c3 j _ c (by simp_all) hc
 cases hx
theorem Sm(h:aG Q T F G w a s){dst:Option Nat}{t:TypeId}{p q:P}{s':S}(hs:tD Q s dst t p q=some s'){vx vy:Value}(hx:aH F w G s.rg vx p)(hy:aH F w G s.rg vy q):
  ∃v w' G',(Instr.makeSlice t vx vy).run Q w= .ok v w'/\aG Q T F G' w' (a.put dst v) s'/\Ext (Own G s.rg) (Own G' s'.rg) F F w w':=by
 unfold tD at hs;split at hs
 next e k1 l k2 c het=>
  have ht:=dI het;split at hs
  next i k z hi hk hz=>
   obtain⟨i',_,yT,_,fT⟩:=gx hk;rw[hi] at yT;cases yT;obtain⟨zv,Mn,QM,hzs⟩:=oI hi hz;split at hs
   ·rename_i eP;simp only[zab,zai] at eP;obtain⟨Cw,h0,GI,h63,hb⟩:=eP;have Cw:z.cells.length=k+1:=by simpa using Cw
    split at hs
    ·rename_i s1 v hn;cases hx with
     |d hx=>
      cases hx;cases hy with
      |d hy=>
       cases hy;have hr:=run_make (P:=Q) w t e i zv ht hi Mn k1 k2 l c h0 GI hb h63;have hle:l.toNat<=c.toNat:=by omega
       obtain⟨h1,h2,h3,h4⟩:=mV h hn (g1:= .slice (some ⟨w.heap.size,0,none⟩) l.toNat c.toNat) (w':=w.alloc (.cells (madeCells zv.cells (c.toNat*i.size)) e))
        (λb hb=>heap_alloc_old w _ b hb) (by simp) rfl rfl rfl (λb hb=>by simp[bF,aM] at hb;omega)
        (.inr ⟨w.heap.size,c.toNat,madeCells zv.cells (c.toNat*i.size),k+1,by rw[a7,zbB],heap_alloc_new w _,hk,by omega,by rw[zbB];exact hle,by simp only[maxLen];omega,
         by rw[size_madeCells,fT],by simp,q5 (aS.vi _ _ QM) Cw (by simp_all [zar])⟩)
       obtain⟨c1,c2⟩:=cC h1 hs (v:= .slice (some ⟨w.heap.size,0,none⟩) l.toNat c.toNat) (cA.of (.sl (site dst) v l.toNat _ rfl ⟨_,h4,zak _,λ_ _=>⟨_,l.toNat,c.toNat,a7 _ _ _,rfl,zak _⟩⟩));grind
    cases hs
   cases hs
  cases hs
 cases hs
theorem nB.set{F:Nat->Prop}{w:World}{cs:Array Value}{k i:Nat}{es:List D}{x:D}{v:Value}(hE:nB F w cs k es)(dN:cs.size=es.length*k)(hi:i<es.length)(hx:aS F w v x)(hl:x.cells.length=k):
  ((v.cells.toList.zipIdx 0).foldl (λ(cs:Array Value) (x:Value×Nat)=>cs.setIfInBounds (i*k+x.2) x.1) cs).size=(es.set i x).length*k/\
  nB F w ((v.cells.toList.zipIdx 0).foldl (λ(cs:Array Value) (x:Value×Nat)=>cs.setIfInBounds (i*k+x.2) x.1) cs) k (es.set i x):=by
 obtain⟨c1,c2,c3⟩:=ec hx;have hle:i*k+k<=es.length*k:=by
  calc i*k+k=(i+1)*k:=by rw[zaZ,zbs]
   _<=es.length*k:=zar _ hi
 obtain⟨h1,h2⟩:=DU (i*k) v.cells.toList 0 cs (by omega);refine⟨by rw[h1,dN,zbj],λi' y hy=> ?_⟩;by_cases he:i=i'
 ·grind
 rw[za3 he] at hy;obtain⟨g1,g2,g3⟩:=hE i' y hy;refine⟨g1,g2,λj c hc=> ?_⟩;have hj:j<k:=by have:=(zaf.1 hc).1;omega
 have bS: ¬(i*k+0<=i'*k+j/\i'*k+j<i*k+0+v.cells.toList.length):=by
  rcases zcw he with h |h
  ·have:(i+1)*k<=i'*k:=zar _ h;rw[zaZ,zbs] at this;omega
  have:(i'+1)*k<=i*k:=zar _ h;rw[zaZ,zbs] at this;omega
 grind
theorem qp{t:TypeId}{k:Nat}(hk:0<k): ∀(ps:List (Nat×P)) (vs:List (Nat×Value)) (s s':S) (es fG:List D) (F:Nat->Prop) (cs:Array Value),aG Q T F G w a s->cU Q t k s es ps=some (s',fG)->
  vs.length=ps.length->(∀(i:Nat) x y,vs[i]?=some x->ps[i]?=some y->x.1=y.1/\aH F w G s.rg x.2 y.2)->cs.size=es.length*k->nB F w cs k es->
  ∃F' kV,aG Q T F' G w a s'/\Ext (Own G s.rg) (Own G s'.rg) F F' w w/\fG.length=es.length/\kV.size=fG.length*k/\nB F' w kV k fG/\Instr.fill (λi=>some (i*k,k)) cs vs=some kV
 | [],vs,s,s',es,fG,F,cs,h,hb,hl,_,dN,hE=>by
  obtain⟨rfl,rfl⟩:=hb;have:vs=[]:=by grind
  subst this;exact⟨F,cs,h,Ext.refl _ _ _,rfl,dN,hE,rfl⟩
 | (i,p)::ps,[],s,s',es,fG,F,cs,h,hb,hl,_,dN,hE=>by simp at hl
 | (i,p)::ps,(i0,v)::vs,s,s',es,fG,F,cs,h,hb,hl,hv,dN,hE=>by
  simp only[cU] at hb;split at hb
  next s1 x hf=>
   split at hb
   ·rename_i hc;simp only[zab] at hc;have hxl:x.cells.length=k:=by simpa using hc.1
    have hi:i<es.length:=by simp_all
    obtain⟨e0,hp⟩:=hv 0 (i0,v) (i,p) rfl rfl;subst e0;obtain⟨F1,g1,g2,g3,g4,g5⟩:=xO h hf hp;have hE1:nB F1 w cs k es:=hE.mono g4 (λ_ _=>rfl);obtain⟨m1,m2⟩:=hE1.set dN hi g5 hxl;obtain⟨F2,cs2,k1,k2,k3,k4,k5,k6⟩:=qp hk ps vs s1 s' _ fG F1 _ g1 hb (by grind) (λj x y hx hy=>by obtain⟨q1,q2⟩:=hv (j+1) x y (by grind) (by grind);exact⟨q1,q2.mono g4 (λ_ _=>rfl) g3⟩) m1 m2;refine⟨F2,cs2,k1,g2.trans k2,by rw[k3,zbj],k4,k5,?_⟩;have GQ:v.cells.size=k:=by have:=(ec g5).1;grind
    have hle:i0*k+k<=cs.size:=by
     rw[dN]
     calc i0*k+k=(i0+1)*k:=by rw[zaZ,zbs]
      _<=es.length*k:=zar _ hi
    have eP:(decide (v.cells.size≠k)||decide (i0*k+v.cells.size>cs.size))=false:=by simp;omega
    simp only[Instr.fill,eP,zaK,zbt];rw[<-k6];congr 1;rw[<-zc2];simp
   cases hb
  cases hb
theorem OL(h:aG Q T F G w a s){dst:Option Nat}{t:TypeId}{len:Nat}{ps:List (Nat×P)}{s':S}(hs:sc Q s dst t len ps=some s'){vs:Array (Nat×Value)}(hl:vs.toList.length=ps.length)
  (hv: ∀(i:Nat) x y,vs.toList[i]?=some x->ps[i]?=some y->x.1=y.1/\aH F w G s.rg x.2 y.2):
  ∃v w' F' G',(Instr.buildSlice t len vs).run Q w= .ok v w'/\aG Q T F' G' w' (a.put dst v) s'/\Ext (Own G s.rg) (Own G' s'.rg) F F' w w':=by
 unfold sc at hs;split at hs
 next e het=>
  have ht:=dI het;split at hs
  next i k z hi hk hz=>
   obtain⟨i',_,yT,_,fT⟩:=gx hk;rw[hi] at yT;cases yT;obtain⟨zv,Mn,QM,hzs⟩:=oI hi hz;split at hs
   ·rename_i eP;simp only[zab] at eP;obtain⟨⟨Cw,Sn⟩,D5⟩:=eP;have Cw:z.cells.length=k+1:=by simpa using Cw
    have Sn:len*(k+1)<=16777216:=zbO Sn;split at hs
    ·rename_i s1 es hbe;split at hs
     ·rename_i s2 aV hn;have qem: ∃Kf:Array Value,Kf.size=(List.replicate len z).length*(k+1)/\nB F w Kf (k+1) (List.replicate len z)/\((len*(k+1)=0/\Kf= #[])\/(len*(k+1)≠0/\Kf=madeCells zv.cells (len*(k+1)))):=by
       by_cases h0:len*(k+1)=0
       ·have:len=0:=by grind
        subst this;exact⟨#[],by simp,λi x hx=>by simp at hx,.inl ⟨h0,rfl⟩⟩
       exact⟨madeCells zv.cells (len*(k+1)),by rw[size_madeCells,zbB],q5 (aS.vi _ _ QM) Cw (zak _),.inr ⟨h0,rfl⟩⟩
      obtain⟨Kf,q1,q2,q3⟩:=qem;obtain⟨F1,FP,g1,g2,g3,g4,g5,g6⟩:=qp (by omega) ps vs.toList s s1 _ es F Kf h hbe hl hv q1 q2;have hlen:es.length=len:=by rw[g3,zbB]
      obtain⟨h1,h2,h3,h4⟩:=mV g1 hn (g1:= .slice (some ⟨w.heap.size,0,none⟩) len len) (w':=w.alloc (.cells FP e))
       (λb hb=>heap_alloc_old w _ b hb) (by simp) rfl rfl rfl (λb hb=>by simp[bF,aM] at hb;omega)
       (.inr ⟨w.heap.size,len,FP,k+1,by rw[a7,hlen],heap_alloc_new w _,hk,by omega,by omega,by simp only[maxLen];have:len<=len*(k+1):=Nat.le_mul_of_pos_right _ (by omega);omega,
        by rw[g4,hlen],by simp,g5.mono (λ_ h=>h) (λb hb=>heap_alloc_old w _ b (g1.jE b hb))⟩)
      obtain⟨c1,c2⟩:=cC h1 hs (v:= .slice (some ⟨w.heap.size,0,none⟩) len len) (cA.of (.sl (site dst) aV len _ rfl ⟨_,h4,zak _,λ_ _=>⟨_,len,len,a7 _ _ _,rfl,zak _⟩⟩));refine⟨_,_,_,_,?_,c1,?_⟩
      ·have dN:(Go.sizeOf e).run Q w= .ok (k+1) w:=run_sizeOf hk w;unfold Instr.buildSlice;simp only[Sem.run_bind,run_underlying ht,Result.andThen_ok,dN];rw[zan (by omega)];rcases q3 with⟨h0,rfl⟩| ⟨h0,rfl⟩
       ·have e0:((Array.range (len*(k+1))).map λx=>(#[]:Array Value)[x%(#[]:Array Value).size]!)= #[]:=by rw[h0];simp
        rw[zap h0];simp only[Sem.run_bind,Sem.run_pure,Result.andThen_ok];rw[e0,g6];rfl
       have e0:((Array.range (len*(k+1))).map λx=>zv.cells[x%zv.cells.size]!)=madeCells zv.cells (len*(k+1)):=rfl;rw[zan h0];have Cr:(zeroValue e).run Q w= .ok zv w:=by simp[zeroValue,typeInfo,hi,Mn]
       simp only[Sem.run_bind,Sem.run_pure,Result.andThen_ok,Cr];rw[e0,g6];rfl
      rw[c2];exact g2.trans h2
     cases hs
    cases hs
   cases hs
  cases hs
 cases hs
theorem rT{t:TypeId}{k:Nat}: ∀(ps:List (Nat×P)) (es fG:List D),qT Q t k es ps=some fG-> ∀s:S,cU Q t k s es ps=some (s,fG)
 | [],es,fG,h,s=>by simp only[qT,zam] at h;subst h;rfl
 | (i,.d x)::r,es,fG,h,s=>by
  have e:ov Q s t (.d x)=some (s,nzE Q t x):=by
   unfold ov nzE;cases rM Q t with
   |false=>rfl
   |true=>show(nzD Q t x).force (λy=>some (s,y))=_;rw[D.force_eq]
  simp only[qT] at h;split at h
  next hc=>simp only[cU,e,zap hc];exact rT r _ _ h s
  cases h
 | (_,.agg _)::_,_,_,h,_ | (_,.cH _)::_,_,_,h,_ | (_,.ref ..)::_,_,_,h,_ | (_,.dD ..)::_,_,_,h,_ | (_,.fe ..)::_,_,_,h,_ | (_,.sl ..)::_,_,_,h,_ | (_,.mb ..)::_,_,_,h,_ | (_,.mp ..)::_,_,_,h,_ | (_,.fn ..)::_,_,_,h,_ | (_,.bad)::_,_,_,h,_ | (_,.when ..)::_,_,_,h,_=>by simp[qT] at h
theorem aG.grow(h:aG Q T F G w a s)(cs:Array Value)(e:TypeId):aG Q T (λb=>F b\/b=w.heap.size) G (w.alloc (.cells cs e)) a s/\Ext (Own G s.rg) (Own G s.rg) F (λb=>F b\/b=w.heap.size) w (w.alloc (.cells cs e)):=by
 have hk: ∀b,b<w.heap.size->(w.alloc (.cells cs e)).heap[b]?=w.heap[b]?:=λb hb=>heap_alloc_old w _ b hb;have dN:(w.alloc (.cells cs e)).heap.size=w.heap.size+1:=by simp
 have hx:Ext (Own G s.rg) (Own G s.rg) F (λb=>F b\/b=w.heap.size) w (w.alloc (.cells cs e)):=
  ⟨λ_=> .inl,λb hb=>hb.elim .inl λe=> .inr (.inr (by omega)),λ_=> .inl,λb hb _=>hk b hb,by omega,rfl,rfl,rfl⟩
 refine⟨⟨h.sg.go hx,h.size,λt p hp=>cA.mono (λ_=> .inl) (λb hb=>hk b (h.jE b hb)) (Names.refl _ _) (h.tm t p hp),λn e he=>(h.rg n e he).mono (λ_=> .inl) (λb hb=>hk b (h.jE b hb)) (Names.refl _ _) rfl (λb hb=>hk b ((h.rg n e he).lt hb)),h.own,
  λn e b he hb hf=>hf.elim (h.nf n e b he hb) λe'=> ?_,λb hb=> ?_,h.tag,λb hb=>⟨.inl (h.z b hb).1,(hk b (h.jE b (h.z b hb).1)).trans (h.z b hb).2⟩,h.dr,zaE h.sz hx.size⟩,hx⟩
 ·have:=(h.rg n e he).lt hb;omega
 rcases hb with hb |hb
 ·have:=h.jE b hb;omega
 omega
theorem Sp(h:aG Q T F G w a s){t:TypeId}{len:Nat}{ps:List (Nat×P)}{p:P}(hs:Cf Q t len ps=some p){vs:Array (Nat×Value)}(hl:vs.toList.length=ps.length)
  (hv: ∀(i:Nat) x y,vs.toList[i]?=some x->ps[i]?=some y->x.1=y.1/\aH F w G s.rg x.2 y.2):
  ∃v w' F',(Instr.buildSlice t len vs).run Q w= .ok v w'/\aG Q T F' G w' a s/\aH F' w' G s.rg v p/\Ext (Own G s.rg) (Own G s.rg) F F' w w':=by
 unfold Cf at hs;split at hs
 next e het=>
  have ht:=dI het;split at hs
  next i k z hi hk hz=>
   obtain⟨i',_,yT,_,fT⟩:=gx hk;rw[hi] at yT;cases yT;obtain⟨zv,Mn,QM,hzs⟩:=oI hi hz;split at hs
   ·rename_i eP;simp only[zab] at eP;obtain⟨⟨Cw,Sn⟩,D5⟩:=eP;have Cw:z.cells.length=k+1:=by simpa using Cw
    have Sn:len*(k+1)<=16777216:=zbO Sn;split at hs
    ·rename_i es OM;cases hs;have hbe:=rT _ _ _ OM s;have qem: ∃Kf:Array Value,Kf.size=(List.replicate len z).length*(k+1)/\nB F w Kf (k+1) (List.replicate len z)/\((len*(k+1)=0/\Kf= #[])\/(len*(k+1)≠0/\Kf=madeCells zv.cells (len*(k+1)))):=by
      by_cases h0:len*(k+1)=0
      ·have:len=0:=by grind
       subst this;exact⟨#[],by simp,λi x hx=>by simp at hx,.inl ⟨h0,rfl⟩⟩
      exact⟨madeCells zv.cells (len*(k+1)),by rw[size_madeCells,zbB],q5 (aS.vi _ _ QM) Cw (zak _),.inr ⟨h0,rfl⟩⟩
     obtain⟨Kf,q1,q2,q3⟩:=qem;obtain⟨F1,FP,g1,g2,g3,g4,g5,g6⟩:=qp (by omega) ps vs.toList s s _ es F Kf h hbe hl hv q1 q2;have hlen:es.length=len:=by rw[g3,zbB]
     obtain⟨h1,h2⟩:=g1.grow FP e;have hE:nB (λb=>F1 b\/b=w.heap.size) (w.alloc (.cells FP e)) FP (k+1) es:=g5.mono (λ_=> .inl) (λb hb=>heap_alloc_old w _ b (g1.jE b hb));refine⟨.slice (some ⟨w.heap.size,0,none⟩) len len,_,_,?_,h1,?_,g2.trans h2⟩
     ·have dN:(Go.sizeOf e).run Q w= .ok (k+1) w:=run_sizeOf hk w;unfold Instr.buildSlice;simp only[Sem.run_bind,run_underlying ht,Result.andThen_ok,dN];rw[zan (by omega)];rcases q3 with⟨h0,rfl⟩| ⟨h0,rfl⟩
      ·have e0:((Array.range (len*(k+1))).map λx=>(#[]:Array Value)[x%(#[]:Array Value).size]!)= #[]:=by rw[h0];simp
       rw[zap h0];simp only[Sem.run_bind,Sem.run_pure,Result.andThen_ok];rw[e0,g6];rfl
      have e0:((Array.range (len*(k+1))).map λx=>zv.cells[x%zv.cells.size]!)=madeCells zv.cells (len*(k+1)):=rfl;rw[zan h0];have Cr:(zeroValue e).run Q w= .ok zv w:=by simp[zeroValue,typeInfo,hi,Mn]
      simp only[Sem.run_bind,Sem.run_pure,Result.andThen_ok,Cr];rw[e0,g6];rfl
     refine .d ?_;have bR: ∀j,j<es.length*(k+1)->(w.alloc (.cells FP e)).cell? ⟨w.heap.size,0+j,none⟩=some (FP.getD j undef):=λj hj=>by simp_all
     have:=aS.Ml (F:=λb=>F1 b\/b=w.heap.size) (w:=w.alloc (.cells FP e)) w.heap.size 0 (k+1) len es (λj=>FP.getD j undef) (by omega) (.inr rfl)
      (λx hx=>by obtain⟨i,hi,rfl⟩:=zaT hx;exact(hE i _ (zac hi)).1) (λx hx=>by obtain⟨i,hi,rfl⟩:=zaT hx;exact(hE i _ (zac hi)).2.1) bR (λi j x c hx hc=>(hE i x hx).2.2 j c hc)
     rwa [hlen] at this
    cases hs
   cases hs
  cases hs
 cases hs
theorem D7{t tx ty e:TypeId}{i:TypeInfo}(ht:Q.underlying t=some (.slice e))(hi:Q.info? e=some i){b dLen dCap:Nat}{cur:Array Value}(hg:w.heap[b]?=some (.cells cur e (0,0))){x:Value}{n:Nat}{news:List Value}(hs:Src Q i.size tx x n news w)
  (hn:n<=dLen) (GO:news.length<=cur.size):
  (Builtin.copy_ #[t,tx] ty #[.slice (some ⟨b,0,none⟩) dLen dCap,x]).run Q w= .ok (goInt n) (w.setRow b (news++cur.toList.drop news.length).toArray):=by
 have jv:=run_storeCells_at Q b 0 e news 0 cur w hg (by grind) hs.one;have hm:Nat.min n dLen=n:=zcq hn;simp[Builtin.copy_,run_underlying ht,Go.sizeOf,typeInfo,hi,hs.len,hm,hs.cells,jv]
theorem run_copy_none{t tx ty e:TypeId}{i:TypeInfo}(ht:Q.underlying t=some (.slice e))(hi:Q.info? e=some i){dLen dCap:Nat}{x:Value}(hs:Src Q i.size tx x 0 [] w):
  (Builtin.copy_ #[t,tx] ty #[.slice none dLen dCap,x]).run Q w= .ok (goInt 0) w:=by
 have hm:Nat.min 0 dLen=0:=Nat.zero_min _;simp[Builtin.copy_,run_underlying ht,Go.sizeOf,typeInfo,hi,hs.len,hm,hs.cells]
theorem Sq(h:aG Q T F G w a s){dst:Option Nat}{t t2 ty:TypeId}{p q:P}{s':S}(hs:tE Q s dst t t2 p q=some s'){vx vy:Value}(hx:aH F w G s.rg vx p)(hy:aH F w G s.rg vy q):
  ∃v w' G',(Builtin.copy_ #[t,t2] ty #[vx,vy]).run Q w= .ok v w'/\aG Q T F G' w' (a.put dst v) s'/\Ext (Own G s.rg) (Own G' s'.rg) F F w w':=by
 unfold tE at hs;split at hs
 next e n aV len het=>
  have ht:=dI het;split at hs
  next k hk=>
   obtain⟨i,_,hi,_,fT⟩:=gx hk;split at hs
   ·rename_i ys ty' es hys ho;split at hs
    ·rename_i hc;simp only[zab,zai] at hc;obtain⟨J6,hle,hyl⟩:=hc;have J6:ty'=e:=by simpa using J6
     subst J6;obtain⟨en,nE,dT,b9⟩:=S.bI ho;obtain⟨news,BF,gg⟩:=D6 h (by omega) hys hy;have qda:Src Q i.size t2 vy ys.length news w:=by rw[fT];exact BF
     rw[S.fu nE] at hs;have gl:rS G s.rg n ⟨en.aV,en.tag,.arr ty' false (ys++es.drop ys.length)⟩ (G n):=λe' cS=>by rw[nE] at cS;cases cS;exact .inr ⟨rfl,λ_=>⟨by rw[b9];rfl,rfl⟩⟩
     have fin: ∀(w':World) (v:Value),(Builtin.copy_ #[t,t2] ty #[vx,vy]).run Q w= .ok v w'->v= .int .i64 ys.length->(∀b,b<w.heap.size-> ¬(∃e,lk s.rg n=some e/\bF (G n) e.obj=some b)->w'.heap[b]?=w.heap[b]?)->
       w.heap.size<=w'.heap.size->w'.os=w.os->w'.tape=w.tape->w'.output=w.output->pG Q F w' G (ins n ⟨en.aV,en.tag,.arr ty' false (ys++es.drop ys.length)⟩ s.rg) n (.arr ty' false (ys++es.drop ys.length))->
       ∃v w' G',(Builtin.copy_ #[t,t2] ty #[vx,vy]).run Q w= .ok v w'/\aG Q T F G' w' (a.put dst v) s'/\Ext (Own G s.rg) (Own G' s'.rg) F F w w':=by
      intro w' v cb hv eQ dN R7 htp aT GR;obtain⟨d1,d2⟩:=h.oe (n:=n) (e1:=⟨en.aV,en.tag,.arr ty' false (ys++es.drop ys.length)⟩) (g1:=G n) (w':=w') (hdr:=q4 _ cb) gl eQ dN R7 htp aT
       (λb hb=> .inr ⟨en,nE,by rw[b9];exact hb⟩) (by rw[ca];exact GR) (λi yT _=>h.tag n en i nE yT (by rw[b9];rfl))
      obtain⟨c1,c2⟩:=cC d1 hs (v:= .int .i64 ys.length) (cA.of (.d (.int .i64 ys.length)));grind
     have hO:=h.rg n en nE;rw[b9] at hO;cases hx with
     |sl _ _ _ _ h1 hr=>
      obtain⟨a0,N,cap,hG,rfl,qkN⟩:=hr.at nE dT (by rw[b9];rfl);rcases hO with⟨hg,rfl⟩| ⟨b,iX,cs,k',hg,hh,nj,Y7,GI,yL,dN,_,hE⟩
      ·rw[hG] at hg;obtain⟨rfl,rfl,rfl⟩:=hg;have h0:ys=[]:=zaA (by omega);subst h0;have hn0:news=[]:=by have:=gg.1;simpa using this
       subst hn0;exact fin w _ (run_copy_none ht hi qda) rfl (λ_ _ _=>rfl) (zak _) rfl rfl rfl (.inl ⟨hG,by simp⟩)
      rw[hk] at nj;cases nj;rw[hG] at hg;obtain⟨rfl,rfl,rfl⟩:=hg;have Ox:ys.length<=es.length:=by omega
      have tf:news.length=ys.length*(k+1):=gg.1;have GO:news.length<=cs.size:=by rw[tf,dN];exact zar _ (by omega)
      have cb:=D7 (ty:=ty) (dLen:=len) (dCap:=cap) ht hi hh qda hyl GO;have tM:(ys++es.drop ys.length).length=es.length:=by rw[zah,zbe];omega
      have ga:bF (G n) en.obj=some b:=by rw[b9,hG];rfl
      have Y5: ¬F b:=h.nf n en b nE ga;have hkF: ∀c,F c->(w.setRow b (news++cs.toList.drop news.length).toArray).heap[c]?=w.heap[c]?:=λc hc=>setRow_other w b c _ (λe=>Y5 (e▸hc));refine fin _ _ cb rfl (λc _ bS=>setRow_other w b c _ (λe'=>bS ⟨en,nE,by rw[e'];exact ga⟩)) (by simp) rfl rfl rfl
       (.inr ⟨b,cap,_,k+1,by rw[tM];exact hG,setRow_heap w b cs _ ty' _ hh,hk,by omega,by rw[tM];exact GI,yL,?_,by simp,?_⟩)
      ·skip
       grind
      refine eu.toE ?_;rw[tM];have hf:=(eu.take hE (zak _) (by simp_all [zar])).drop ys.length;rw[zaj] at hf;have e1:((news++cs.toList.drop news.length).toArray.toList.take (es.length*(k+1)))=news++(cs.toList.take (es.length*(k+1))).drop (ys.length*(k+1)):=by rw[List.take_append,zal (by simp_all [zar]),tf,zcX]
      rw[e1];exact(gg.append hf).mono (λ_ h=>h) hkF
     |_=>rename_i hd;cases hd
    cases hs
   cases hs
  cases hs
 cases hs
theorem ON{F:Nat->Prop}{w:World}{z:D}{zv:Value}{k l:Nat}(hz:aS F w zv z)(hl:z.cells.length=k):eu F w k (List.replicate l z) (Builtin.zeroCells zv.cells l).toList:=by
 obtain⟨c1,c2,c3⟩:=ec hz;have hs:zv.cells.size=k:=by rw[<-hl,<-c1];simp
 have hE:=q5 (l:=l) (n:=l*k) hz hl (zak _);have dN:(madeCells zv.cells (l*k)).size=l*k:=by simp[size_madeCells]
 have hf:=eu.take (len:=l) hE (by simp) (by rw[zbB,dN];simp);have e1:(List.replicate l z).take l=List.replicate l z:=zal (by simp);have e2:(Builtin.zeroCells zv.cells l).toList=(madeCells zv.cells (l*k)).toList.take (l*k):=by rw[zal (by grind)];unfold Builtin.zeroCells madeCells;rw[hs]
 rw[e1] at hf;rw[e2];exact hf
theorem OO(h:aG Q T F G w a s){dst:Option Nat}{t ty:TypeId}{p:P}{s':S}(hs:oz Q s dst t p=some s'){vx:Value}(hx:aH F w G s.rg vx p):
  ∃v w' G',(Builtin.clear_ #[t] ty #[vx]).run Q w= .ok v w'/\aG Q T F G' w' (a.put dst v) s'/\Ext (Own G s.rg) (Own G' s'.rg) F F w w':=by
 unfold oz at hs;split at hs
 next e n aV k0 off len het=>
  have ht:=dI het;split at hs
  next k z ty' es hk hz ho=>
   obtain⟨i,_,hi,_,fT⟩:=gx hk;split at hs
   ·rename_i hc;simp only[zab,zai] at hc;obtain⟨⟨⟨J6,ju⟩,Cw⟩,qen⟩:=hc;have J6:ty'=e:=zag J6;have ju:k0=k+1:=zag ju;have Cw:z.cells.length=k+1:=zag Cw;subst J6 ju;obtain⟨en,nE,dT,b9⟩:=S.bI ho;obtain⟨zv,Cr,Jq⟩:=qk hz w;rw[S.fu nE] at hs;generalize qeo:es.take off++List.replicate len z++es.drop (off+len)=fG at hs;have tM:fG.length=es.length:=by rw[<-qeo];simp;omega
    have gl:rS G s.rg n ⟨en.aV,en.tag,.arr ty' false fG⟩ (G n):=λe' cS=>by rw[nE] at cS;cases cS;exact .inr ⟨rfl,λ_=>⟨by rw[b9];rfl,rfl⟩⟩
    have fin: ∀(w':World),(Builtin.clear_ #[t] ty #[vx]).run Q w= .ok (.tuple #[]) w'->(∀b,b<w.heap.size-> ¬(∃e,lk s.rg n=some e/\bF (G n) e.obj=some b)->w'.heap[b]?=w.heap[b]?)->
      w.heap.size<=w'.heap.size->w'.os=w.os->w'.tape=w.tape->w'.output=w.output->pG Q F w' G (ins n ⟨en.aV,en.tag,.arr ty' false fG⟩ s.rg) n (.arr ty' false fG)->
      ∃v w' G',(Builtin.clear_ #[t] ty #[vx]).run Q w= .ok v w'/\aG Q T F G' w' (a.put dst v) s'/\Ext (Own G s.rg) (Own G' s'.rg) F F w w':=by
     intro w' cb eQ dN R7 htp aT GR;obtain⟨d1,d2⟩:=h.oe (n:=n) (e1:=⟨en.aV,en.tag,.arr ty' false fG⟩) (g1:=G n) (w':=w') (hdr:=q4 _ cb) gl eQ dN R7 htp aT
      (λb hb=> .inr ⟨en,nE,by rw[b9];exact hb⟩) (by rw[ca];exact GR) (λi yT _=>h.tag n en i nE yT (by rw[b9];rfl))
     obtain⟨c1,c2⟩:=cC d1 hs (v:= .tuple #[]) (cA.of (.bad _));grind
    have hO:=h.rg n en nE;rw[b9] at hO;cases hx with
    |mb _ _ _ _ _ _ h1 hr=>
     obtain⟨a0,N,cap,hG,hle,a1,rr,rfl,RQ,hzz⟩:=hr.at nE dT (by rw[b9];rfl);by_cases h0:len=0
     ·subst h0;have e0:fG=es:=by rw[<-qeo];simp
      subst e0;refine fin w ?_ (λ_ _ _=>rfl) (zak _) rfl rfl rfl ?_
      ·cases a1<;>simp[Builtin.clear_,run_underlying ht]
      exact hO
     obtain⟨b0,ha0,RR⟩: ∃b,a0=some ⟨b,0,none⟩/\a1=some ⟨b,off*(k+1),none⟩:=by grind
     subst ha0 RR;rcases hO with⟨hg,rfl⟩| ⟨b,iX,cs,k',hg,hh,nj,Y7,GI,yL,dN,_,hE⟩
     ·rw[hG] at hg;simp at hg
     rw[hk] at nj;cases nj;rw[hG] at hg;obtain⟨rfl,rfl,rfl⟩:=hg;have GN:=ON (l:=len) Jq Cw;have tf:(Builtin.zeroCells zv.cells len).toList.length=len*(k+1):=by have:=GN.1;grind
     have hole:off*(k+1)+len*(k+1)<=es.length*(k+1):=by rw[<-zaZ];simp_all [zar]
     have qmr:es.length*(k+1)<=cs.size:=by simp_all [zar]
     have jv:=run_storeCells_at Q b0 (off*(k+1)) ty' (Builtin.zeroCells zv.cells len).toList 0 cs w hh (by omega) (GN.one (by omega));simp only[zb0,tf] at jv;have cb:(Builtin.clear_ #[t] ty #[.slice (some ⟨b0,off*(k+1),none⟩) len rr]).run Q w= .ok (.tuple #[]) (w.setRow b0 (cs.toList.take (off*(k+1))++(Builtin.zeroCells zv.cells len).toList++cs.toList.drop (off*(k+1)+len*(k+1))).toArray):=by simp[Builtin.clear_,run_underlying ht,Cr,jv]
     have ga:bF (G n) en.obj=some b0:=by rw[b9,hG];rfl
     have Y5: ¬F b0:=h.nf n en b0 nE ga;have hkF: ∀c,F c->(w.setRow b0 (cs.toList.take (off*(k+1))++(Builtin.zeroCells zv.cells len).toList++cs.toList.drop (off*(k+1)+len*(k+1))).toArray).heap[c]?=w.heap[c]?:=λc hc=>setRow_other w b0 c _ (λe=>Y5 (e▸hc));refine fin _ cb (λc _ bS=>setRow_other w b0 c _ (λe'=>bS ⟨en,nE,by rw[e'];exact ga⟩)) (by simp) rfl rfl rfl
      (.inr ⟨b0,cap,_,k+1,by rw[tM];exact hG,setRow_heap w b0 cs _ ty' _ hh,hk,by omega,by rw[tM];exact GI,yL,?_,by simp,?_⟩)
     ·skip
      grind
     refine eu.toE ?_;rw[tM,<-qeo];have f1:=eu.take (len:=off) hE (by omega) (by grind);have f3:=(eu.take hE (zak _) (by grind)).drop (off+len);rw[zaj] at f3;have e1:((cs.toList.take (off*(k+1))++(Builtin.zeroCells zv.cells len).toList++cs.toList.drop (off*(k+1)+len*(k+1))).toArray.toList.take (es.length*(k+1)))=cs.toList.take (off*(k+1))++(Builtin.zeroCells zv.cells len).toList++(cs.toList.take (es.length*(k+1))).drop ((off+len)*(k+1)):=by
      have l1:(cs.toList.take (off*(k+1))).length=off*(k+1):=by simp;omega
      rw[List.take_append,zal (by rw[zah,l1,tf];exact hole),zah,l1,tf,zcX,zaZ]
     rw[e1];exact((f1.append GN).append f3).mono (λ_ h=>h) hkF
    |_=>rename_i hd;cases hd
   cases hs
  cases hs
 cases hs
end
end Pi
