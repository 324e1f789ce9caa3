/- The text PiApp. -/
import Derived.Test.YtfelfooeclnbiaaPiEfOk3
namespace Pi
open Go
def bR(F:Nat->Prop)(w:World)(k:Nat)(es:List D)(xs:List Value):Prop:=
 xs.length=es.length*k/\ ∀(i:Nat) (x:D),es[i]?=some x->x.cells.length=k/\(∀c∈x.cells,c.aF=true)/\ ∀(j:Nat) (c:D),x.cells[j]?=some c->ax F w (xs.getD (i*k+j) undef) c
theorem bR.mono{F F':Nat->Prop}{w w':World}{k:Nat}{es:List D}{xs:List Value}(hF: ∀b,F b->F' b)(hw: ∀b,F b->w'.heap[b]?=w.heap[b]?)(h:bR F w k es xs):bR F' w' k es xs:=
 ⟨h.1,λi x hx=>let ⟨h1,h2,h3⟩:=h.2 i x hx;⟨h1,h2,λj c hc=>(h3 j c hc).mono hF hw⟩⟩
theorem bR.nil(F:Nat->Prop)(w:World)(k:Nat):bR F w k [] []:=⟨by simp,λi x hx=>by simp at hx⟩
theorem bR.append{F:Nat->Prop}{w:World}{k:Nat}{es ys:List D}{xs news:List Value}(h:bR F w k es xs)(h':bR F w k ys news):bR F w k (es++ys) (xs++news):=by
 refine⟨by simp[h.1,h'.1,zau],λi x hx=> ?_⟩;by_cases hi:i<es.length
 ·rw[zaD hi] at hx;obtain⟨h1,h2,h3⟩:=h.2 i x hx;refine⟨h1,h2,λj c hc=> ?_⟩;have hj:j<k:=by have:=(zaa.1 hc).1;omega
  have bu:i*k+j<xs.length:=by
   rw[h.1]
   calc i*k+j<i*k+k:=by omega
    _=(i+1)*k:=by rw[zau,zaN]
    _<=es.length*k:=zag _ (by omega)
  have:=h3 j c hc;simp only[zai] at this⊢;rw[zaD bu];exact this
 rw[zaF (by omega)] at hx;obtain⟨h1,h2,h3⟩:=h'.2 _ x hx;refine⟨h1,h2,λj c hc=> ?_⟩;have Fb:xs.length<=i*k+j:=by rw[h.1];have:es.length*k<=i*k:=zag _ (by omega);omega
 have e:i*k+j-xs.length=(i-es.length)*k+j:=by rw[h.1,Nat.sub_mul];have:es.length*k<=i*k:=zag _ (by omega);omega
 have:=h3 j c hc;simp only[zai] at this⊢;rw[zaF Fb,e];exact this
theorem bR.take{F:Nat->Prop}{w:World}{k:Nat}{es:List D}{cs:Array Value}(hE:iX F w cs k es){len:Nat}(hl:len<=es.length)(bK:es.length*k<=cs.size):bR F w k (es.take len) (cs.toList.take (len*k)):=by
 refine⟨?_,λi x hx=> ?_⟩
 ·have:len*k<=es.length*k:=zag _ hl;simp;rw[zbW (by omega),zbW hl]
 rw[zaQ] at hx;split at hx
 next hi=>
  obtain⟨h1,h2,h3⟩:=hE i x hx;refine⟨h1,h2,λj c hc=> ?_⟩;have hj:j<k:=by have:=(zaa.1 hc).1;omega
  have bu:i*k+j<len*k:=by
   calc i*k+j<i*k+k:=by omega
    _=(i+1)*k:=by rw[zau,zaN]
    _<=len*k:=zag _ (by omega)
  have:=h3 j c hc;rw[dt] at this;simp only[zai];rw[zaQ,zat bu];exact this
 cases hx
theorem bR.Fc{F:Nat->Prop}{w:World}{k:Nat}{es:List D}{cs:Array Value}(h:bR F w k es (cs.toList.take (es.length*k))):iX F w cs k es:=by
 intro i x hx;obtain⟨h1,h2,h3⟩:=h.2 i x hx;refine⟨h1,h2,λj c hc=> ?_⟩;have hi:i<es.length:=(zaa.1 hx).1;have hj:j<k:=by have:=(zaa.1 hc).1;omega
 have bu:i*k+j<es.length*k:=by
  calc i*k+j<i*k+k:=by omega
   _=(i+1)*k:=by rw[zau,zaN]
   _<=es.length*k:=zag _ (by omega)
 have:=h3 j c hc;rw[dt];simp only[zai] at this;rw[zaQ,zat bu] at this;exact this
theorem bR.one{F:Nat->Prop}{w:World}{k:Nat}{es:List D}{xs:List Value}(h:bR F w k es xs)(hk:0<k): ∀u∈xs,u.oneCell'=true:=by
 intro u hu;obtain⟨m,hm⟩:=zaq hu;have CW:m<es.length*k:=by rw[<-h.1];exact(zaa.1 hm).1
 have hi:m/k<es.length:=(Nat.div_lt_iff_lt_mul hk).2 CW;obtain⟨h1,h2,h3⟩:=h.2 (m/k) _ (zad hi);have hj:m%k<(es[m/k]).cells.length:=by rw[h1];exact Nat.mod_lt _ hk
 have:=h3 (m%k) _ (zad hj);have e:m/k*k+m%k=m:=by rw[zbD];exact Nat.div_add_mod m k
 rw[e] at this;simp only[zai,hm,zbS] at this;exact this.iM (h2 _ (zaH hj))
section
variable{Q:Program}{T:Tg}{F:Nat->Prop}{G:Nat->Value}{w:World}{a:Act}{s:S}
theorem jb{t tx ty e:TypeId}{i:TypeInfo}(ht:Q.underlying t=some (.slice e))(hi:Q.info? e=some i){b sC A8:Nat}{cur:Array Value}(hg:w.heap[b]?=some (.cells cur e (0,0))){x:Value}{n:Nat}{news:List Value}(hs:Src Q i.size tx x n news w)
  (ll:sC+n<=A8) (qS:sC*i.size+news.length<=cur.size):
  (Builtin.append_ #[t,tx] ty #[.slice (some ⟨b,0,none⟩) sC A8,x]).run Q w= .ok (.slice (some ⟨b,0,none⟩) (sC+n) A8) (w.setRow b (cur.toList.take (sC*i.size)++news++cur.toList.drop (sC*i.size+news.length)).toArray):=by
 have gH:=run_storeCells_at Q b (sC*i.size) e news 0 cur w hg (by simpa using qS) hs.one;simp only[zbb] at gH;rcases hs.kind with⟨e',hk⟩|hk<;>simp[Builtin.append_,run_underlying ht,run_underlying hk,Go.sizeOf,typeInfo,hi,hs.len,ll,hs.cells,bp,gH]
theorem gh{t tx ty e:TypeId}{i:TypeInfo}(ht:Q.underlying t=some (.slice e))(hi:Q.info? e=some i){x:Value}(hs:Src Q i.size tx x 0 [] w):
  (Builtin.append_ #[t,tx] ty #[.slice none 0 0,x]).run Q w= .ok (.slice none 0 0) w:=by
 rcases hs.kind with⟨e',hk⟩|hk<;>simp[Builtin.append_,run_underlying ht,run_underlying hk,Go.sizeOf,typeInfo,hi,hs.len,hs.cells]
theorem ig{t tx ty e:TypeId}{i:TypeInfo}{z:Value}(ht:Q.underlying t=some (.slice e))(hi:Q.info? e=some i)(hz:i.zero=some z)(wS:z.cells.size=i.size)
  {v:Value} {n:Nat} {xs:List Value} (cx:w.ownsRow 0 e i.size v n xs) {x:Value} {m:Nat} {news:List Value} (hs:Src Q i.size tx x m news w) (Ei:n+m<=maxLen) (pC:(n+m)*i.bytes<=140737488355328):
  ∃v' w',(Builtin.append_ #[t,tx] ty #[v,x]).run Q w= .ok v' w'/\w'.ownsRow 0 e i.size v' (n+m) (xs++news)/\w.grownBy w' v.ownBlock/\(∀b,v'.ownBlock=some b->w.heap.size<=b\/v.ownBlock=some b):=by
 have hl:=hs.newsLen;have Fe:n+m<=9223372036854775807:=by simp only[maxLen] at Ei;omega
 have hlen:(xs++news).length=(n+m)*i.size:=by rw[zaG,cx.1,hl,zau]
 have grown: ∀(old:Nat),old<n+m-> ∀(row:Option Nat),
   (w.drew.alloc (.cells ((xs++news).toArray++Builtin.zeroCells z.cells (grownCap w (n+m) old e-(n+m))) e)).ownsRow 0 e i.size
    (.slice (some ⟨w.heap.size,0,none⟩) (n+m) (grownCap w (n+m) old e)) (n+m) (xs++news)/\
   w.grownBy (w.drew.alloc (.cells ((xs++news).toArray++Builtin.zeroCells z.cells (grownCap w (n+m) old e-(n+m))) e)) row:=by
  intro old ho row;have Fb:=grownCap_ge w (n+m) old e;have nI:grownCap w (n+m) old e<=maxLen:=grownCap_le_maxLen w (n+m) old e Ei;refine⟨⟨hlen,.inr ⟨w.heap.size,_,_,rfl,zaR _,heap_alloc_new w.drew _,Fb,nI,?_,?_⟩⟩,⟨rfl,rfl,rfl,by simp,λk hk _=>heap_alloc_old w.drew _ k hk⟩⟩
  ·simp only[Array.size_append,zbu,size_zeroCells,wS,hlen,<-zau];congr 1;omega
  simp only[Array.toList_append];rw[<-hlen];exact List.take_left
 rcases cx.2 with⟨rfl,rfl⟩| ⟨g,cap,cur,rfl,Hx,hg,CV,nI,hcs,wT⟩
 ·have hx:xs=[]:=zap (by simpa using cx.1);subst hx;by_cases hm:m=0
  ·subst hm;have hn:news=[]:=zap (by simpa using hl);subst hn;exact⟨.slice none 0 0,w,gh ht hi hs,World.ownsRow_nil w 0 e i.size,⟨rfl,rfl,rfl,zaf _,λ_ _ _=>rfl⟩,λb hb=>by simp[Value.ownBlock] at hb⟩
  have hr:=run_append_grow_src (P:=Q) w t tx ty e i z ht hi hz none 0 0 [] (by simp[Builtin.firstCells]) x m news hs (by omega) (by omega) (growslice_fits (by omega) pC);have Cf:=grown 0 (by omega) (Value.ownBlock (.slice none 0 0));simp only[zbX] at hr Cf;exact⟨_,_,hr,Cf.1,Cf.2,λb hb=> .inl (by simp[Value.ownBlock] at hb;omega)⟩
 by_cases ll:n+m<=cap
 ·have qS:n*i.size+news.length<=cur.size:=by rw[hl,hcs,<-zau];exact zag _ ll
  have hr:=jb (ty:=ty) ht hi hg hs ll qS;refine⟨_,_,hr,⟨hlen,.inr ⟨g,cap,_,rfl,Hx,setRow_heap w g cur _ e _ hg,ll,nI,?_,?_⟩⟩,⟨rfl,rfl,rfl,by simp,λk _ hk=>setRow_other w g k _ (λe=>hk (by simp[Value.ownBlock,e]))⟩,λb hb=> .inr hb⟩
  ·simp only[zbu,zaG,za1,zaC,zbG];omega
  rw[wT,<-hlen];exact List.take_left
 have holds: ∀j u,xs[j]?=some u->w.drew.cell? ((⟨g,0,none⟩:Addr).add j)=some u:=cx.cells (g:=g) rfl;have hr:=run_append_grow_src (P:=Q) w t tx ty e i z ht hi hz (some ⟨g,0,none⟩) n cap xs (run_firstCells_some w.drew i.size n ⟨g,0,none⟩ n cap xs cx.1 holds) x m news hs (by omega) (by omega) (growslice_fits (by omega) pC);have Cf:=grown cap (by omega) (Value.ownBlock (.slice (some ⟨g,0,none⟩) n cap));exact⟨_,_,hr,Cf.1,Cf.2,λb hb=> .inl (by simp[Value.ownBlock] at hb;omega)⟩
end
end Pi
