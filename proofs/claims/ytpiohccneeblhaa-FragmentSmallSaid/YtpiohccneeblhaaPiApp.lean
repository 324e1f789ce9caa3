/- The text PiApp. -/
import Derived.Test.YtpiohccneeblhaaPiEfOk3
namespace Pi
open Go
def cy(F:Nat->Prop)(w:World)(k:Nat)(es:List D)(xs:List Value):Prop:=
 xs.length=es.length*k/\ ∀(i:Nat) (x:D),es[i]?=some x->x.cells.length=k/\(∀c∈x.cells,c.aI=true)/\ ∀(j:Nat) (c:D),x.cells[j]?=some c->aA F w (xs.getD (i*k+j) undef) c
theorem cy.mono{F F':Nat->Prop}{w w':World}{k:Nat}{es:List D}{xs:List Value}(hF: ∀b,F b->F' b)(hw: ∀b,F b->w'.heap[b]?=w.heap[b]?)(h:cy F w k es xs):cy F' w' k es xs:=
 ⟨h.1,λi x hx=>let ⟨h1,h2,h3⟩:=h.2 i x hx;⟨h1,h2,λj c hc=>(h3 j c hc).mono hF hw⟩⟩
theorem cy.nil(F:Nat->Prop)(w:World)(k:Nat):cy F w k [] []:=⟨by simp,λi x hx=>by simp at hx⟩
theorem cy.append{F:Nat->Prop}{w:World}{k:Nat}{es ys:List D}{xs news:List Value}(h:cy F w k es xs)(h':cy F w k ys news):cy F w k (es++ys) (xs++news):=by
 refine⟨by simp[h.1,h'.1,zaz],λi x hx=> ?_⟩;by_cases hi:i<es.length
 ·rw[zaD hi] at hx;obtain⟨h1,h2,h3⟩:=h.2 i x hx;refine⟨h1,h2,λj c hc=> ?_⟩;have hj:j<k:=by have:=(zaa.1 hc).1;omega
  have bj:i*k+j<xs.length:=by
   rw[h.1]
   calc i*k+j<i*k+k:=by omega
    _=(i+1)*k:=by rw[zaz,zaV]
    _<=es.length*k:=zah _ (by omega)
  have:=h3 j c hc;simp only[zaq] at this⊢;rw[zaD bj];exact this
 rw[zaG (by omega)] at hx;obtain⟨h1,h2,h3⟩:=h'.2 _ x hx;refine⟨h1,h2,λj c hc=> ?_⟩;have Mj:xs.length<=i*k+j:=by rw[h.1];have:es.length*k<=i*k:=zah _ (by omega);omega
 have e:i*k+j-xs.length=(i-es.length)*k+j:=by rw[h.1,Nat.sub_mul];have:es.length*k<=i*k:=zah _ (by omega);omega
 have:=h3 j c hc;simp only[zaq] at this⊢;rw[zaG Mj,e];exact this
theorem cy.take{F:Nat->Prop}{w:World}{k:Nat}{es:List D}{cs:Array Value}(hE:fC F w cs k es){len:Nat}(hl:len<=es.length)(cp:es.length*k<=cs.size):cy F w k (es.take len) (cs.toList.take (len*k)):=by
 refine⟨?_,λi x hx=> ?_⟩
 ·have:len*k<=es.length*k:=zah _ hl;simp;rw[zca (by omega),zca hl]
 rw[zaS] at hx;split at hx
 next hi=>
  obtain⟨h1,h2,h3⟩:=hE i x hx;refine⟨h1,h2,λj c hc=> ?_⟩;have hj:j<k:=by have:=(zaa.1 hc).1;omega
  have bj:i*k+j<len*k:=by
   calc i*k+j<i*k+k:=by omega
    _=(i+1)*k:=by rw[zaz,zaV]
    _<=len*k:=zah _ (by omega)
  have:=h3 j c hc;rw[cK] at this;simp only[zaq];rw[zaS,zat bj];exact this
 cases hx
theorem cy.Mk{F:Nat->Prop}{w:World}{k:Nat}{es:List D}{cs:Array Value}(h:cy F w k es (cs.toList.take (es.length*k))):fC F w cs k es:=by
 intro i x hx;obtain⟨h1,h2,h3⟩:=h.2 i x hx;refine⟨h1,h2,λj c hc=> ?_⟩;have hi:i<es.length:=(zaa.1 hx).1;have hj:j<k:=by have:=(zaa.1 hc).1;omega
 have bj:i*k+j<es.length*k:=by
  calc i*k+j<i*k+k:=by omega
   _=(i+1)*k:=by rw[zaz,zaV]
   _<=es.length*k:=zah _ (by omega)
 have:=h3 j c hc;rw[cK];simp only[zaq] at this;rw[zaS,zat bj] at this;exact this
theorem cy.one{F:Nat->Prop}{w:World}{k:Nat}{es:List D}{xs:List Value}(h:cy F w k es xs)(hk:0<k): ∀u∈xs,u.oneCell'=true:=by
 intro u hu;obtain⟨m,hm⟩:=zao hu;have Iv:m<es.length*k:=by rw[<-h.1];exact(zaa.1 hm).1
 have hi:m/k<es.length:=(Nat.div_lt_iff_lt_mul hk).2 Iv;obtain⟨h1,h2,h3⟩:=h.2 (m/k) _ (zac hi);have hj:m%k<(es[m/k]).cells.length:=by rw[h1];exact zcy _ hk
 have:=h3 (m%k) _ (zac hj);have e:m/k*k+m%k=m:=by rw[zcb];exact Nat.div_add_mod m k
 rw[e] at this;simp only[zaq,hm,zbM] at this;exact this.ie (h2 _ (zaX hj))
section
variable{Q:Program}{T:Tg}{F:Nat->Prop}{G:Nat->Value}{w:World}{a:Act}{s:S}
theorem lu{t tx ty e:TypeId}{i:TypeInfo}(ht:Q.underlying t=some (.slice e))(hi:Q.info? e=some i){b xR Hd:Nat}{cur:Array Value}(hg:w.heap[b]?=some (.cells cur e (0,0))){x:Value}{n:Nat}{news:List Value}(hs:Src Q i.size tx x n news w)
  (nK:xR+n<=Hd) (vL:xR*i.size+news.length<=cur.size):
  (Builtin.append_ #[t,tx] ty #[.slice (some ⟨b,0,none⟩) xR Hd,x]).run Q w= .ok (.slice (some ⟨b,0,none⟩) (xR+n) Hd) (w.setRow b (cur.toList.take (xR*i.size)++news++cur.toList.drop (xR*i.size+news.length)).toArray):=by
 have iO:=run_storeCells_at Q b (xR*i.size) e news 0 cur w hg (by simpa using vL) hs.one;simp only[zbJ] at iO;rcases hs.kind with⟨e',hk⟩|hk<;>simp[Builtin.append_,run_underlying ht,run_underlying hk,Go.sizeOf,typeInfo,hi,hs.len,nK,hs.cells,bM,iO]
theorem jo{t tx ty e:TypeId}{i:TypeInfo}(ht:Q.underlying t=some (.slice e))(hi:Q.info? e=some i){x:Value}(hs:Src Q i.size tx x 0 [] w):
  (Builtin.append_ #[t,tx] ty #[.slice none 0 0,x]).run Q w= .ok (.slice none 0 0) w:=by
 rcases hs.kind with⟨e',hk⟩|hk<;>simp[Builtin.append_,run_underlying ht,run_underlying hk,Go.sizeOf,typeInfo,hi,hs.len,hs.cells]
theorem gQ{t tx ty e:TypeId}{i:TypeInfo}{z:Value}(ht:Q.underlying t=some (.slice e))(hi:Q.info? e=some i)(hz:i.zero=some z)(Gh:z.cells.size=i.size)
  {v:Value} {n:Nat} {xs:List Value} (cA:w.ownsRow 0 e i.size v n xs) {x:Value} {m:Nat} {news:List Value} (hs:Src Q i.size tx x m news w) (Lp:n+m<=maxLen) (tR:(n+m)*i.bytes<=140737488355328):
  ∃v' w',(Builtin.append_ #[t,tx] ty #[v,x]).run Q w= .ok v' w'/\w'.ownsRow 0 e i.size v' (n+m) (xs++news)/\w.grownBy w' v.ownBlock/\(∀b,v'.ownBlock=some b->w.heap.size<=b\/v.ownBlock=some b):=by
 have hl:=hs.newsLen;have Ml:n+m<=9223372036854775807:=by simp only[maxLen] at Lp;omega
 have hlen:(xs++news).length=(n+m)*i.size:=by rw[zaw,cA.1,hl,zaz]
 have grown: ∀(old:Nat),old<n+m-> ∀(row:Option Nat),
   (w.drew.alloc (.cells ((xs++news).toArray++Builtin.zeroCells z.cells (grownCap w (n+m) old e-(n+m))) e)).ownsRow 0 e i.size
    (.slice (some ⟨w.heap.size,0,none⟩) (n+m) (grownCap w (n+m) old e)) (n+m) (xs++news)/\
   w.grownBy (w.drew.alloc (.cells ((xs++news).toArray++Builtin.zeroCells z.cells (grownCap w (n+m) old e-(n+m))) e)) row:=by
  intro old ho row;have Mj:=grownCap_ge w (n+m) old e;have qX:grownCap w (n+m) old e<=maxLen:=grownCap_le_maxLen w (n+m) old e Lp;refine⟨⟨hlen,.inr ⟨w.heap.size,_,_,rfl,za2 _,heap_alloc_new w.drew _,Mj,qX,?_,?_⟩⟩,⟨rfl,rfl,rfl,by simp,λk hk _=>heap_alloc_old w.drew _ k hk⟩⟩
  ·simp only[Array.size_append,zbF,size_zeroCells,Gh,hlen,<-zaz];congr 1;omega
  simp only[Array.toList_append];rw[<-hlen];exact List.take_left
 rcases cA.2 with⟨rfl,rfl⟩| ⟨g,cap,cur,rfl,Pe,hg,Gf,qX,hcs,Cw⟩
 ·have hx:xs=[]:=zaJ (by simpa using cA.1);subst hx;by_cases hm:m=0
  ·subst hm;have hn:news=[]:=zaJ (by simpa using hl);subst hn;exact⟨.slice none 0 0,w,jo ht hi hs,World.ownsRow_nil w 0 e i.size,⟨rfl,rfl,rfl,zae _,λ_ _ _=>rfl⟩,λb hb=>by simp[Value.ownBlock] at hb⟩
  have hr:=run_append_grow_src (P:=Q) w t tx ty e i z ht hi hz none 0 0 [] (by simp[Builtin.firstCells]) x m news hs (by omega) (by omega) (growslice_fits (by omega) tR);have Iw:=grown 0 (by omega) (Value.ownBlock (.slice none 0 0));simp only[zbv] at hr Iw;exact⟨_,_,hr,Iw.1,Iw.2,λb hb=> .inl (by simp[Value.ownBlock] at hb;omega)⟩
 by_cases nK:n+m<=cap
 ·have vL:n*i.size+news.length<=cur.size:=by rw[hl,hcs,<-zaz];exact zah _ nK
  have hr:=lu (ty:=ty) ht hi hg hs nK vL;refine⟨_,_,hr,⟨hlen,.inr ⟨g,cap,_,rfl,Pe,setRow_heap w g cur _ e _ hg,nK,qX,?_,?_⟩⟩,⟨rfl,rfl,rfl,by simp,λk _ hk=>setRow_other w g k _ (λe=>hk (by simp[Value.ownBlock,e]))⟩,λb hb=> .inr hb⟩
  ·simp only[zbF,zaw,zbN,zbA,zci];omega
  rw[Cw,<-hlen];exact List.take_left
 have holds: ∀j u,xs[j]?=some u->w.drew.cell? ((⟨g,0,none⟩:Addr).add j)=some u:=cA.cells (g:=g) rfl;have hr:=run_append_grow_src (P:=Q) w t tx ty e i z ht hi hz (some ⟨g,0,none⟩) n cap xs (run_firstCells_some w.drew i.size n ⟨g,0,none⟩ n cap xs cA.1 holds) x m news hs (by omega) (by omega) (growslice_fits (by omega) tR);have Iw:=grown cap (by omega) (Value.ownBlock (.slice (some ⟨g,0,none⟩) n cap));exact⟨_,_,hr,Iw.1,Iw.2,λb hb=> .inl (by simp[Value.ownBlock] at hb;omega)⟩
end
end Pi
