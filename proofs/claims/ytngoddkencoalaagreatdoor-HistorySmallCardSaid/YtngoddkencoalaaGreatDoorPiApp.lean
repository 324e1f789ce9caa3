/- The text PiApp. -/
import Derived.Test.YtngoddkencoalaaGreatDoorPiEfOk3
namespace Pi
open Go
def eC(F:Nat->Prop)(w:World)(k:Nat)(es:List D)(xs:List Value):Prop:=
 xs.length=es.length*k/\ ∀(i:Nat) (x:D),es[i]?=some x->x.cells.length=k/\(∀c∈x.cells,c.bJ=true)/\ ∀(j:Nat) (c:D),x.cells[j]?=some c->bc F w (xs.getD (i*k+j) undef) c
theorem eC.mono{F F':Nat->Prop}{w w':World}{k:Nat}{es:List D}{xs:List Value}(hF: ∀b,F b->F' b)(hw: ∀b,F b->w'.heap[b]?=w.heap[b]?)(h:eC F w k es xs):eC F' w' k es xs:=
 ⟨h.1,λi x hx=>let ⟨h1,h2,h3⟩:=h.2 i x hx;⟨h1,h2,λj c hc=>(h3 j c hc).mono hF hw⟩⟩
theorem eC.nil(F:Nat->Prop)(w:World)(k:Nat):eC F w k [] []:=⟨by simp,λi x hx=>by simp at hx⟩
theorem eC.append{F:Nat->Prop}{w:World}{k:Nat}{es ys:List D}{xs news:List Value}(h:eC F w k es xs)(h':eC F w k ys news):eC F w k (es++ys) (xs++news):=by
 refine⟨by simp[h.1,h'.1,zaV],λi x hx=> ?_⟩;by_cases hi:i<es.length
 ·rw[zaO hi] at hx;obtain⟨h1,h2,h3⟩:=h.2 i x hx;refine⟨h1,h2,λj c hc=> ?_⟩;have hj:j<k:=by have:=(zad.1 hc).1;omega
  have bG:i*k+j<xs.length:=by
   rw[h.1]
   calc i*k+j<i*k+k:=by omega
    _=(i+1)*k:=by rw[zaV,zbs]
    _<=es.length*k:=zaq _ (by omega)
  have:=h3 j c hc;simp only[zac] at this⊢;rw[zaO bG];exact this
 rw[za1 (by omega)] at hx;obtain⟨h1,h2,h3⟩:=h'.2 _ x hx;refine⟨h1,h2,λj c hc=> ?_⟩;have hge:xs.length<=i*k+j:=by rw[h.1];have:es.length*k<=i*k:=zaq _ (by omega);omega
 have e:i*k+j-xs.length=(i-es.length)*k+j:=by rw[h.1,Nat.sub_mul];have:es.length*k<=i*k:=zaq _ (by omega);omega
 have:=h3 j c hc;simp only[zac] at this⊢;rw[za1 hge,e];exact this
theorem eC.take{F:Nat->Prop}{w:World}{k:Nat}{es:List D}{cs:Array Value}(hE:ni F w cs k es){len:Nat}(hl:len<=es.length)(dB:es.length*k<=cs.size):eC F w k (es.take len) (cs.toList.take (len*k)):=by
 refine⟨?_,λi x hx=> ?_⟩
 ·have:len*k<=es.length*k:=zaq _ hl;simp;rw[zci (by omega),zci hl]
 rw[zbg] at hx;split at hx
 next hi=>
  obtain⟨h1,h2,h3⟩:=hE i x hx;refine⟨h1,h2,λj c hc=> ?_⟩;have hj:j<k:=by have:=(zad.1 hc).1;omega
  have bG:i*k+j<len*k:=by
   calc i*k+j<i*k+k:=by omega
    _=(i+1)*k:=by rw[zaV,zbs]
    _<=len*k:=zaq _ (by omega)
  have:=h3 j c hc;rw[fM] at this;simp only[zac];rw[zbg,zao bG];exact this
 cases hx
theorem eC.toE{F:Nat->Prop}{w:World}{k:Nat}{es:List D}{cs:Array Value}(h:eC F w k es (cs.toList.take (es.length*k))):ni F w cs k es:=by
 intro i x hx;obtain⟨h1,h2,h3⟩:=h.2 i x hx;refine⟨h1,h2,λj c hc=> ?_⟩;have hi:i<es.length:=(zad.1 hx).1;have hj:j<k:=by have:=(zad.1 hc).1;omega
 have bG:i*k+j<es.length*k:=by
  calc i*k+j<i*k+k:=by omega
   _=(i+1)*k:=by rw[zaV,zbs]
   _<=es.length*k:=zaq _ (by omega)
 have:=h3 j c hc;rw[fM];simp only[zac] at this;rw[zbg,zao bG] at this;exact this
theorem eC.one{F:Nat->Prop}{w:World}{k:Nat}{es:List D}{xs:List Value}(h:eC F w k es xs)(hk:0<k): ∀u∈xs,u.oneCell'=true:=by
 intro u hu;obtain⟨m,hm⟩:=zaQ hu;have IE:m<es.length*k:=by rw[<-h.1];exact(zad.1 hm).1
 have hi:m/k<es.length:=(zcF hk).2 IE;obtain⟨h1,h2,h3⟩:=h.2 (m/k) _ (zae hi);have hj:m%k<(es[m/k]).cells.length:=by rw[h1];exact zcV _ hk
 have:=h3 (m%k) _ (zae hj);have e:m/k*k+m%k=m:=by rw[zcb];exact zc4 m k
 rw[e] at this;simp only[zac,hm,zcf] at this;exact this.nY (h2 _ (zas hj))
section
variable{Q:Program}{T:Tg}{F:Nat->Prop}{G:Nat->Value}{w:World}{a:Act}{s:S}
theorem q4{t tx ty e:TypeId}{i:TypeInfo}(ht:Q.underlying t=some (.slice e))(hi:Q.info? e=some i){b IF qcn:Nat}{cur:Array Value}(hg:w.heap[b]?=some (.cells cur e (0,0))){x:Value}{n:Nat}{news:List Value}(hs:Src Q i.size tx x n news w)
  (oS:IF+n<=qcn) (Fp:IF*i.size+news.length<=cur.size):
  (Builtin.append_ #[t,tx] ty #[.slice (some ⟨b,0,none⟩) IF qcn,x]).run Q w= .ok (.slice (some ⟨b,0,none⟩) (IF+n) qcn) (w.setRow b (cur.toList.take (IF*i.size)++news++cur.toList.drop (IF*i.size+news.length)).toArray):=by
 have ln:=run_storeCells_at Q b (IF*i.size) e news 0 cur w hg (by simpa using Fp) hs.one;simp only[zbR] at ln;rcases hs.kind with⟨e',hk⟩|hk<;>simp[Builtin.append_,run_underlying ht,run_underlying hk,Go.sizeOf,typeInfo,hi,hs.len,oS,hs.cells,addr_add,ln]
theorem n5{t tx ty e:TypeId}{i:TypeInfo}(ht:Q.underlying t=some (.slice e))(hi:Q.info? e=some i){x:Value}(hs:Src Q i.size tx x 0 [] w):
  (Builtin.append_ #[t,tx] ty #[.slice none 0 0,x]).run Q w= .ok (.slice none 0 0) w:=by
 rcases hs.kind with⟨e',hk⟩|hk<;>simp[Builtin.append_,run_underlying ht,run_underlying hk,Go.sizeOf,typeInfo,hi,hs.len,hs.cells]
theorem pN{t tx ty e:TypeId}{i:TypeInfo}{z:Value}(ht:Q.underlying t=some (.slice e))(hi:Q.info? e=some i)(hz:i.zero=some z)(hzs:z.cells.size=i.size)
  {v:Value} {n:Nat} {xs:List Value} (gb:w.ownsRow 0 e i.size v n xs) {x:Value} {m:Nat} {news:List Value} (hs:Src Q i.size tx x m news w) (h63:n+m<=maxLen) (C0:(n+m)*i.bytes<=140737488355328):
  ∃v' w',(Builtin.append_ #[t,tx] ty #[v,x]).run Q w= .ok v' w'/\w'.ownsRow 0 e i.size v' (n+m) (xs++news)/\w.grownBy w' v.ownBlock/\(∀b,v'.ownBlock=some b->w.heap.size<=b\/v.ownBlock=some b):=by
 have hl:=hs.newsLen;have qiK:n+m<=9223372036854775807:=by simp only[maxLen] at h63;omega
 have hlen:(xs++news).length=(n+m)*i.size:=by rw[zan,gb.1,hl,zaV]
 have grown: ∀(old:Nat),old<n+m-> ∀(row:Option Nat),
   (w.drew.alloc (.cells ((xs++news).toArray++Builtin.zeroCells z.cells (grownCap w (n+m) old e-(n+m))) e)).ownsRow 0 e i.size
    (.slice (some ⟨w.heap.size,0,none⟩) (n+m) (grownCap w (n+m) old e)) (n+m) (xs++news)/\
   w.grownBy (w.drew.alloc (.cells ((xs++news).toArray++Builtin.zeroCells z.cells (grownCap w (n+m) old e-(n+m))) e)) row:=by
  intro old ho row;have hge:=grownCap_ge w (n+m) old e;have zY:grownCap w (n+m) old e<=maxLen:=grownCap_le_maxLen w (n+m) old e h63;refine⟨⟨hlen,.inr ⟨w.heap.size,_,_,rfl,za5 _,heap_alloc_new w.drew _,hge,zY,?_,?_⟩⟩,⟨rfl,rfl,rfl,by simp,λk hk _=>heap_alloc_old w.drew _ k hk⟩⟩
  ·simp only[Array.size_append,zcs,size_zeroCells,hzs,hlen,<-zaV];congr 1;omega
  simp only[Array.toList_append];rw[<-hlen];exact List.take_left
 rcases gb.2 with⟨rfl,rfl⟩| ⟨g,cap,cur,rfl,hbg,hg,hnc,zY,hcs,Qs⟩
 ·have hx:xs=[]:=zau (by simpa using gb.1);subst hx;by_cases hm:m=0
  ·subst hm;have hn:news=[]:=zau (by simpa using hl);subst hn;exact⟨.slice none 0 0,w,n5 ht hi hs,World.ownsRow_nil w 0 e i.size,⟨rfl,rfl,rfl,zak _,λ_ _ _=>rfl⟩,λb hb=>by simp[Value.ownBlock] at hb⟩
  have hr:=run_append_grow_src (P:=Q) w t tx ty e i z ht hi hz none 0 0 [] (by simp[Builtin.firstCells]) x m news hs (by omega) (by omega) (growslice_fits (by omega) C0);have kQ:=grown 0 (by omega) (Value.ownBlock (.slice none 0 0));simp only[zbi] at hr kQ;exact⟨_,_,hr,kQ.1,kQ.2,λb hb=> .inl (by simp[Value.ownBlock] at hb;omega)⟩
 by_cases oS:n+m<=cap
 ·have Fp:n*i.size+news.length<=cur.size:=by rw[hl,hcs,<-zaV];exact zaq _ oS
  have hr:=q4 (ty:=ty) ht hi hg hs oS Fp;refine⟨_,_,hr,⟨hlen,.inr ⟨g,cap,_,rfl,hbg,setRow_heap w g cur _ e _ hg,oS,zY,?_,?_⟩⟩,⟨rfl,rfl,rfl,by simp,λk _ hk=>setRow_other w g k _ (λe=>hk (by simp[Value.ownBlock,e]))⟩,λb hb=> .inr hb⟩
  ·simp only[zcs,zan,zay,zbf,zcM];omega
  rw[Qs,<-hlen];exact List.take_left
 have holds: ∀j u,xs[j]?=some u->w.drew.cell? ((⟨g,0,none⟩:Addr).add j)=some u:=gb.cells (g:=g) rfl;have hr:=run_append_grow_src (P:=Q) w t tx ty e i z ht hi hz (some ⟨g,0,none⟩) n cap xs (run_firstCells_some w.drew i.size n ⟨g,0,none⟩ n cap xs gb.1 holds) x m news hs (by omega) (by omega) (growslice_fits (by omega) C0);have kQ:=grown cap (by omega) (Value.ownBlock (.slice (some ⟨g,0,none⟩) n cap));exact⟨_,_,hr,kQ.1,kQ.2,λb hb=> .inl (by simp[Value.ownBlock] at hb;omega)⟩
end
end Pi
