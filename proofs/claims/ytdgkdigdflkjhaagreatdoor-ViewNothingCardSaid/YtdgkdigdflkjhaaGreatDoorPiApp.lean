/- The text PiApp. -/
import Derived.Test.YtdgkdigdflkjhaaGreatDoorPiEfOk3
namespace Pi
open Go
def eG F w k (es:List D)(xs:List Value):=
 xs.length=es.length*k/\ ∀(i:Nat) (x:D),es[i]?=some x->x.cells.length=k/\(∀c∈x.cells,c.bL=true)/\ ∀(j:Nat) (c:D),x.cells[j]?=some c->aY F w (xs.getD (i*k+j) undef) c
theorem eG.mono{F F' w w' k es}{xs}(hF: ∀b,F b->F' b)(hw: ∀b,F b->w'.heap[b]?=w.heap[b]?)(h:eG F w k es xs):eG F' w' k es xs:=
 ⟨h.1,λi x hx=>let ⟨h1,h2,h3⟩:=h.2 i x hx;⟨h1,h2,λj c hc=>(h3 j c hc).mono hF hw⟩⟩
theorem eG.nil F w k:eG F w k [] []:=⟨by simp,λi x hx=>by simp at hx⟩
theorem eG.append{F w k es ys}{xs news}(h:eG F w k es xs)(h':eG F w k ys news):eG F w k (es++ys) (xs++news):=by
 refine⟨by simp[h.1,h'.1,za2],λi x hx=> ?_⟩;by_cases hi:i<es.length
 ·rw[zaT hi] at hx;obtain⟨h1,h2,h3⟩:=h.2 i x hx;refine⟨h1,h2,λj c hc=> ?_⟩;have hj:j<k:=by have:=(zae.1 hc).1;omega
  have bK:i*k+j<xs.length:=by
   rw[h.1]
   calc i*k+j<i*k+k:=by omega
    _=(i+1)*k:=by rw[za2,zbB]
    _<=es.length*k:=zar _ (by omega)
  have:=h3 j c hc;simp only[zab] at this⊢;rw[zaT bK];exact this
 rw[za7 (by omega)] at hx;obtain⟨h1,h2,h3⟩:=h'.2 _ x hx;refine⟨h1,h2,λj c hc=> ?_⟩;have hge:xs.length<=i*k+j:=by rw[h.1];have:es.length*k<=i*k:=zar _ (by omega);omega
 have e:i*k+j-xs.length=(i-es.length)*k+j:=by rw[h.1,Nat.sub_mul];have:es.length*k<=i*k:=zar _ (by omega);omega
 have:=h3 j c hc;simp only[zab] at this⊢;rw[za7 hge,e];exact this
theorem eG.take{F w k es}{cs}(hE:n5 F w cs k es){len}(hl:len<=es.length)(dS:es.length*k<=cs.size):eG F w k (es.take len) (cs.toList.take (len*k)):=by
 refine⟨?_,λi x hx=> ?_⟩
 ·have:len*k<=es.length*k:=zar _ hl;simp;rw[zcv (by omega),zcv hl]
 rw[zbK] at hx;split at hx
 next hi=>
  obtain⟨h1,h2,h3⟩:=hE i x hx;refine⟨h1,h2,λj c hc=> ?_⟩;have hj:j<k:=by have:=(zae.1 hc).1;omega
  have bK:i*k+j<len*k:=by
   calc i*k+j<i*k+k:=by omega
    _=(i+1)*k:=by rw[za2,zbB]
    _<=len*k:=zar _ (by omega)
  have:=h3 j c hc;rw[fW] at this;simp only[zab];rw[zbK,zap bK];exact this
 cases hx
theorem eG.toE{F w k es}{cs}(h:eG F w k es (cs.toList.take (es.length*k))):n5 F w cs k es:=by
 intro i x hx;obtain⟨h1,h2,h3⟩:=h.2 i x hx;refine⟨h1,h2,λj c hc=> ?_⟩;have hi:i<es.length:=(zae.1 hx).1;have hj:j<k:=by have:=(zae.1 hc).1;omega
 have bK:i*k+j<es.length*k:=by
  calc i*k+j<i*k+k:=by omega
   _=(i+1)*k:=by rw[za2,zbB]
   _<=es.length*k:=zar _ (by omega)
 have:=h3 j c hc;rw[fW];simp only[zab] at this;rw[zbK,zap bK] at this;exact this
theorem eG.one{F w k es}{xs}(h:eG F w k es xs)(hk:0<k): ∀u∈xs,u.oneCell'=true:=by
 intro u hu;obtain⟨m,hm⟩:=zaV hu;have hml:m<es.length*k:=by rw[<-h.1];exact(zae.1 hm).1
 have hi:m/k<es.length:=(zcV hk).2 hml;obtain⟨h1,h2,h3⟩:=h.2 (m/k) _ (zad hi);have hj:m%k<(es[m/k]).cells.length:=by rw[h1];exact zdh _ hk
 have:=h3 (m%k) _ (zad hj);have e:m/k*k+m%k=m:=by rw[zco];exact zdu m k
 rw[e] at this;simp only[zab,hm,zca] at this;exact this.o5 (h2 _ (zas hj))
section
variable{Q:Program}{T:Tg}{F:Nat->Prop}{G:Nat->Value}{w:World}{a:Act}{s:S}
theorem rX{t tx ty e i}(ht:Q.underlying t=some (.slice e))(hi:Q.info? e=some i){b LH qft cur}(hg:w.heap[b]?=some (.cells cur e (0,0))){x n news}(hs:Src Q i.size tx x n news w)
  (pQ:LH+n<=qft) (H9:LH*i.size+news.length<=cur.size):
  (Builtin.append_ #[t,tx] ty #[.slice (some ⟨b,0,none⟩) LH qft,x]).run Q w= .ok (.slice (some ⟨b,0,none⟩) (LH+n) qft) (w.setRow b (cur.toList.take (LH*i.size)++news++cur.toList.drop (LH*i.size+news.length)).toArray):=by
 have kH:=run_storeCells_at Q b (LH*i.size) e news 0 cur w hg (by simpa using H9) hs.one;simp only[zb1] at kH;rcases hs.kind with⟨e',hk⟩|hk<;>simp[Builtin.append_,run_underlying ht,run_underlying hk,Go.sizeOf,typeInfo,hi,hs.len,pQ,hs.cells,addr_add,kH]
theorem o8{t tx ty e i}(ht:Q.underlying t=some (.slice e))(hi:Q.info? e=some i){x}(hs:Src Q i.size tx x 0 [] w):
  (Builtin.append_ #[t,tx] ty #[.slice none 0 0,x]).run Q w= .ok (.slice none 0 0) w:=by
 rcases hs.kind with⟨e',hk⟩|hk<;>simp[Builtin.append_,run_underlying ht,run_underlying hk,Go.sizeOf,typeInfo,hi,hs.len,hs.cells]
theorem qI{t tx ty e i z}(ht:Q.underlying t=some (.slice e))(hi:Q.info? e=some i)(hz:i.zero=some z)(hzs:z.cells.size=i.size)
  {v n xs} (fB:w.ownsRow 0 e i.size v n xs) {x m news} (hs:Src Q i.size tx x m news w) (h63:n+m<=maxLen) (Ff:(n+m)*i.bytes<=140737488355328):
  ∃v' w',(Builtin.append_ #[t,tx] ty #[v,x]).run Q w= .ok v' w'/\w'.ownsRow 0 e i.size v' (n+m) (xs++news)/\w.grownBy w' v.ownBlock/\(∀b,v'.ownBlock=some b->w.heap.size<=b\/v.ownBlock=some b):=by
 have hl:=hs.newsLen;have qna:n+m<=9223372036854775807:=by simp only[maxLen] at h63;omega
 have hlen:(xs++news).length=(n+m)*i.size:=by rw[zaj,fB.1,hl,za2]
 have grown: ∀(old:Nat),old<n+m-> ∀(row:Option Nat),
   (w.drew.alloc (.cells ((xs++news).toArray++Builtin.zeroCells z.cells (grownCap w (n+m) old e-(n+m))) e)).ownsRow 0 e i.size
    (.slice (some ⟨w.heap.size,0,none⟩) (n+m) (grownCap w (n+m) old e)) (n+m) (xs++news)/\
   w.grownBy (w.drew.alloc (.cells ((xs++news).toArray++Builtin.zeroCells z.cells (grownCap w (n+m) old e-(n+m))) e)) row:=by
  intro old ho row;have hge:=grownCap_ge w (n+m) old e;have BR:grownCap w (n+m) old e<=maxLen:=grownCap_le_maxLen w (n+m) old e h63;refine⟨⟨hlen,.inr ⟨w.heap.size,_,_,rfl,zbd _,heap_alloc_new w.drew _,hge,BR,?_,?_⟩⟩,⟨rfl,rfl,rfl,by simp,λk hk _=>heap_alloc_old w.drew _ k hk⟩⟩
  ·simp only[Array.size_append,zcH,size_zeroCells,hzs,hlen,<-za2];congr 1;omega
  simp only[Array.toList_append];rw[<-hlen];exact List.take_left
 rcases fB.2 with⟨rfl,rfl⟩| ⟨g,cap,cur,rfl,hbg,hg,hnc,BR,hcs,T6⟩
 ·have hx:xs=[]:=zaB (by simpa using fB.1);subst hx;by_cases hm:m=0
  ·subst hm;have hn:news=[]:=zaB (by simpa using hl);subst hn;exact⟨.slice none 0 0,w,o8 ht hi hs,World.ownsRow_nil w 0 e i.size,⟨rfl,rfl,rfl,zal _,λ_ _ _=>rfl⟩,λb hb=>by simp[Value.ownBlock] at hb⟩
  have hr:=run_append_grow_src (P:=Q) w t tx ty e i z ht hi hz none 0 0 [] (by simp[Builtin.firstCells]) x m news hs (by omega) (by omega) (growslice_fits (by omega) Ff);have ru:=grown 0 (by omega) (Value.ownBlock (.slice none 0 0));simp only[zbq] at hr ru;exact⟨_,_,hr,ru.1,ru.2,λb hb=> .inl (by simp[Value.ownBlock] at hb;omega)⟩
 by_cases pQ:n+m<=cap
 ·have H9:n*i.size+news.length<=cur.size:=by rw[hl,hcs,<-za2];exact zar _ pQ
  have hr:=rX (ty:=ty) ht hi hg hs pQ H9;refine⟨_,_,hr,⟨hlen,.inr ⟨g,cap,_,rfl,hbg,setRow_heap w g cur _ e _ hg,pQ,BR,?_,?_⟩⟩,⟨rfl,rfl,rfl,by simp,λk _ hk=>setRow_other w g k _ (λe=>hk (by simp[Value.ownBlock,e]))⟩,λb hb=> .inr hb⟩
  ·simp only[zcH,zaj,zau,zbk,zc5];omega
  rw[T6,<-hlen];exact List.take_left
 have holds: ∀j u,xs[j]?=some u->w.drew.cell? ((⟨g,0,none⟩:Addr).add j)=some u:=fB.cells (g:=g) rfl;have hr:=run_append_grow_src (P:=Q) w t tx ty e i z ht hi hz (some ⟨g,0,none⟩) n cap xs (run_firstCells_some w.drew i.size n ⟨g,0,none⟩ n cap xs fB.1 holds) x m news hs (by omega) (by omega) (growslice_fits (by omega) Ff);have ru:=grown cap (by omega) (Value.ownBlock (.slice (some ⟨g,0,none⟩) n cap));exact⟨_,_,hr,ru.1,ru.2,λb hb=> .inl (by simp[Value.ownBlock] at hb;omega)⟩
end
end Pi
