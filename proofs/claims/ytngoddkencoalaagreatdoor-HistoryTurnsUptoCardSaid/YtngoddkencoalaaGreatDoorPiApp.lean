/- The text PiApp. -/
import Derived.Test.YtngoddkencoalaaGreatDoorPiEfOk3
namespace Pi
open Go
def eu(F:Nat->Prop)(w:World)(k:Nat)(es:List D)(xs:List Value):Prop:=
 xs.length=es.length*k/\ ∀(i:Nat) (x:D),es[i]?=some x->x.cells.length=k/\(∀c∈x.cells,c.bA=true)/\ ∀(j:Nat) (c:D),x.cells[j]?=some c->aS F w (xs.getD (i*k+j) undef) c
theorem eu.mono{F F':Nat->Prop}{w w':World}{k:Nat}{es:List D}{xs:List Value}(hF: ∀b,F b->F' b)(hw: ∀b,F b->w'.heap[b]?=w.heap[b]?)(h:eu F w k es xs):eu F' w' k es xs:=
 ⟨h.1,λi x hx=>let ⟨h1,h2,h3⟩:=h.2 i x hx;⟨h1,h2,λj c hc=>(h3 j c hc).mono hF hw⟩⟩
theorem eu.nil(F:Nat->Prop)(w:World)(k:Nat):eu F w k [] []:=⟨by simp,λi x hx=>by simp at hx⟩
theorem eu.append{F:Nat->Prop}{w:World}{k:Nat}{es ys:List D}{xs news:List Value}(h:eu F w k es xs)(h':eu F w k ys news):eu F w k (es++ys) (xs++news):=by
 refine⟨by simp[h.1,h'.1,zaZ],λi x hx=> ?_⟩;by_cases hi:i<es.length
 ·rw[zaR hi] at hx;obtain⟨h1,h2,h3⟩:=h.2 i x hx;refine⟨h1,h2,λj c hc=> ?_⟩;have hj:j<k:=by have:=(zaf.1 hc).1;omega
  have bJ:i*k+j<xs.length:=by
   rw[h.1]
   calc i*k+j<i*k+k:=by omega
    _=(i+1)*k:=by rw[zaZ,zbs]
    _<=es.length*k:=zar _ (by omega)
  have:=h3 j c hc;simp only[zad] at this⊢;rw[zaR bJ];exact this
 rw[za2 (by omega)] at hx;obtain⟨h1,h2,h3⟩:=h'.2 _ x hx;refine⟨h1,h2,λj c hc=> ?_⟩;have hge:xs.length<=i*k+j:=by rw[h.1];have:es.length*k<=i*k:=zar _ (by omega);omega
 have e:i*k+j-xs.length=(i-es.length)*k+j:=by rw[h.1,Nat.sub_mul];have:es.length*k<=i*k:=zar _ (by omega);omega
 have:=h3 j c hc;simp only[zad] at this⊢;rw[za2 hge,e];exact this
theorem eu.take{F:Nat->Prop}{w:World}{k:Nat}{es:List D}{cs:Array Value}(hE:nB F w cs k es){len:Nat}(hl:len<=es.length)(dN:es.length*k<=cs.size):eu F w k (es.take len) (cs.toList.take (len*k)):=by
 refine⟨?_,λi x hx=> ?_⟩
 ·have:len*k<=es.length*k:=zar _ hl;simp;rw[zcq (by omega),zcq hl]
 rw[zbD] at hx;split at hx
 next hi=>
  obtain⟨h1,h2,h3⟩:=hE i x hx;refine⟨h1,h2,λj c hc=> ?_⟩;have hj:j<k:=by have:=(zaf.1 hc).1;omega
  have bJ:i*k+j<len*k:=by
   calc i*k+j<i*k+k:=by omega
    _=(i+1)*k:=by rw[zaZ,zbs]
    _<=len*k:=zar _ (by omega)
  have:=h3 j c hc;rw[fL] at this;simp only[zad];rw[zbD,zap bJ];exact this
 cases hx
theorem eu.toE{F:Nat->Prop}{w:World}{k:Nat}{es:List D}{cs:Array Value}(h:eu F w k es (cs.toList.take (es.length*k))):nB F w cs k es:=by
 intro i x hx;obtain⟨h1,h2,h3⟩:=h.2 i x hx;refine⟨h1,h2,λj c hc=> ?_⟩;have hi:i<es.length:=(zaf.1 hx).1;have hj:j<k:=by have:=(zaf.1 hc).1;omega
 have bJ:i*k+j<es.length*k:=by
  calc i*k+j<i*k+k:=by omega
   _=(i+1)*k:=by rw[zaZ,zbs]
   _<=es.length*k:=zar _ (by omega)
 have:=h3 j c hc;rw[fL];simp only[zad] at this;rw[zbD,zap bJ] at this;exact this
theorem eu.one{F:Nat->Prop}{w:World}{k:Nat}{es:List D}{xs:List Value}(h:eu F w k es xs)(hk:0<k): ∀u∈xs,u.oneCell'=true:=by
 intro u hu;obtain⟨m,hm⟩:=zaX hu;have Y6:m<es.length*k:=by rw[<-h.1];exact(zaf.1 hm).1
 have hi:m/k<es.length:=(zcQ hk).2 Y6;obtain⟨h1,h2,h3⟩:=h.2 (m/k) _ (zac hi);have hj:m%k<(es[m/k]).cells.length:=by rw[h1];exact zc8 _ hk
 have:=h3 (m%k) _ (zac hj);have e:m/k*k+m%k=m:=by rw[zcm];exact zdl m k
 rw[e] at this;simp only[zad,hm,zb9] at this;exact this.oD (h2 _ (zaq hj))
section
variable{Q:Program}{T:Tg}{F:Nat->Prop}{G:Nat->Value}{w:World}{a:Act}{s:S}
theorem ru{t tx ty e:TypeId}{i:TypeInfo}(ht:Q.underlying t=some (.slice e))(hi:Q.info? e=some i){b Kd qej:Nat}{cur:Array Value}(hg:w.heap[b]?=some (.cells cur e (0,0))){x:Value}{n:Nat}{news:List Value}(hs:Src Q i.size tx x n news w)
  (pk:Kd+n<=qej) (GO:Kd*i.size+news.length<=cur.size):
  (Builtin.append_ #[t,tx] ty #[.slice (some ⟨b,0,none⟩) Kd qej,x]).run Q w= .ok (.slice (some ⟨b,0,none⟩) (Kd+n) qej) (w.setRow b (cur.toList.take (Kd*i.size)++news++cur.toList.drop (Kd*i.size+news.length)).toArray):=by
 have jv:=run_storeCells_at Q b (Kd*i.size) e news 0 cur w hg (by simpa using GO) hs.one;simp only[zb0] at jv;rcases hs.kind with⟨e',hk⟩|hk<;>simp[Builtin.append_,run_underlying ht,run_underlying hk,Go.sizeOf,typeInfo,hi,hs.len,pk,hs.cells,addr_add,jv]
theorem oH{t tx ty e:TypeId}{i:TypeInfo}(ht:Q.underlying t=some (.slice e))(hi:Q.info? e=some i){x:Value}(hs:Src Q i.size tx x 0 [] w):
  (Builtin.append_ #[t,tx] ty #[.slice none 0 0,x]).run Q w= .ok (.slice none 0 0) w:=by
 rcases hs.kind with⟨e',hk⟩|hk<;>simp[Builtin.append_,run_underlying ht,run_underlying hk,Go.sizeOf,typeInfo,hi,hs.len,hs.cells]
theorem qo{t tx ty e:TypeId}{i:TypeInfo}{z:Value}(ht:Q.underlying t=some (.slice e))(hi:Q.info? e=some i)(hz:i.zero=some z)(hzs:z.cells.size=i.size)
  {v:Value} {n:Nat} {xs:List Value} (ga:w.ownsRow 0 e i.size v n xs) {x:Value} {m:Nat} {news:List Value} (hs:Src Q i.size tx x m news w) (h63:n+m<=maxLen) (D5:(n+m)*i.bytes<=140737488355328):
  ∃v' w',(Builtin.append_ #[t,tx] ty #[v,x]).run Q w= .ok v' w'/\w'.ownsRow 0 e i.size v' (n+m) (xs++news)/\w.grownBy w' v.ownBlock/\(∀b,v'.ownBlock=some b->w.heap.size<=b\/v.ownBlock=some b):=by
 have hl:=hs.newsLen;have qkL:n+m<=9223372036854775807:=by simp only[maxLen] at h63;omega
 have hlen:(xs++news).length=(n+m)*i.size:=by rw[zah,ga.1,hl,zaZ]
 have grown: ∀(old:Nat),old<n+m-> ∀(row:Option Nat),
   (w.drew.alloc (.cells ((xs++news).toArray++Builtin.zeroCells z.cells (grownCap w (n+m) old e-(n+m))) e)).ownsRow 0 e i.size
    (.slice (some ⟨w.heap.size,0,none⟩) (n+m) (grownCap w (n+m) old e)) (n+m) (xs++news)/\
   w.grownBy (w.drew.alloc (.cells ((xs++news).toArray++Builtin.zeroCells z.cells (grownCap w (n+m) old e-(n+m))) e)) row:=by
  intro old ho row;have hge:=grownCap_ge w (n+m) old e;have yL:grownCap w (n+m) old e<=maxLen:=grownCap_le_maxLen w (n+m) old e h63;refine⟨⟨hlen,.inr ⟨w.heap.size,_,_,rfl,za1 _,heap_alloc_new w.drew _,hge,yL,?_,?_⟩⟩,⟨rfl,rfl,rfl,by simp,λk hk _=>heap_alloc_old w.drew _ k hk⟩⟩
  ·simp only[Array.size_append,zcD,size_zeroCells,hzs,hlen,<-zaZ];congr 1;omega
  simp only[Array.toList_append];rw[<-hlen];exact List.take_left
 rcases ga.2 with⟨rfl,rfl⟩| ⟨g,cap,cur,rfl,hbg,hg,hnc,yL,hcs,Sf⟩
 ·have hx:xs=[]:=zaA (by simpa using ga.1);subst hx;by_cases hm:m=0
  ·subst hm;have hn:news=[]:=zaA (by simpa using hl);subst hn;exact⟨.slice none 0 0,w,oH ht hi hs,World.ownsRow_nil w 0 e i.size,⟨rfl,rfl,rfl,zak _,λ_ _ _=>rfl⟩,λb hb=>by simp[Value.ownBlock] at hb⟩
  have hr:=run_append_grow_src (P:=Q) w t tx ty e i z ht hi hz none 0 0 [] (by simp[Builtin.firstCells]) x m news hs (by omega) (by omega) (growslice_fits (by omega) D5);have pn:=grown 0 (by omega) (Value.ownBlock (.slice none 0 0));simp only[zbk] at hr pn;exact⟨_,_,hr,pn.1,pn.2,λb hb=> .inl (by simp[Value.ownBlock] at hb;omega)⟩
 by_cases pk:n+m<=cap
 ·have GO:n*i.size+news.length<=cur.size:=by rw[hl,hcs,<-zaZ];exact zar _ pk
  have hr:=ru (ty:=ty) ht hi hg hs pk GO;refine⟨_,_,hr,⟨hlen,.inr ⟨g,cap,_,rfl,hbg,setRow_heap w g cur _ e _ hg,pk,yL,?_,?_⟩⟩,⟨rfl,rfl,rfl,by simp,λk _ hk=>setRow_other w g k _ (λe=>hk (by simp[Value.ownBlock,e]))⟩,λb hb=> .inr hb⟩
  ·simp only[zcD,zah,zas,zbe,zcr];omega
  rw[Sf,<-hlen];exact List.take_left
 have holds: ∀j u,xs[j]?=some u->w.drew.cell? ((⟨g,0,none⟩:Addr).add j)=some u:=ga.cells (g:=g) rfl;have hr:=run_append_grow_src (P:=Q) w t tx ty e i z ht hi hz (some ⟨g,0,none⟩) n cap xs (run_firstCells_some w.drew i.size n ⟨g,0,none⟩ n cap xs ga.1 holds) x m news hs (by omega) (by omega) (growslice_fits (by omega) D5);have pn:=grown cap (by omega) (Value.ownBlock (.slice (some ⟨g,0,none⟩) n cap));exact⟨_,_,hr,pn.1,pn.2,λb hb=> .inl (by simp[Value.ownBlock] at hb;omega)⟩
end
end Pi
