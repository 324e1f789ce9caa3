/- The text PiApp. -/
import Derived.Test.YtfelfooeclnbiaaPiEfOk3
namespace Pi
open Go
def bJ(F:Nat->Prop)(w:World)(k:Nat)(es:List D)(xs:List Value):Prop:=
 xs.length=es.length*k/\ ∀(i:Nat) (x:D),es[i]?=some x->x.cells.length=k/\(∀c∈x.cells,c.aG=true)/\ ∀(j:Nat) (c:D),x.cells[j]?=some c->ay F w (xs.getD (i*k+j) undef) c
theorem bJ.mono{F F':Nat->Prop}{w w':World}{k:Nat}{es:List D}{xs:List Value}(hF: ∀b,F b->F' b)(hw: ∀b,F b->w'.heap[b]?=w.heap[b]?)(h:bJ F w k es xs):bJ F' w' k es xs:=
 ⟨h.1,λi x hx=>let ⟨h1,h2,h3⟩:=h.2 i x hx;⟨h1,h2,λj c hc=>(h3 j c hc).mono hF hw⟩⟩
theorem bJ.nil(F:Nat->Prop)(w:World)(k:Nat):bJ F w k [] []:=⟨by simp,λi x hx=>by simp at hx⟩
theorem bJ.append{F:Nat->Prop}{w:World}{k:Nat}{es ys:List D}{xs news:List Value}(h:bJ F w k es xs)(h':bJ F w k ys news):bJ F w k (es++ys) (xs++news):=by
 refine⟨by simp[h.1,h'.1,zas],λi x hx=> ?_⟩;by_cases hi:i<es.length
 ·rw[zau hi] at hx;obtain⟨h1,h2,h3⟩:=h.2 i x hx;refine⟨h1,h2,λj c hc=> ?_⟩;have hj:j<k:=by have:=(zaa.1 hc).1;omega
  have bm:i*k+j<xs.length:=by
   rw[h.1]
   calc i*k+j<i*k+k:=by omega
    _=(i+1)*k:=by rw[zas,zaI]
    _<=es.length*k:=zaf _ (by omega)
  have:=h3 j c hc;simp only[zah] at this⊢;rw[zau bm];exact this
 rw[zay (by omega)] at hx;obtain⟨h1,h2,h3⟩:=h'.2 _ x hx;refine⟨h1,h2,λj c hc=> ?_⟩;have BT:xs.length<=i*k+j:=by rw[h.1];have:es.length*k<=i*k:=zaf _ (by omega);omega
 have e:i*k+j-xs.length=(i-es.length)*k+j:=by rw[h.1,Nat.sub_mul];have:es.length*k<=i*k:=zaf _ (by omega);omega
 have:=h3 j c hc;simp only[zah] at this⊢;rw[zay BT,e];exact this
theorem bJ.take{F:Nat->Prop}{w:World}{k:Nat}{es:List D}{cs:Array Value}(hE:fj F w cs k es){len:Nat}(hl:len<=es.length)(bn:es.length*k<=cs.size):bJ F w k (es.take len) (cs.toList.take (len*k)):=by
 refine⟨?_,λi x hx=> ?_⟩
 ·have:len*k<=es.length*k:=zaf _ hl;simp;rw[zbZ (by omega),zbZ hl]
 rw[zaO] at hx;split at hx
 next hi=>
  obtain⟨h1,h2,h3⟩:=hE i x hx;refine⟨h1,h2,λj c hc=> ?_⟩;have hj:j<k:=by have:=(zaa.1 hc).1;omega
  have bm:i*k+j<len*k:=by
   calc i*k+j<i*k+k:=by omega
    _=(i+1)*k:=by rw[zas,zaI]
    _<=len*k:=zaf _ (by omega)
  have:=h3 j c hc;rw[dj] at this;simp only[zah];rw[zaO,zax bm];exact this
 cases hx
theorem bJ.BU{F:Nat->Prop}{w:World}{k:Nat}{es:List D}{cs:Array Value}(h:bJ F w k es (cs.toList.take (es.length*k))):fj F w cs k es:=by
 intro i x hx;obtain⟨h1,h2,h3⟩:=h.2 i x hx;refine⟨h1,h2,λj c hc=> ?_⟩;have hi:i<es.length:=(zaa.1 hx).1;have hj:j<k:=by have:=(zaa.1 hc).1;omega
 have bm:i*k+j<es.length*k:=by
  calc i*k+j<i*k+k:=by omega
   _=(i+1)*k:=by rw[zas,zaI]
   _<=es.length*k:=zaf _ (by omega)
 have:=h3 j c hc;rw[dj];simp only[zah] at this;rw[zaO,zax bm] at this;exact this
theorem bJ.one{F:Nat->Prop}{w:World}{k:Nat}{es:List D}{xs:List Value}(h:bJ F w k es xs)(hk:0<k): ∀u∈xs,u.oneCell'=true:=by
 intro u hu;obtain⟨m,hm⟩:=zar hu;have Ao:m<es.length*k:=by rw[<-h.1];exact(zaa.1 hm).1
 have hi:m/k<es.length:=(Nat.div_lt_iff_lt_mul hk).2 Ao;obtain⟨h1,h2,h3⟩:=h.2 (m/k) _ (zab hi);have hj:m%k<(es[m/k]).cells.length:=by rw[h1];exact zb8 _ hk
 have:=h3 (m%k) _ (zab hj);have e:m/k*k+m%k=m:=by rw[zbi];exact zb0 m k
 rw[e] at this;simp only[zah,hm,zbU] at this;exact this.fK (h2 _ (za2 hj))
section
variable{Q:Program}{T:Tg}{F:Nat->Prop}{G:Nat->Value}{w:World}{a:Act}{s:S}
theorem ig{t tx ty e:TypeId}{i:TypeInfo}(ht:Q.underlying t=some (.slice e))(hi:Q.info? e=some i){b rf yL:Nat}{cur:Array Value}(hg:w.heap[b]?=some (.cells cur e (0,0))){x:Value}{n:Nat}{news:List Value}(hs:Src Q i.size tx x n news w)
  (kr:rf+n<=yL) (pL:rf*i.size+news.length<=cur.size):
  (Builtin.append_ #[t,tx] ty #[.slice (some ⟨b,0,none⟩) rf yL,x]).run Q w= .ok (.slice (some ⟨b,0,none⟩) (rf+n) yL) (w.setRow b (cur.toList.take (rf*i.size)++news++cur.toList.drop (rf*i.size+news.length)).toArray):=by
 have gj:=run_storeCells_at Q b (rf*i.size) e news 0 cur w hg (by simpa using pL) hs.one;simp only[zbb] at gj;rcases hs.kind with⟨e',hk⟩|hk<;>simp[Builtin.append_,run_underlying ht,run_underlying hk,Go.sizeOf,typeInfo,hi,hs.len,kr,hs.cells,addr_add,gj]
theorem fN{t tx ty e:TypeId}{i:TypeInfo}(ht:Q.underlying t=some (.slice e))(hi:Q.info? e=some i){x:Value}(hs:Src Q i.size tx x 0 [] w):
  (Builtin.append_ #[t,tx] ty #[.slice none 0 0,x]).run Q w= .ok (.slice none 0 0) w:=by
 rcases hs.kind with⟨e',hk⟩|hk<;>simp[Builtin.append_,run_underlying ht,run_underlying hk,Go.sizeOf,typeInfo,hi,hs.len,hs.cells]
theorem gL{t tx ty e:TypeId}{i:TypeInfo}{z:Value}(ht:Q.underlying t=some (.slice e))(hi:Q.info? e=some i)(hz:i.zero=some z)(tf:z.cells.size=i.size)
  {v:Value} {n:Nat} {xs:List Value} (cg:w.ownsRow 0 e i.size v n xs) {x:Value} {m:Nat} {news:List Value} (hs:Src Q i.size tx x m news w) (Bo:n+m<=maxLen) (oD:(n+m)*i.bytes<=140737488355328):
  ∃v' w',(Builtin.append_ #[t,tx] ty #[v,x]).run Q w= .ok v' w'/\w'.ownsRow 0 e i.size v' (n+m) (xs++news)/\w.grownBy w' v.ownBlock/\(∀b,v'.ownBlock=some b->w.heap.size<=b\/v.ownBlock=some b):=by
 have hl:=hs.newsLen;have BV:n+m<=9223372036854775807:=by simp only[maxLen] at Bo;omega
 have hlen:(xs++news).length=(n+m)*i.size:=by rw[zaq,cg.1,hl,zas]
 have grown: ∀(old:Nat),old<n+m-> ∀(row:Option Nat),
   (w.drew.alloc (.cells ((xs++news).toArray++Builtin.zeroCells z.cells (grownCap w (n+m) old e-(n+m))) e)).ownsRow 0 e i.size
    (.slice (some ⟨w.heap.size,0,none⟩) (n+m) (grownCap w (n+m) old e)) (n+m) (xs++news)/\
   w.grownBy (w.drew.alloc (.cells ((xs++news).toArray++Builtin.zeroCells z.cells (grownCap w (n+m) old e-(n+m))) e)) row:=by
  intro old ho row;have BT:=grownCap_ge w (n+m) old e;have kl:grownCap w (n+m) old e<=maxLen:=grownCap_le_maxLen w (n+m) old e Bo;refine⟨⟨hlen,.inr ⟨w.heap.size,_,_,rfl,zaF _,heap_alloc_new w.drew _,BT,kl,?_,?_⟩⟩,⟨rfl,rfl,rfl,by simp,λk hk _=>heap_alloc_old w.drew _ k hk⟩⟩
  ·simp only[Array.size_append,zbt,size_zeroCells,tf,hlen,<-zas];congr 1;omega
  simp only[Array.toList_append];rw[<-hlen];exact List.take_left
 rcases cg.2 with⟨rfl,rfl⟩| ⟨g,cap,cur,rfl,DI,hg,An,kl,hcs,vq⟩
 ·have hx:xs=[]:=zam (by simpa using cg.1);subst hx;by_cases hm:m=0
  ·subst hm;have hn:news=[]:=zam (by simpa using hl);subst hn;exact⟨.slice none 0 0,w,fN ht hi hs,World.ownsRow_nil w 0 e i.size,⟨rfl,rfl,rfl,zag _,λ_ _ _=>rfl⟩,λb hb=>by simp[Value.ownBlock] at hb⟩
  have hr:=run_append_grow_src (P:=Q) w t tx ty e i z ht hi hz none 0 0 [] (by simp[Builtin.firstCells]) x m news hs (by omega) (by omega) (growslice_fits (by omega) oD);have zR:=grown 0 (by omega) (Value.ownBlock (.slice none 0 0));simp only[zbB] at hr zR;exact⟨_,_,hr,zR.1,zR.2,λb hb=> .inl (by simp[Value.ownBlock] at hb;omega)⟩
 by_cases kr:n+m<=cap
 ·have pL:n*i.size+news.length<=cur.size:=by rw[hl,hcs,<-zas];exact zaf _ kr
  have hr:=ig (ty:=ty) ht hi hg hs kr pL;refine⟨_,_,hr,⟨hlen,.inr ⟨g,cap,_,rfl,DI,setRow_heap w g cur _ e _ hg,kr,kl,?_,?_⟩⟩,⟨rfl,rfl,rfl,by simp,λk _ hk=>setRow_other w g k _ (λe=>hk (by simp[Value.ownBlock,e]))⟩,λb hb=> .inr hb⟩
  ·simp only[zbt,zaq,za9,zaC,zbI];omega
  rw[vq,<-hlen];exact List.take_left
 have holds: ∀j u,xs[j]?=some u->w.drew.cell? ((⟨g,0,none⟩:Addr).add j)=some u:=cg.cells (g:=g) rfl;have hr:=run_append_grow_src (P:=Q) w t tx ty e i z ht hi hz (some ⟨g,0,none⟩) n cap xs (run_firstCells_some w.drew i.size n ⟨g,0,none⟩ n cap xs cg.1 holds) x m news hs (by omega) (by omega) (growslice_fits (by omega) oD);have zR:=grown cap (by omega) (Value.ownBlock (.slice (some ⟨g,0,none⟩) n cap));exact⟨_,_,hr,zR.1,zR.2,λb hb=> .inl (by simp[Value.ownBlock] at hb;omega)⟩
end
end Pi
