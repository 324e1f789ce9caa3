/- The text PiApp. -/
import Derived.Test.YtngoddkencoalaaGreatDoorPiEfOk3
namespace Pi
open Go
def dW (F:Nat->Prop) (w:World) (k:Nat) (es:List D) (xs:List Value):Prop:=
 xs.length=es.length*k/\ ∀(i:Nat) (x:D),es[i]?=some x->x.cells.length=k/\(∀c∈x.cells,c.bC=true)/\ ∀(j:Nat) (c:D),x.cells[j]?=some c->aW F w (xs.getD (i*k+j) undef) c
theorem dW.mono {F F':Nat->Prop} {w w':World} {k:Nat} {es:List D} {xs:List Value} (hF: ∀b,F b->F' b) (hw: ∀b,F b->w'.heap[b]?=w.heap[b]?) (h:dW F w k es xs):dW F' w' k es xs:=
 ⟨h.1,fun i x hx=>let ⟨h1,h2,h3⟩:=h.2 i x hx;⟨h1,h2,fun j c hc=>(h3 j c hc).mono hF hw⟩⟩
theorem dW.nil (F:Nat->Prop) (w:World) (k:Nat):dW F w k [] []:=⟨by simp,fun i x hx=>by simp at hx⟩
theorem dW.append {F:Nat->Prop} {w:World} {k:Nat} {es ys:List D} {xs news:List Value} (h:dW F w k es xs) (h':dW F w k ys news):dW F w k (es++ys) (xs++news):=by
 refine⟨by simp[h.1,h'.1,Nat.add_mul],fun i x hx=> ?_⟩
 by_cases hi:i<es.length
 ·rw[List.getElem?_append_left hi] at hx
  obtain⟨h1,h2,h3⟩:=h.2 i x hx
  refine⟨h1,h2,fun j c hc=> ?_⟩
  have hj:j<k:=by have:=(List.getElem?_eq_some_iff.1 hc).1;omega
  have bk:i*k+j<xs.length:=by
   rw[h.1]
   calc i*k+j<i*k+k:=by omega
    _=(i+1)*k:=by rw[Nat.add_mul,Nat.one_mul]
    _<=es.length*k:=Nat.mul_le_mul_right _ (by omega)
  have:=h3 j c hc
  simp only[List.getD_eq_getElem?_getD] at this⊢
  rw[List.getElem?_append_left bk]
  exact this
 ·rw[List.getElem?_append_right (by omega)] at hx
  obtain⟨h1,h2,h3⟩:=h'.2 _ x hx
  refine⟨h1,h2,fun j c hc=> ?_⟩
  have hge:xs.length<=i*k+j:=by
   rw[h.1]
   have:es.length*k<=i*k:=Nat.mul_le_mul_right _ (by omega)
   omega
  have e:i*k+j-xs.length=(i-es.length)*k+j:=by
   rw[h.1,Nat.sub_mul]
   have:es.length*k<=i*k:=Nat.mul_le_mul_right _ (by omega)
   omega
  have:=h3 j c hc
  simp only[List.getD_eq_getElem?_getD] at this⊢
  rw[List.getElem?_append_right hge,e]
  exact this
theorem dW.take {F:Nat->Prop} {w:World} {k:Nat} {es:List D} {cs:Array Value} (hE:lR F w cs k es) {len:Nat} (hl:len<=es.length) (cJ:es.length*k<=cs.size):dW F w k (es.take len) (cs.toList.take (len*k)):=by
 refine⟨?_,fun i x hx=> ?_⟩
 ·have:len*k<=es.length*k:=Nat.mul_le_mul_right _ hl
  simp
  rw[Nat.min_eq_left (by omega),Nat.min_eq_left hl]
 ·rw[List.getElem?_take] at hx
  split at hx
  ·rename_i hi
   obtain⟨h1,h2,h3⟩:=hE i x hx
   refine⟨h1,h2,fun j c hc=> ?_⟩
   have hj:j<k:=by have:=(List.getElem?_eq_some_iff.1 hc).1;omega
   have bk:i*k+j<len*k:=by
    calc i*k+j<i*k+k:=by omega
     _=(i+1)*k:=by rw[Nat.add_mul,Nat.one_mul]
     _<=len*k:=Nat.mul_le_mul_right _ (by omega)
   have:=h3 j c hc
   rw[fm] at this
   simp only[List.getD_eq_getElem?_getD]
   rw[List.getElem?_take,if_pos bk]
   exact this
  ·cases hx
theorem dW.toE {F:Nat->Prop} {w:World} {k:Nat} {es:List D} {cs:Array Value} (h:dW F w k es (cs.toList.take (es.length*k))):lR F w cs k es:=by
 intro i x hx
 obtain⟨h1,h2,h3⟩:=h.2 i x hx
 refine⟨h1,h2,fun j c hc=> ?_⟩
 have hi:i<es.length:=(List.getElem?_eq_some_iff.1 hx).1
 have hj:j<k:=by have:=(List.getElem?_eq_some_iff.1 hc).1;omega
 have bk:i*k+j<es.length*k:=by
  calc i*k+j<i*k+k:=by omega
   _=(i+1)*k:=by rw[Nat.add_mul,Nat.one_mul]
   _<=es.length*k:=Nat.mul_le_mul_right _ (by omega)
 have:=h3 j c hc
 rw[fm]
 simp only[List.getD_eq_getElem?_getD] at this
 rw[List.getElem?_take,if_pos bk] at this
 exact this
theorem dW.one {F:Nat->Prop} {w:World} {k:Nat} {es:List D} {xs:List Value} (h:dW F w k es xs) (hk:0<k): ∀u∈xs,u.oneCell'=true:=by
 intro u hu
 obtain⟨m,hm⟩:=List.getElem?_of_mem hu
 have Kh:m<es.length*k:=by rw[<-h.1];exact(List.getElem?_eq_some_iff.1 hm).1
 have hi:m/k<es.length:=(Nat.div_lt_iff_lt_mul hk).2 Kh
 obtain⟨h1,h2,h3⟩:=h.2 (m/k) _ (List.getElem?_eq_getElem hi)
 have hj:m%k<(es[m/k]).cells.length:=by rw[h1];exact Nat.mod_lt _ hk
 have:=h3 (m%k) _ (List.getElem?_eq_getElem hj)
 have e:m/k*k+m%k=m:=by rw[Nat.mul_comm];exact Nat.div_add_mod m k
 rw[e] at this
 simp only[List.getD_eq_getElem?_getD,hm,Option.getD_some] at this
 exact this.mK (h2 _ (List.getElem_mem hj))
section
variable {Q:Program} {T:Tg} {F:Nat->Prop} {G:Nat->Value} {w:World} {a:Act} {s:S}
theorem pW {t tx ty e:TypeId} {i:TypeInfo} (ht:Q.underlying t=some (.slice e)) (hi:Q.info? e=some i) {b Gj YV:Nat} {cur:Array Value} (hg:w.heap[b]?=some (.cells cur e (0,0))) {x:Value} {n:Nat} {news:List Value} (hs:Src Q i.size tx x n news w)
  (nH:Gj+n<=YV) (Bq:Gj*i.size+news.length<=cur.size):
  (Builtin.append_ #[t,tx] ty #[.slice (some ⟨b,0,none⟩) Gj YV,x]).run Q w= .ok (.slice (some ⟨b,0,none⟩) (Gj+n) YV) (w.setRow b (cur.toList.take (Gj*i.size)++news++cur.toList.drop (Gj*i.size+news.length)).toArray):=by
 have jj:=run_storeCells_at Q b (Gj*i.size) e news 0 cur w hg (by simpa using Bq) hs.one
 simp only[Nat.add_zero] at jj
 rcases hs.kind with⟨e',hk⟩|hk<;>simp[Builtin.append_,run_underlying ht,run_underlying hk,Go.sizeOf,typeInfo,hi,hs.len,nH,hs.cells,addr_add,jj]
theorem mN {t tx ty e:TypeId} {i:TypeInfo} (ht:Q.underlying t=some (.slice e)) (hi:Q.info? e=some i) {x:Value} (hs:Src Q i.size tx x 0 [] w):
  (Builtin.append_ #[t,tx] ty #[.slice none 0 0,x]).run Q w= .ok (.slice none 0 0) w:=by
 rcases hs.kind with⟨e',hk⟩|hk<;>simp[Builtin.append_,run_underlying ht,run_underlying hk,Go.sizeOf,typeInfo,hi,hs.len,hs.cells]
theorem oE {t tx ty e:TypeId} {i:TypeInfo} {z:Value} (ht:Q.underlying t=some (.slice e)) (hi:Q.info? e=some i) (hz:i.zero=some z) (YW:z.cells.size=i.size)
  {v:Value} {n:Nat} {xs:List Value} (ep:w.ownsRow 0 e i.size v n xs) {x:Value} {m:Nat} {news:List Value} (hs:Src Q i.size tx x m news w) (h63:n+m<=maxLen) (Br:(n+m)*i.bytes<=140737488355328):
  ∃v' w',(Builtin.append_ #[t,tx] ty #[v,x]).run Q w= .ok v' w'/\w'.ownsRow 0 e i.size v' (n+m) (xs++news)/\w.grownBy w' v.ownBlock/\(∀b,v'.ownBlock=some b->w.heap.size<=b\/v.ownBlock=some b):=by
 have hl:=hs.newsLen
 have qfO:n+m<=9223372036854775807:=by simp only[maxLen] at h63;omega
 have hlen:(xs++news).length=(n+m)*i.size:=by rw[List.length_append,ep.1,hl,Nat.add_mul]
 have grown: ∀(old:Nat),old<n+m-> ∀(row:Option Nat),
   (w.drew.alloc (.cells ((xs++news).toArray++Builtin.zeroCells z.cells (grownCap w (n+m) old e-(n+m))) e)).ownsRow 0 e i.size
    (.slice (some ⟨w.heap.size,0,none⟩) (n+m) (grownCap w (n+m) old e)) (n+m) (xs++news)/\
   w.grownBy (w.drew.alloc (.cells ((xs++news).toArray++Builtin.zeroCells z.cells (grownCap w (n+m) old e-(n+m))) e)) row:=by
  intro old ho row
  have hge:=grownCap_ge w (n+m) old e
  have yq:grownCap w (n+m) old e<=maxLen:=grownCap_le_maxLen w (n+m) old e h63
  refine⟨⟨hlen,.inr ⟨w.heap.size,_,_,rfl,Nat.zero_le _,heap_alloc_new w.drew _,hge,yq,?_,?_⟩⟩,⟨rfl,rfl,rfl,by simp,fun k hk _=>heap_alloc_old w.drew _ k hk⟩⟩
  ·simp only[Array.size_append,List.size_toArray,size_zeroCells,YW,hlen,<-Nat.add_mul]
   congr 1
   omega
  ·simp only[Array.toList_append]
   rw[<-hlen]
   exact List.take_left
 rcases ep.2 with⟨rfl,rfl⟩| ⟨g,cap,cur,rfl,hbg,hg,hnc,yq,hcs,NB⟩
 ·have hx:xs=[]:=List.eq_nil_of_length_eq_zero (by simpa using ep.1)
  subst hx
  by_cases hm:m=0
  ·subst hm
   have hn:news=[]:=List.eq_nil_of_length_eq_zero (by simpa using hl)
   subst hn
   exact⟨.slice none 0 0,w,mN ht hi hs,World.ownsRow_nil w 0 e i.size,⟨rfl,rfl,rfl,Nat.le_refl _,fun _ _ _=>rfl⟩,fun b hb=>by simp[Value.ownBlock] at hb⟩
  ·have hr:=run_append_grow_src (P:=Q) w t tx ty e i z ht hi hz none 0 0 [] (by simp[Builtin.firstCells]) x m news hs (by omega) (by omega) (growslice_fits (by omega) Br)
   have pB:=grown 0 (by omega) (Value.ownBlock (.slice none 0 0))
   simp only[List.nil_append] at hr pB
   exact⟨_,_,hr,pB.1,pB.2,fun b hb=> .inl (by simp[Value.ownBlock] at hb;omega)⟩
 ·by_cases nH:n+m<=cap
  ·have Bq:n*i.size+news.length<=cur.size:=by rw[hl,hcs,<-Nat.add_mul];exact Nat.mul_le_mul_right _ nH
   have hr:=pW (ty:=ty) ht hi hg hs nH Bq
   refine⟨_,_,hr,⟨hlen,.inr ⟨g,cap,_,rfl,hbg,setRow_heap w g cur _ e _ hg,nH,yq,?_,?_⟩⟩,⟨rfl,rfl,rfl,by simp,fun k _ hk=>setRow_other w g k _ (fun e=>hk (by simp[Value.ownBlock,e]))⟩,fun b hb=> .inr hb⟩
   ·simp only[List.size_toArray,List.length_append,List.length_take,List.length_drop,Array.length_toList]
    omega
   ·rw[NB,<-hlen]
    exact List.take_left
  ·have holds: ∀j u,xs[j]?=some u->w.drew.cell? ((⟨g,0,none⟩:Addr).add j)=some u:=ep.cells (g:=g) rfl
   have hr:=run_append_grow_src (P:=Q) w t tx ty e i z ht hi hz (some ⟨g,0,none⟩) n cap xs (run_firstCells_some w.drew i.size n ⟨g,0,none⟩ n cap xs ep.1 holds) x m news hs (by omega) (by omega) (growslice_fits (by omega) Br)
   have pB:=grown cap (by omega) (Value.ownBlock (.slice (some ⟨g,0,none⟩) n cap))
   exact⟨_,_,hr,pB.1,pB.2,fun b hb=> .inl (by simp[Value.ownBlock] at hb;omega)⟩
end
end Pi
