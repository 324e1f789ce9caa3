/- The text PiEfOk. -/
import Derived.Test.YtpiohccneeblhaaPiUpd
import Derived.Deep.AppendSrc
namespace Pi
open Go
theorem Names.trans{G1 G2 G3:Nat->Value}{R1 R2 R3:List (Nat×En)}(h:Names G1 G2 R1 R2)(k:Names G2 G3 R2 R3):Names G1 G3 R1 R3:=by
 constructor
 ·intro n e he;obtain⟨e',bb,hv,hl⟩:=h.on n e he;obtain⟨Mf,ER,B7,Lj⟩:=k.on n e' bb;exact⟨Mf,ER,by omega,λh1 h2=>hl (by omega) (Lj (by omega) h2)⟩
 intro n e Mf he ER hv hl;obtain⟨e',bb,B7,Lj⟩:=h.on n e he;obtain⟨e3,On,QQ,Lk⟩:=k.on n e' bb;rw[ER] at On;cases On;exact(k.same n e' Mf bb ER (by omega) hl).trans (h.same n e e' he bb (by omega) (Lk (by omega) hl))
section
variable{Q:Program}{T:Tg}{F:Nat->Prop}{G:Nat->Value}{w:World}{a:Act}{s:S}
theorem zf(h:aq Q T F G w a s){n:Nat}{p q:P}{t:Option TypeId}{s':S}(hs:ml s n p t=some (s',q)){v:Value}(hv:ao F w G s.rg v p):
  ∃G',aq Q T F G' w a s'/\Ext (Own G s.rg) (Own G' s'.rg) F F w w/\Names G G' s.rg s'.rg/\ao F w G' s'.rg v q:=by
 unfold ml at hs;split at hs
 next e=>
  split at hs
  next s1 az hn=>
   simp at hs;obtain⟨rfl,rfl⟩:=hs;obtain⟨h1,h2,h3,h4⟩:=gP h hn (g1:= .slice none 0 0) (w':=w) (λ_ _=>rfl) (zae _) rfl rfl rfl (λb hb=>by simp[ay,aj] at hb) (.inl ⟨aC _ _ _,rfl⟩);refine⟨_,h1,h2,h3,?_⟩;cases hv with
   |d hv=>cases hv;exact .sl n az 0 _ rfl ⟨_,h4,zae _,λ_ _=>⟨none,0,0,aC _ _ _,rfl,zae _⟩⟩
  cases hs
 simp at hs;obtain⟨rfl,rfl⟩:=hs;exact⟨G,h,Ext.refl _ _ _,Names.refl _ _,hv⟩
theorem ky: ∀(ps:List P) (ts:List (Option TypeId)) (n:Nat) (s:S) (G:Nat->Value) (s':S) (qs:List P) (vs:List Value),aq Q T F G w a s->bh s n ps ts=some (s',qs)->vs.length=ps.length->
  (∀(i:Nat) (v:Value) (c:P),vs[i]?=some v->ps[i]?=some c->ao F w G s.rg v c)->
  ∃G',aq Q T F G' w a s'/\Ext (Own G s.rg) (Own G' s'.rg) F F w w/\Names G G' s.rg s'.rg/\vs.length=qs.length/\ ∀(i:Nat) (v:Value) (c:P),vs[i]?=some v->qs[i]?=some c->ao F w G' s'.rg v c
 | [],ts,n,s,G,s',qs,vs,h,hs,hl,hv=>by simp[bh] at hs;obtain⟨rfl,rfl⟩:=hs;exact⟨G,h,Ext.refl _ _ _,Names.refl _ _,hl,λi v c _ hc=>by simp at hc⟩
 |p::ps,ts,n,s,G,s',qs,vs,h,hs,hl,hv=>by
  cases vs with
  |nil=>simp at hl
  |cons v vs=>
   simp only[bh] at hs;split at hs
   ·cases hs
   rename_i s1 q h1;split at hs
   ·rename_i s2 Hb h2;simp at hs;obtain⟨rfl,rfl⟩:=hs;obtain⟨G1,a1,a2,a3,a4⟩:=zf h h1 (hv 0 v p (by simp) (by simp));obtain⟨G2,b1,b2,b3,b4,b5⟩:=ky ps ts.tail (n+1) s1 G1 s2 Hb vs a1 h2 (by simpa using hl)
     (λi u c hu hc=>(hv (i+1) u c (by simpa using hu) (by simpa using hc)).mono (λ_ h=>h) (λ_ _=>rfl) a3)
    refine⟨G2,b1,a2.trans b2,a3.trans b3,by simpa using b4,λi u c hu hc=> ?_⟩;cases i with
    |zero=>simp at hu hc;subst hu;subst hc;exact a4.mono (λ_ h=>h) (λ_ _=>rfl) b3
    |succ i=>exact b5 i u c (by simpa using hu) (by simpa using hc)
   cases hs
theorem oK(w:World)(o:Go.Obj)(b:Nat)(h:b<w.heap.size):(w.alloc o).heap[b]?=w.heap[b]?:=heap_alloc_old w o b h
theorem sk(h:aq Q T F G w a s){dst:Option Nat}{t:TypeId}{ps:List P}{s':S}(hs:jg Q s dst t ps=some s'){cs:Array Value}(hl:cs.toList.length=ps.length)(fc: ∀u∈cs.toList,u.oneCell'=true)
  (hv: ∀(i:Nat) (v:Value) (c:P),cs.toList[i]?=some v->ps[i]?=some c->ao F w G s.rg v c):
  ∃G',aq Q T F G' (w.alloc (.cells cs t)) (a.put dst (.pointer (some ⟨w.heap.size,0,none⟩))) s'/\Ext (Own G s.rg) (Own G' s'.rg) F F w (w.alloc (.cells cs t)):=by
 unfold jg at hs;split at hs
 ·cases hs
 rename_i s1 qs h1;split at hs
 next s2 v h2=>
  obtain⟨G1,a1,a2,a3,a4,a5⟩:=ky ps _ _ s G s1 qs cs.toList h h1 hl hv;have bY: ∀b,b<w.heap.size->(w.alloc (.cells cs t)).heap[b]?=w.heap[b]?:=λb hb=>heap_alloc_old w _ b hb;obtain⟨b1,b2,b3,b4⟩:=gP a1 h2 (g1:= .pointer (some ⟨w.heap.size,0,none⟩)) (w':=w.alloc (.cells cs t)) bY (by simp) rfl rfl rfl (λb hb=>by simp[ay,aj] at hb;omega)
   ⟨w.heap.size,cs,aC _ _ _,heap_alloc_new w _,by simpa using a4,fc,λi p hp=>by
    have hi:i<qs.length:=(zaa.1 hp).1;have JE:i<cs.toList.length:=by omega
    have:=a5 i _ p (zac JE) hp;have e:cs.getD i undef=cs.toList[i]:=by simp[Array.getD,show i<cs.size by simpa using JE]
    rw[e];obtain⟨Aj,xK⟩:=S.gO h2;exact this.mono (λ_ h=>h) (λb hb=>bY b (a1.fw b hb)) (by have:=cI (G:=G1) (g1:= .pointer (some ⟨w.heap.size,0,none⟩)) (R:=s1.rg) (n:=site dst) (e1:=⟨v,none,.box t qs⟩) (λe he=> .inl (xK e he));exact this)⟩
  obtain⟨c1,c2⟩:=bc b1 hs (v:= .pointer (some ⟨w.heap.size,0,none⟩)) (bt.of (.ref (site dst) v 0 _ ⟨_,b4,zae _,λ_ _=>⟨w.heap.size,aC _ _ _,rfl⟩⟩ rfl));refine⟨_,c1,?_⟩;rw[c2];exact a2.trans b2
 cases hs
end
end Pi
