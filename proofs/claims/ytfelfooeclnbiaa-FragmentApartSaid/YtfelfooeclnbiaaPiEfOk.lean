/- The text PiEfOk. -/
import Derived.Test.YtfelfooeclnbiaaPiUpd
import Derived.Deep.AppendSrc
namespace Pi
open Go
theorem Names.trans{G1 G2 G3:Nat->Value}{R1 R2 R3:List (Nat×En)}(h:Names G1 G2 R1 R2)(k:Names G2 G3 R2 R3):Names G1 G3 R1 R3:=by
 constructor
 ·intro n e he;obtain⟨e',a7,hv,hl⟩:=h.on n e he;obtain⟨E8,y4,tD,E9⟩:=k.on n e' a7;exact⟨E8,y4,by omega,λh1 h2=>hl (by omega) (E9 (by omega) h2)⟩
 intro n e E8 he y4 hv hl;obtain⟨e',a7,tD,E9⟩:=h.on n e he;obtain⟨e3,GJ,IK,Eg⟩:=k.on n e' a7;rw[y4] at GJ;cases GJ;rw[k.same n e' E8 a7 y4 (by omega) hl,h.same n e e' he a7 (by omega) (Eg (by omega) hl)]
section
variable{Q:Program}{T:Tg}{F:Nat->Prop}{G:Nat->Value}{w:World}{a:Act}{s:S}
theorem tR(h:aq Q T F G w a s){n:Nat}{p q:P}{t:Option TypeId}{s':S}(hs:jU s n p t=some (s',q)){v:Value}(hv:ak F w G s.rg v p):
  ∃G',aq Q T F G' w a s'/\Ext (Own G s.rg) (Own G' s'.rg) F F w w/\Names G G' s.rg s'.rg/\ak F w G' s'.rg v q:=by
 unfold jU at hs;split at hs
 next e=>
  split at hs
  next s1 aw hn=>
   simp at hs;obtain⟨rfl,rfl⟩:=hs;obtain⟨h1,h2,h3,h4⟩:=eS h hn (g1:= .slice none 0 0) (w':=w) (λ_ _=>rfl) (zaf _) rfl rfl rfl (λb hb=>by simp[aG,ar] at hb) (.inl ⟨av _ _ _,rfl⟩);refine⟨_,h1,h2,h3,?_⟩;cases hv with
   |d hv=>cases hv;exact .sl n aw 0 _ rfl ⟨_,h4,zaf _,λ_ _=>⟨none,0,0,av _ _ _,rfl,zaf _⟩⟩
  cases hs
 simp at hs;obtain⟨rfl,rfl⟩:=hs;exact⟨G,h,Ext.refl _ _ _,Names.refl _ _,hv⟩
theorem ie: ∀(ps:List P) (ts:List (Option TypeId)) (n:Nat) (s:S) (G:Nat->Value) (s':S) (qs:List P) (vs:List Value),aq Q T F G w a s->aS s n ps ts=some (s',qs)->vs.length=ps.length->
  (∀(i:Nat) (v:Value) (c:P),vs[i]?=some v->ps[i]?=some c->ak F w G s.rg v c)->
  ∃G',aq Q T F G' w a s'/\Ext (Own G s.rg) (Own G' s'.rg) F F w w/\Names G G' s.rg s'.rg/\vs.length=qs.length/\ ∀(i:Nat) (v:Value) (c:P),vs[i]?=some v->qs[i]?=some c->ak F w G' s'.rg v c
 | [],ts,n,s,G,s',qs,vs,h,hs,hl,hv=>by simp[aS] at hs;obtain⟨rfl,rfl⟩:=hs;exact⟨G,h,Ext.refl _ _ _,Names.refl _ _,hl,λi v c _ hc=>by simp at hc⟩
 |p::ps,ts,n,s,G,s',qs,vs,h,hs,hl,hv=>by
  cases vs with
  |nil=>simp at hl
  |cons v vs=>
   simp only[aS] at hs;split at hs
   ·cases hs
   rename_i s1 q h1;split at hs
   ·rename_i s2 A6 h2;simp at hs;obtain⟨rfl,rfl⟩:=hs;obtain⟨G1,a1,a2,a3,a4⟩:=tR h h1 (hv 0 v p (by simp) (by simp));obtain⟨G2,b1,b2,b3,b4,b5⟩:=ie ps ts.tail (n+1) s1 G1 s2 A6 vs a1 h2 (by simpa using hl)
     (λi u c hu hc=>(hv (i+1) u c (by simpa using hu) (by simpa using hc)).mono (λ_ h=>h) (λ_ _=>rfl) a3)
    refine⟨G2,b1,a2.trans b2,a3.trans b3,by simpa using b4,λi u c hu hc=> ?_⟩;cases i with
    |zero=>simp at hu hc;subst hu;subst hc;exact a4.mono (λ_ h=>h) (λ_ _=>rfl) b3
    |succ i=>exact b5 i u c (by simpa using hu) (by simpa using hc)
   cases hs
theorem lV(w:World)(o:Go.Obj)(b:Nat)(h:b<w.heap.size):(w.alloc o).heap[b]?=w.heap[b]?:=heap_alloc_old w o b h
theorem oB(h:aq Q T F G w a s){dst:Option Nat}{t:TypeId}{ps:List P}{s':S}(hs:fV Q s dst t ps=some s'){cs:Array Value}(hl:cs.toList.length=ps.length)(cS: ∀u∈cs.toList,u.oneCell'=true)
  (hv: ∀(i:Nat) (v:Value) (c:P),cs.toList[i]?=some v->ps[i]?=some c->ak F w G s.rg v c):
  ∃G',aq Q T F G' (w.alloc (.cells cs t)) (a.put dst (.pointer (some ⟨w.heap.size,0,none⟩))) s'/\Ext (Own G s.rg) (Own G' s'.rg) F F w (w.alloc (.cells cs t)):=by
 unfold fV at hs;split at hs
 ·cases hs
 rename_i s1 qs h1;split at hs
 next s2 v h2=>
  obtain⟨G1,a1,a2,a3,a4,a5⟩:=ie ps _ _ s G s1 qs cs.toList h h1 hl hv;have bZ: ∀b,b<w.heap.size->(w.alloc (.cells cs t)).heap[b]?=w.heap[b]?:=λb hb=>heap_alloc_old w _ b hb;obtain⟨b1,b2,b3,b4⟩:=eS a1 h2 (g1:= .pointer (some ⟨w.heap.size,0,none⟩)) (w':=w.alloc (.cells cs t)) bZ (by simp) rfl rfl rfl (λb hb=>by simp[aG,ar] at hb;omega)
   ⟨w.heap.size,cs,av _ _ _,heap_alloc_new w _,by simpa using a4,cS,λi p hp=>by
    have hi:i<qs.length:=(zaa.1 hp).1;have CT:i<cs.toList.length:=by omega
    have:=a5 i _ p (zad CT) hp;have e:cs.getD i undef=cs.toList[i]:=by simp[Array.getD,show i<cs.size by simpa using CT]
    rw[e];obtain⟨GK,vH⟩:=S.eR h2;exact this.mono (λ_ h=>h) (λb hb=>bZ b (a1.gQ b hb)) (by have:=cw (G:=G1) (g1:= .pointer (some ⟨w.heap.size,0,none⟩)) (R:=s1.rg) (n:=site dst) (e1:=⟨v,none,.box t qs⟩) (λe he=> .inl (vH e he));exact this)⟩
  obtain⟨c1,c2⟩:=bg b1 hs (v:= .pointer (some ⟨w.heap.size,0,none⟩)) (bt.of (.ref (site dst) v 0 _ ⟨_,b4,zaf _,λ_ _=>⟨w.heap.size,av _ _ _,rfl⟩⟩ rfl));refine⟨_,c1,?_⟩;rw[c2];exact a2.trans b2
 cases hs
end
end Pi
