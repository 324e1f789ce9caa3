/- The text PiEfOk. -/
import Derived.Test.YtdgkdigdflkjhaaGreatDoorPiUpd
import Derived.Deep.AppendSrc
namespace Pi
open Go
theorem Names.trans{G1 G2 G3 R1 R2 R3}(h:Names G1 G2 R1 R2)(k:Names G2 G3 R2 R3):Names G1 G3 R1 R3:=by
 constructor
 ·intro n e he;obtain⟨e',cR,hv,hl⟩:=h.on n e he;obtain⟨e'',qan,Qh,NR⟩:=k.on n e' cR;exact⟨e'',qan,by omega,λh1 h2=>hl (by omega) (NR (by omega) h2)⟩
 intro n e e'' he qan hv hl;obtain⟨e',cR,Qh,NR⟩:=h.on n e he;obtain⟨e3,he3,hv3,hl3⟩:=k.on n e' cR;rw[qan] at he3;cases he3;rw[k.same n e' e'' cR qan (by omega) hl,h.same n e e' he cR (by omega) (hl3 (by omega) hl)]
section
variable{Q:Program}{T:Tg}{F:Nat->Prop}{G:Nat->Value}{w:World}{a:Act}{s:S}
theorem NS(h:aC Q T F G w a s){n p q t s'}(hs:uj s n p t=some (s',q)){v}(hv:aH F w G s.rg v p):
  ∃G',aC Q T F G' w a s'/\Ext (Own G s.rg) (Own G' s'.rg) F F w w/\Names G G' s.rg s'.rg/\aH F w G' s'.rg v q:=by
 unfold uj at hs;split at hs
 next e=>
  split at hs
  next s1 aV hn=>
   simp at hs;obtain⟨rfl,rfl⟩:=hs;obtain⟨h1,h2,h3,h4⟩:=nE h hn (g1:= .slice none 0 0) (w':=w) (λ_ _=>rfl) (zal _) rfl rfl rfl (λb hb=>by simp[bB,aO] at hb) (.inl ⟨bc _ _ _,rfl⟩);refine⟨_,h1,h2,h3,?_⟩;cases hv with
   |d hv=>cases hv;exact .sl n aV 0 _ rfl ⟨_,h4,zal _,λ_ _=>⟨none,0,0,bc _ _ _,rfl,zal _⟩⟩
  cases hs
 simp at hs;obtain⟨rfl,rfl⟩:=hs;exact⟨G,h,Ext.refl _ _ _,Names.refl _ _,hv⟩
theorem qH: ∀(ps:List P) (ts:List (Option TypeId)) (n:Nat) (s:S) (G:Nat->Value) (s':S) (qs:List P) (vs:List Value),aC Q T F G w a s->cw s n ps ts=some (s',qs)->vs.length=ps.length->
  (∀(i:Nat) (v:Value) (c:P),vs[i]?=some v->ps[i]?=some c->aH F w G s.rg v c)->
  ∃G',aC Q T F G' w a s'/\Ext (Own G s.rg) (Own G' s'.rg) F F w w/\Names G G' s.rg s'.rg/\vs.length=qs.length/\ ∀(i:Nat) (v:Value) (c:P),vs[i]?=some v->qs[i]?=some c->aH F w G' s'.rg v c
 | [],ts,n,s,G,s',qs,vs,h,hs,hl,hv=>by simp[cw] at hs;obtain⟨rfl,rfl⟩:=hs;exact⟨G,h,Ext.refl _ _ _,Names.refl _ _,hl,λi v c _ hc=>by simp at hc⟩
 |p::ps,ts,n,s,G,s',qs,vs,h,hs,hl,hv=>by
  cases vs with
  |nil=>simp at hl
  |cons v vs=>
   simp only[cw] at hs;split at hs
   ·cases hs
   rename_i s1 q h1;split at hs
   ·rename_i s2 qs2 h2;simp at hs;obtain⟨rfl,rfl⟩:=hs;obtain⟨G1,a1,a2,a3,a4⟩:=NS h h1 (hv 0 v p (by simp) (by simp));obtain⟨G2,b1,b2,b3,b4,b5⟩:=qH ps ts.tail (n+1) s1 G1 s2 qs2 vs a1 h2 (by simpa using hl)
     (λi u c hu hc=>(hv (i+1) u c (by simpa using hu) (by simpa using hc)).mono (λ_ h=>h) (λ_ _=>rfl) a3)
    refine⟨G2,b1,a2.trans b2,a3.trans b3,by simpa using b4,λi u c hu hc=> ?_⟩;cases i with
    |zero=>simp at hu hc;subst hu;subst hc;exact a4.mono (λ_ h=>h) (λ_ _=>rfl) b3
    |succ i=>exact b5 i u c (by simpa using hu) (by simpa using hc)
   cases hs
theorem x9(w:World) o b (h:b<w.heap.size):(w.alloc o).heap[b]?=w.heap[b]?:=heap_alloc_old w o b h
theorem Dw(h:aC Q T F G w a s){dst t ps s'}(hs:oV Q s dst t ps=some s'){cs}(hl:cs.toList.length=ps.length)(jk: ∀u∈cs.toList,u.oneCell'=true)
  (hv: ∀(i:Nat) (v:Value) (c:P),cs.toList[i]?=some v->ps[i]?=some c->aH F w G s.rg v c):
  ∃G',aC Q T F G' (w.alloc (.cells cs t)) (a.put dst (.pointer (some ⟨w.heap.size,0,none⟩))) s'/\Ext (Own G s.rg) (Own G' s'.rg) F F w (w.alloc (.cells cs t)):=by
 unfold oV at hs;split at hs
 ·cases hs
 rename_i s1 qs h1;split at hs
 next s2 v h2=>
  obtain⟨G1,a1,a2,a3,a4,a5⟩:=qH ps _ _ s G s1 qs cs.toList h h1 hl hv;have eU: ∀b,b<w.heap.size->(w.alloc (.cells cs t)).heap[b]?=w.heap[b]?:=λb hb=>heap_alloc_old w _ b hb;obtain⟨b1,b2,b3,b4⟩:=nE a1 h2 (g1:= .pointer (some ⟨w.heap.size,0,none⟩)) (w':=w.alloc (.cells cs t)) eU (by simp) rfl rfl rfl (λb hb=>by simp[bB,aO] at hb;omega)
   ⟨w.heap.size,cs,bc _ _ _,heap_alloc_new w _,by simpa using a4,jk,λi p hp=>by
    have hi:i<qs.length:=(zae.1 hp).1;have qiu:i<cs.toList.length:=by omega
    have:=a5 i _ p (zad qiu) hp;have e:cs.getD i undef=cs.toList[i]:=by simp[Array.getD,show i<cs.size by simpa using qiu]
    rw[e];obtain⟨hs2,E8⟩:=S.lP h2;exact this.mono (λ_ h=>h) (λb hb=>eU b (a1.jE b hb)) (by have:=ib (G:=G1) (g1:= .pointer (some ⟨w.heap.size,0,none⟩)) (R:=s1.rg) (n:=site dst) (e1:=⟨v,none,.box t qs⟩) (λe he=> .inl (E8 e he));exact this)⟩
  obtain⟨c1,c2⟩:=cy b1 hs (v:= .pointer (some ⟨w.heap.size,0,none⟩)) (cE.of (.ref (site dst) v 0 _ ⟨_,b4,zal _,λ_ _=>⟨w.heap.size,bc _ _ _,rfl⟩⟩ rfl));refine⟨_,c1,?_⟩;rw[c2];exact a2.trans b2
 cases hs
end
end Pi
