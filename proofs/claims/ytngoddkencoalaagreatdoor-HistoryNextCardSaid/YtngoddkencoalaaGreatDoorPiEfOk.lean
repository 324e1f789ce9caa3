/- The text PiEfOk. -/
import Derived.Test.YtngoddkencoalaaGreatDoorPiUpd
import Derived.Deep.AppendSrc
namespace Pi
open Go
theorem Names.trans {G1 G2 G3:Nat->Value} {R1 R2 R3:List (Nat×En)} (h:Names G1 G2 R1 R2) (k:Names G2 G3 R2 R3):Names G1 G3 R1 R3:=by
 constructor
 ·intro n e he
  obtain⟨e',cI,hv,hl⟩:=h.on n e he
  obtain⟨e'',VX,J6,Pj⟩:=k.on n e' cI
  exact⟨e'',VX,by omega,fun h1 h2=>hl (by omega) (Pj (by omega) h2)⟩
 ·intro n e e'' he VX hv hl
  obtain⟨e',cI,J6,Pj⟩:=h.on n e he
  obtain⟨e3,he3,hv3,hl3⟩:=k.on n e' cI
  rw[VX] at he3
  cases he3
  rw[k.same n e' e'' cI VX (by omega) hl,h.same n e e' he cI (by omega) (hl3 (by omega) hl)]
section
variable {Q:Program} {T:Tg} {F:Nat->Prop} {G:Nat->Value} {w:World} {a:Act} {s:S}
theorem Kg (h:aC Q T F G w a s) {n:Nat} {p q:P} {t:Option TypeId} {s':S} (hs:sb s n p t=some (s',q)) {v:Value} (hv:aF F w G s.rg v p):
  ∃G',aC Q T F G' w a s'/\Ext (Own G s.rg) (Own G' s'.rg) F F w w/\Names G G' s.rg s'.rg/\aF F w G' s'.rg v q:=by
 unfold sb at hs
 split at hs
 ·rename_i e
  split at hs
  ·rename_i s1 aX hn
   simp at hs
   obtain⟨rfl,rfl⟩:=hs
   obtain⟨h1,h2,h3,h4⟩:=mb h hn (g1:= .slice none 0 0) (w':=w) (fun _ _=>rfl) (zaj _) rfl rfl rfl (fun b hb=>by simp[bF,aQ] at hb) (.inl ⟨a8 _ _ _,rfl⟩)
   refine⟨_,h1,h2,h3,?_⟩
   cases hv with
   |d hv=>cases hv;exact .sl n aX 0 _ rfl ⟨_,h4,zaj _,fun _ _=>⟨none,0,0,a8 _ _ _,rfl,zaj _⟩⟩
  ·cases hs
 ·simp at hs
  obtain⟨rfl,rfl⟩:=hs
  exact⟨G,h,Ext.refl _ _ _,Names.refl _ _,hv⟩
theorem pe: ∀(ps:List P) (ts:List (Option TypeId)) (n:Nat) (s:S) (G:Nat->Value) (s':S) (qs:List P) (vs:List Value),aC Q T F G w a s->cg s n ps ts=some (s',qs)->vs.length=ps.length->
  (∀(i:Nat) (v:Value) (c:P),vs[i]?=some v->ps[i]?=some c->aF F w G s.rg v c)->
  ∃G',aC Q T F G' w a s'/\Ext (Own G s.rg) (Own G' s'.rg) F F w w/\Names G G' s.rg s'.rg/\vs.length=qs.length/\ ∀(i:Nat) (v:Value) (c:P),vs[i]?=some v->qs[i]?=some c->aF F w G' s'.rg v c
 | [],ts,n,s,G,s',qs,vs,h,hs,hl,hv=>by
  simp[cg] at hs
  obtain⟨rfl,rfl⟩:=hs
  exact⟨G,h,Ext.refl _ _ _,Names.refl _ _,hl,fun i v c _ hc=>by simp at hc⟩
 |p::ps,ts,n,s,G,s',qs,vs,h,hs,hl,hv=>by
  cases vs with
  |nil=>simp at hl
  |cons v vs=>
   simp only[cg] at hs
   split at hs
   ·cases hs
   ·rename_i s1 q h1
    split at hs
    ·rename_i s2 qs2 h2
     simp at hs
     obtain⟨rfl,rfl⟩:=hs
     obtain⟨G1,a1,a2,a3,a4⟩:=Kg h h1 (hv 0 v p (by simp) (by simp))
     obtain⟨G2,b1,b2,b3,b4,b5⟩:=pe ps ts.tail (n+1) s1 G1 s2 qs2 vs a1 h2 (by simpa using hl)
      (fun i u c hu hc=>(hv (i+1) u c (by simpa using hu) (by simpa using hc)).mono (fun _ h=>h) (fun _ _=>rfl) a3)
     refine⟨G2,b1,a2.trans b2,a3.trans b3,by simpa using b4,fun i u c hu hc=> ?_⟩
     cases i with
     |zero=>simp at hu hc;subst hu;subst hc;exact a4.mono (fun _ h=>h) (fun _ _=>rfl) b3
     |succ i=>exact b5 i u c (by simpa using hu) (by simpa using hc)
    ·cases hs
theorem vA (w:World) (o:Go.Obj) (b:Nat) (h:b<w.heap.size):(w.alloc o).heap[b]?=w.heap[b]?:=heap_alloc_old w o b h
theorem AL (h:aC Q T F G w a s) {dst:Option Nat} {t:TypeId} {ps:List P} {s':S} (hs:nk Q s dst t ps=some s') {cs:Array Value} (hl:cs.toList.length=ps.length) (ij: ∀u∈cs.toList,u.oneCell'=true)
  (hv: ∀(i:Nat) (v:Value) (c:P),cs.toList[i]?=some v->ps[i]?=some c->aF F w G s.rg v c):
  ∃G',aC Q T F G' (w.alloc (.cells cs t)) (a.put dst (.pointer (some ⟨w.heap.size,0,none⟩))) s'/\Ext (Own G s.rg) (Own G' s'.rg) F F w (w.alloc (.cells cs t)):=by
 unfold nk at hs
 split at hs
 ·cases hs
 ·rename_i s1 qs h1
  split at hs
  ·rename_i s2 v h2
   obtain⟨G1,a1,a2,a3,a4,a5⟩:=pe ps _ _ s G s1 qs cs.toList h h1 hl hv
   have eJ: ∀b,b<w.heap.size->(w.alloc (.cells cs t)).heap[b]?=w.heap[b]?:=fun b hb=>heap_alloc_old w _ b hb
   obtain⟨b1,b2,b3,b4⟩:=mb a1 h2 (g1:= .pointer (some ⟨w.heap.size,0,none⟩)) (w':=w.alloc (.cells cs t)) eJ (by simp) rfl rfl rfl (fun b hb=>by simp[bF,aQ] at hb;omega)
    ⟨w.heap.size,cs,a8 _ _ _,heap_alloc_new w _,by simpa using a4,ij,fun i p hp=>by
     have hi:i<qs.length:=(zad.1 hp).1
     have qeZ:i<cs.toList.length:=by omega
     have:=a5 i _ p (zae qeZ) hp
     have e:cs.getD i undef=cs.toList[i]:=by simp[Array.getD,show i<cs.size by simpa using qeZ]
     rw[e]
     obtain⟨hs2,Ce⟩:=S.kV h2
     exact this.mono (fun _ h=>h) (fun b hb=>eJ b (a1.jm b hb)) (by
      have:=gF (G:=G1) (g1:= .pointer (some ⟨w.heap.size,0,none⟩)) (R:=s1.rg) (n:=site dst) (e1:=⟨v,none,.box t qs⟩) (fun e he=> .inl (Ce e he))
      exact this)⟩
   obtain⟨c1,c2⟩:=cv b1 hs (v:= .pointer (some ⟨w.heap.size,0,none⟩)) (ct.of (.ref (site dst) v 0 _ ⟨_,b4,zaj _,fun _ _=>⟨w.heap.size,a8 _ _ _,rfl⟩⟩ rfl))
   refine⟨_,c1,?_⟩
   rw[c2]
   exact a2.trans b2
  ·cases hs
end
end Pi
