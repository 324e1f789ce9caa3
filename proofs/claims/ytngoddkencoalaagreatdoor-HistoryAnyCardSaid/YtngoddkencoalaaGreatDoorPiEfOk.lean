/- The text PiEfOk. -/
import Derived.Test.YtngoddkencoalaaGreatDoorPiUpd
import Derived.Deep.AppendSrc
namespace Pi
open Go
theorem Names.trans {G1 G2 G3:Nat->Value} {R1 R2 R3:List (Nat×En)} (h:Names G1 G2 R1 R2) (k:Names G2 G3 R2 R3):Names G1 G3 R1 R3:=by
 constructor
 ·intro n e he
  obtain⟨e',cF,hv,hl⟩:=h.on n e he
  obtain⟨e'',Tk,Ga,Nw⟩:=k.on n e' cF
  exact⟨e'',Tk,by omega,fun h1 h2=>hl (by omega) (Nw (by omega) h2)⟩
 ·intro n e e'' he Tk hv hl
  obtain⟨e',cF,Ga,Nw⟩:=h.on n e he
  obtain⟨e3,he3,hv3,hl3⟩:=k.on n e' cF
  rw[Tk] at he3
  cases he3
  rw[k.same n e' e'' cF Tk (by omega) hl,h.same n e e' he cF (by omega) (hl3 (by omega) hl)]
section
variable {Q:Program} {T:Tg} {F:Nat->Prop} {G:Nat->Value} {w:World} {a:Act} {s:S}
theorem Ir (h:aB Q T F G w a s) {n:Nat} {p q:P} {t:Option TypeId} {s':S} (hs:rS s n p t=some (s',q)) {v:Value} (hv:aD F w G s.rg v p):
  ∃G',aB Q T F G' w a s'/\Ext (Own G s.rg) (Own G' s'.rg) F F w w/\Names G G' s.rg s'.rg/\aD F w G' s'.rg v q:=by
 unfold rS at hs
 split at hs
 ·rename_i e
  split at hs
  ·rename_i s1 aU hn
   simp at hs
   obtain⟨rfl,rfl⟩:=hs
   obtain⟨h1,h2,h3,h4⟩:=lv h hn (g1:= .slice none 0 0) (w':=w) (fun _ _=>rfl) (Nat.le_refl _) rfl rfl rfl (fun b hb=>by simp[bu,aL] at hb) (.inl ⟨aZ _ _ _,rfl⟩)
   refine⟨_,h1,h2,h3,?_⟩
   cases hv with
   |d hv=>cases hv;exact .sl n aU 0 _ rfl ⟨_,h4,Nat.le_refl _,fun _ _=>⟨none,0,0,aZ _ _ _,rfl,Nat.le_refl _⟩⟩
  ·cases hs
 ·simp at hs
  obtain⟨rfl,rfl⟩:=hs
  exact⟨G,h,Ext.refl _ _ _,Names.refl _ _,hv⟩
theorem oC: ∀(ps:List P) (ts:List (Option TypeId)) (n:Nat) (s:S) (G:Nat->Value) (s':S) (qs:List P) (vs:List Value),aB Q T F G w a s->cb s n ps ts=some (s',qs)->vs.length=ps.length->
  (∀(i:Nat) (v:Value) (c:P),vs[i]?=some v->ps[i]?=some c->aD F w G s.rg v c)->
  ∃G',aB Q T F G' w a s'/\Ext (Own G s.rg) (Own G' s'.rg) F F w w/\Names G G' s.rg s'.rg/\vs.length=qs.length/\ ∀(i:Nat) (v:Value) (c:P),vs[i]?=some v->qs[i]?=some c->aD F w G' s'.rg v c
 | [],ts,n,s,G,s',qs,vs,h,hs,hl,hv=>by
  simp[cb] at hs
  obtain⟨rfl,rfl⟩:=hs
  exact⟨G,h,Ext.refl _ _ _,Names.refl _ _,hl,fun i v c _ hc=>by simp at hc⟩
 |p::ps,ts,n,s,G,s',qs,vs,h,hs,hl,hv=>by
  cases vs with
  |nil=>simp at hl
  |cons v vs=>
   simp only[cb] at hs
   split at hs
   ·cases hs
   ·rename_i s1 q h1
    split at hs
    ·rename_i s2 YT h2
     simp at hs
     obtain⟨rfl,rfl⟩:=hs
     obtain⟨G1,a1,a2,a3,a4⟩:=Ir h h1 (hv 0 v p (by simp) (by simp))
     obtain⟨G2,b1,b2,b3,b4,b5⟩:=oC ps ts.tail (n+1) s1 G1 s2 YT vs a1 h2 (by simpa using hl)
      (fun i u c hu hc=>(hv (i+1) u c (by simpa using hu) (by simpa using hc)).mono (fun _ h=>h) (fun _ _=>rfl) a3)
     refine⟨G2,b1,a2.trans b2,a3.trans b3,by simpa using b4,fun i u c hu hc=> ?_⟩
     cases i with
     |zero=>simp at hu hc;subst hu;subst hc;exact a4.mono (fun _ h=>h) (fun _ _=>rfl) b3
     |succ i=>exact b5 i u c (by simpa using hu) (by simpa using hc)
    ·cases hs
theorem uS (w:World) (o:Go.Obj) (b:Nat) (h:b<w.heap.size):(w.alloc o).heap[b]?=w.heap[b]?:=heap_alloc_old w o b h
theorem zN (h:aB Q T F G w a s) {dst:Option Nat} {t:TypeId} {ps:List P} {s':S} (hs:mE Q s dst t ps=some s') {cs:Array Value} (hl:cs.toList.length=ps.length) (gm: ∀u∈cs.toList,u.oneCell'=true)
  (hv: ∀(i:Nat) (v:Value) (c:P),cs.toList[i]?=some v->ps[i]?=some c->aD F w G s.rg v c):
  ∃G',aB Q T F G' (w.alloc (.cells cs t)) (a.put dst (.pointer (some ⟨w.heap.size,0,none⟩))) s'/\Ext (Own G s.rg) (Own G' s'.rg) F F w (w.alloc (.cells cs t)):=by
 unfold mE at hs
 split at hs
 ·cases hs
 ·rename_i s1 qs h1
  split at hs
  ·rename_i s2 v h2
   obtain⟨G1,a1,a2,a3,a4,a5⟩:=oC ps _ _ s G s1 qs cs.toList h h1 hl hv
   have eA: ∀b,b<w.heap.size->(w.alloc (.cells cs t)).heap[b]?=w.heap[b]?:=fun b hb=>heap_alloc_old w _ b hb
   obtain⟨b1,b2,b3,b4⟩:=lv a1 h2 (g1:= .pointer (some ⟨w.heap.size,0,none⟩)) (w':=w.alloc (.cells cs t)) eA (by simp) rfl rfl rfl (fun b hb=>by simp[bu,aL] at hb;omega)
    ⟨w.heap.size,cs,aZ _ _ _,heap_alloc_new w _,by simpa using a4,gm,fun i p hp=>by
     have hi:i<qs.length:=(List.getElem?_eq_some_iff.1 hp).1
     have qdb:i<cs.toList.length:=by omega
     have:=a5 i _ p (List.getElem?_eq_getElem qdb) hp
     have e:cs.getD i undef=cs.toList[i]:=by simp[Array.getD,show i<cs.size by simpa using qdb]
     rw[e]
     obtain⟨hs2,Bg⟩:=S.ki h2
     exact this.mono (fun _ h=>h) (fun b hb=>eA b (a1.iR b hb)) (by
      have:=gi (G:=G1) (g1:= .pointer (some ⟨w.heap.size,0,none⟩)) (R:=s1.rg) (n:=site dst) (e1:=⟨v,none,.box t qs⟩) (fun e he=> .inl (Bg e he))
      exact this)⟩
   obtain⟨c1,c2⟩:=ct b1 hs (v:= .pointer (some ⟨w.heap.size,0,none⟩)) (cr.of (.ref (site dst) v 0 _ ⟨_,b4,Nat.le_refl _,fun _ _=>⟨w.heap.size,aZ _ _ _,rfl⟩⟩ rfl))
   refine⟨_,c1,?_⟩
   rw[c2]
   exact a2.trans b2
  ·cases hs
end
end Pi
