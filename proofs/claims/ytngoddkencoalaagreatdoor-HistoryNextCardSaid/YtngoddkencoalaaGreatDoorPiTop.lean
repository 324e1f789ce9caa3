/- The text PiTop. -/
import Derived.Test.YtngoddkencoalaaGreatDoorPiCodeOk
import Derived.ProofKit
namespace Pi
open Go
def kY (Q:Program):Nat->TypeId->Bool
 |0,_=>false
 |n+1,t=>match Q.underlying t with
  |some .bool |some (.int _)|some .string=>true
  |some (.slice e)=>kY Q n e&&Nat.blt 0 (Q.cellsOf e)
  |some (.struct fs)=>oU Q 0 fs.toList (Q.cellsOf t)&&fs.toList.all fun f=>kY Q n f.type
  |_=>false
def Fit (Q:Program):Nat->TypeId->List D->Prop
 |0,_,_=>False
 |n+1,t,xs=>match Q.underlying t with
  |some .bool=> ∃b,xs=[.bool b]
  |some (.int k)=> ∃m,xs=[.int k m]/\(Lit.int k m).wf=true
  |some .string=> ∃l,xs=[.str l]/\l.length<=maxLen
  |some (.slice e)=> ∃es,xs=[.sl (Q.cellsOf e) es]/\es.length<=maxLen/\ ∀y∈es,Fit Q n e y.cells/\((dy Q e=true/\ ∃cs,y= .agg cs)\/(dy Q e=false/\y.bC=true))
  |some (.struct fs)=>xs.length=Q.cellsOf t/\ ∀f∈fs.toList,Fit Q n f.type ((xs.drop f.offset).take (Q.cellsOf f.type))
  |_=>False
section
variable {H:Type} {enc:TypeId×Value->H} {Q:Program} {w:World}
def E8 (w:World) (cs:List Value) (xs:List D):Prop:=
 xs.length=cs.length/\(∀c∈xs,c.bC=true)/\ ∀(i:Nat) (v:Value) (c:D),cs[i]?=some v->xs[i]?=some c->a7 (· <w.heap.size) w v c
theorem uY {n:Nat} (q8:Nat) (cs:List Value) (hcs:cs.length=q8): ∀(fs:List Field) (off:Nat),oU Q off fs q8=true->off<=q8->
  (∀f∈fs,∃xs,E8 w ((cs.drop f.offset).take (Q.cellsOf f.type)) xs/\Fit Q n f.type xs)->
  ∃xs,E8 w (cs.drop off) xs/\ ∀f∈fs,off<=f.offset/\Fit Q n f.type ((xs.drop (f.offset-off)).take (Q.cellsOf f.type))
 | [],off,ht,hle,_=>by
  have:off=q8:=zaf ht
  refine⟨[],⟨by simp;omega,by simp,fun i v c h1 h2=>by simp at h2⟩,by simp⟩
 |f::r,off,ht,hle,hf=>by
  simp only[oU,zab] at ht
  have ho:f.offset=off:=zaf ht.1
  have VP:off+Q.cellsOf f.type<=q8:=by
   have: ∀(fs:List Field) (o:Nat),oU Q o fs q8=true->o<=q8:=by
    intro fs
    induction fs with
    |nil=>intro o h;exact Nat.le_of_eq (zaf h)
    |cons g gs ih=>
     intro o h
     simp only[oU,zab] at h
     have:=ih _ h.2
     omega
   exact this r _ ht.2
  obtain⟨xs,⟨h1,h2,h3⟩,h4⟩:=hf f (by simp)
  obtain⟨ys,⟨g1,g2,g3⟩,g4⟩:=uY q8 cs hcs r _ ht.2 VP (fun g hg=>hf g (by simp[hg]))
  rw[ho] at h1 h3
  have hl:xs.length=Q.cellsOf f.type:=by rw[h1];simp;omega
  refine⟨xs++ys,⟨?_,?_,?_⟩,?_⟩
  ·simp[g1,hl];omega
  ·intro c hc
   rcases zaG.1 hc with h |h
   ·exact h2 c h
   ·exact g2 c h
  ·intro i v c hv hc
   by_cases hi:i<xs.length
   ·rw[zaM hi] at hc
    refine h3 i v c ?_ hc
    rw[List.getElem?_take_of_lt (by omega)]
    exact hv
   ·rw[zaZ (by omega)] at hc
    refine g3 (i-xs.length) v c ?_ hc
    rw[zbw] at hv⊢
    rw[<-hv]
    congr 1
    omega
  ·intro g hg
   rcases zav.1 hg with rfl |hg
   ·refine⟨by omega,?_⟩
    rw[ho]
    simp only[Nat.sub_self,zcm]
    rw[<-hl,zb2]
    ·exact h4
    ·rfl
   ·obtain⟨k1,k2⟩:=g4 g hg
    refine⟨by omega,?_⟩
    have e:(xs++ys).drop (g.offset-off)=ys.drop (g.offset-(off+Q.cellsOf f.type)):=by
     rw[List.drop_append,zcy (by omega),zbh]
     congr 1
     omega
    rw[e]
    exact k2
theorem CM {t:TypeId}:dy Q t=match Q.underlying t with |some (.struct _)|some (.array _ _)=>true |_=>false:=rfl
theorem E9 {m:Nat} {t:TypeId} {xs:List D} (h:Fit Q m t xs) (ha:dy Q t=false): ∃c,xs=[c]:=by
 cases m with
 |zero=>exact h.elim
 |succ m=>
  unfold Fit at h
  rw[CM] at ha
  split at h
  ·obtain⟨b,rfl⟩:=h;exact⟨_,rfl⟩
  ·obtain⟨b,rfl,_⟩:=h;exact⟨_,rfl⟩
  ·obtain⟨b,rfl,_⟩:=h;exact⟨_,rfl⟩
  ·obtain⟨es,rfl,_⟩:=h;exact⟨_,rfl⟩
  ·rename_i hu;rw[hu] at ha;simp at ha
  ·exact h.elim
theorem Qd: ∀(m:Nat) (n:Nat) (t:TypeId) (cs:List Value) (x:DataW H×List MemPlace),DataW.trod enc Q w 0 (fun _=>true) true n t cs=some x->kY Q m t=true-> ∃xs,E8 w cs xs/\Fit Q m t xs:=by
 intro m
 induction m with
 |zero=>intro n t cs x _ h;simp[kY] at h
 |succ m ih=>
  intro n t cs x hx hp
  have one: ∀(v:Value) (c:D),c.bC=true->a7 (· <w.heap.size) w v c->E8 w [v] [c]:=fun v c hc hr=>⟨rfl,by simpa using hc,fun i v' c' h1 h2=>by
   cases i with
   |zero=>simp at h1 h2;subst h1;subst h2;exact hr
   |succ i=>simp at h1⟩
  unfold kY at hp
  split at hp
  ·rename_i hu
   obtain⟨b,rfl,_⟩:=DataW.trod_bool hu hx
   exact⟨[.bool b],one _ _ rfl (.bool b),by unfold Fit;rw[hu];exact⟨b,rfl⟩⟩
  ·rename_i k hu
   obtain⟨b,rfl,_,hw⟩:=DataW.trod_int hu hx
   exact⟨[.int k b],one _ _ rfl (.int k b),by unfold Fit;rw[hu];exact⟨b,rfl,hw⟩⟩
  ·rename_i hu
   obtain⟨b,rfl,_,hw⟩:=DataW.trod_string hu hx
   exact⟨[.str b.data.toList],one _ _ rfl (.str b.data.toList),by unfold Fit;rw[hu];exact⟨_,rfl,hw⟩⟩
  ·rename_i e hu
   simp only[zab] at hp
   have hk:0<Q.cellsOf e:=by have:=hp.2;simp[Nat.blt] at this;omega
   rcases DataW.trod_slice hu hx with⟨rfl,_⟩| ⟨a,len,cap,elems,rest,n',rfl,rfl,_,hb,GS,zb,N5,pc,_,_⟩
   ·exact⟨[.sl (Q.cellsOf e) []],one _ _ rfl (.N4 none _ 0),by unfold Fit;rw[hu];exact⟨[],rfl,by simp,by simp⟩⟩
   ·
    have each: ∀i,i<len-> ∃(ly:List Value) (xs:List D),w.cells? 0 (a.add (i*Q.cellsOf e)) (Q.cellsOf e)=some ly/\E8 w ly xs/\Fit Q m e xs:=fun i hi=>by
     have h1:=pc i hi
     have bG:i<elems.length:=by omega
     rw[zae bG,zbL] at h1
     obtain⟨ly,h2,h3⟩:=h1
     obtain⟨xs,h4,h5⟩:=ih _ _ _ _ h3 hp.1
     exact⟨ly,xs,h2,h4,h5⟩
    have mk: ∀l,l<=len-> ∃es:List D,es.length=l/\ ∀i,i<l-> ∃(ly:List Value) (y:D),es[i]?=some y/\w.cells? 0 (a.add (i*Q.cellsOf e)) (Q.cellsOf e)=some ly/\E8 w ly y.cells/\Fit Q m e y.cells/\
      ((dy Q e=true/\ ∃cs,y= .agg cs)\/(dy Q e=false/\y.bC=true)):=by
     intro l
     induction l with
     |zero=>intro _;exact⟨[],rfl,fun i hi=>by omega⟩
     |succ l ihl=>
      intro hl
      obtain⟨es,h1,h2⟩:=ihl (by omega)
      obtain⟨ly,xs,h3,h4,h5⟩:=each l (by omega)
      have hy: ∃y:D,y.cells=xs/\((dy Q e=true/\ ∃cs,y= .agg cs)\/(dy Q e=false/\y.bC=true)):=by
       cases ha:dy Q e with
       |true=>exact⟨.agg xs,rfl,.inl ⟨rfl,_,rfl⟩⟩
       |false=>
        obtain⟨c,rfl⟩:=E9 h5 ha
        have hc:=h4.2.1 c (by simp)
        refine⟨c,?_,.inr ⟨rfl,hc⟩⟩
        cases c<;>first |rfl |simp[D.bC] at hc
      obtain⟨y,zG,hy2⟩:=hy
      refine⟨es++[y],by simp[h1],fun i hi=> ?_⟩
      by_cases bN:i<l
      ·obtain⟨qhR,y',k1,k2⟩:=h2 i bN
       exact⟨qhR,y',by rw[zaM (by omega)];exact k1,k2⟩
      ·have e1:i=l:=by omega
       subst e1
       exact⟨ly,y,by rw[zaZ (by omega)];simp[h1],h3,by rw[zG];exact h4,by rw[zG];exact h5,hy2⟩
    obtain⟨es,hes,il⟩:=mk len (zaj _)
    have EF:Fit Q (m+1) t [.sl (Q.cellsOf e) es]:=by
     unfold Fit
     rw[hu]
     refine⟨es,rfl,by omega,fun y hy=> ?_⟩
     obtain⟨i,hi,rfl⟩:=zaU hy
     obtain⟨ly,y',k1,_,_,k4,k5⟩:=il i (by omega)
     rw[zae hi] at k1
     cases k1
     exact⟨k4,k5⟩
    refine⟨[.sl (Q.cellsOf e) es],one _ _ rfl ?_,EF⟩
    by_cases h0:len=0
    ·subst h0
     have:es=[]:=zax hes
     subst this
     exact .N4 _ _ _
    ·
     obtain⟨HS,y0,_,zU,tv,hf0,_⟩:=il 0 (by omega)
     obtain⟨_,qfc,qbR⟩:=World.cells?_some zU
     have hblk:a.block<w.heap.size:=by
      have:=World.cells?_block zU hk
      simpa [Addr.add] using this
     have qaD:a.spot=none:=by
      have h1:=qbR 0 hk
      have h2:w.cell? ((a.add (0*Q.cellsOf e)).add 0)=some HS[0]:=by rw[h1];simp[qfc,hk]
      have:=World.cell?_spot h2
      simpa [Addr.add] using this
     obtain⟨b,off,spot⟩:=a
     simp only at qaD hblk
     subst qaD
     have dq: ∀i,i<es.length-> ∀x,es[i]?=some x->x.cells.length=Q.cellsOf e:=fun i hi x hx=>by
      obtain⟨ly,y',k1,k2,k3,_,_⟩:=il i (by omega)
      rw[hx] at k1
      cases k1
      rw[k3.1]
      exact(World.cells?_some k2).2.1
     have qfd: ∀q,q<es.length*Q.cellsOf e-> ∃ly y,es[q/Q.cellsOf e]?=some y/\w.cells? 0 ((⟨b,off,none⟩:Addr).add (q/Q.cellsOf e*Q.cellsOf e)) (Q.cellsOf e)=some ly/\E8 w ly y.cells/\w.cell? ⟨b,off+q,none⟩=ly[q%Q.cellsOf e]?/\ly.length=Q.cellsOf e:=fun q hq=>by
      have hdiv:q/Q.cellsOf e<es.length:=by rw[zcB hk];exact hq
      obtain⟨ly,y',k1,k2,k3,_,_⟩:=il (q/Q.cellsOf e) (by omega)
      obtain⟨_,GW,hc2⟩:=World.cells?_some k2
      refine⟨ly,y',k1,k2,k3,?_,GW⟩
      have:=hc2 (q%Q.cellsOf e) (zcS _ hk)
      rw[<-this]
      have e:=zc1 q (Q.cellsOf e)
      rw[zb7] at e
      rw[addr_add,addr_add,zbA,e]
     rw[<-hes]
     refine .O0 b off (Q.cellsOf e) cap es (fun q=>(w.cell? ⟨b,off+q,none⟩).getD undef) (by omega) hblk (fun x hx=> ?_) (fun x hx=> ?_) (fun q hq=> ?_) (fun i j x c hx hc=> ?_)
     ·obtain⟨i,hi,rfl⟩:=zaU hx
      exact dq i hi _ (zae hi)
     ·obtain⟨i,hi,rfl⟩:=zaU hx
      obtain⟨ly,y',k1,_,k3,_,_⟩:=il i (by omega)
      rw[zae hi] at k1
      cases k1
      exact k3.2.1
     ·obtain⟨ly,y,_,_,_,k4,k5⟩:=qfd q hq
      have hm:=zcS q hk
      rw[k4]
      simp[k5,hm]
     ·have hi:i<es.length:=(zad.1 hx).1
      have hj:j<Q.cellsOf e:=by
       have h1:=dq i hi x hx
       have h2:=(zad.1 hc).1
       omega
      have hq:i*Q.cellsOf e+j<es.length*Q.cellsOf e:=by
       calc i*Q.cellsOf e+j<i*Q.cellsOf e+Q.cellsOf e:=by omega
        _=(i+1)*Q.cellsOf e:=by rw[zaT,zbr]
        _<=es.length*Q.cellsOf e:=zaq _ hi
      obtain⟨ly,y,k1,_,k3,k4,k5⟩:=qfd _ hq
      have e1:(i*Q.cellsOf e+j)/Q.cellsOf e=i:=by
       rw[zb7,Nat.mul_add_div hk,Nat.div_eq_of_lt hj,zbQ]
      have e2:(i*Q.cellsOf e+j)%Q.cellsOf e=j:=by
       rw[zb7,Nat.mul_add_mod,Nat.mod_eq_of_lt hj]
      rw[e1,hx] at k1
      cases k1
      rw[e2] at k4
      show a7 _ w ((w.cell? ⟨b,off+(i*Q.cellsOf e+j),none⟩).getD undef) c
      rw[k4]
      have Ki:j<ly.length:=by omega
      refine k3.2.2 j _ c ?_ hc
      simp[Ki]
  ·rename_i fs hu
   simp only[zab] at hp
   obtain⟨xs,n',rfl,rfl,hl,hn,hf⟩:=DataW.trod_struct hu hx
   have key: ∀f∈fs.toList,∃ys,E8 w ((cs.drop f.offset).take (Q.cellsOf f.type)) ys/\Fit Q m f.type ys:=fun f hf'=>by
    obtain⟨i,hi,rfl⟩:=zaU hf'
    have xh:i<fs.size:=by simpa using hi
    have h1:=hf i fs[i] (zbK xh)
    have bG:i<xs.length:=by omega
    rw[zae bG] at h1
    have LV:=zbk.1 hp.2 _ hf'
    simp only[Array.getElem_toList] at LV⊢
    exact ih _ _ _ _ h1 LV
   obtain⟨ys,h1,h2⟩:=uY (Q:=Q) (n:=m) (Q.cellsOf t) cs hl fs.toList 0 hp.1 (za5 _) key
   simp only[zcm] at h1
   refine⟨ys,h1,?_⟩
   unfold Fit
   rw[hu]
   exact⟨by rw[h1.1,hl],fun f hf'=>by simpa using(h2 f hf').2⟩
  ·cases hp
end
end Pi
