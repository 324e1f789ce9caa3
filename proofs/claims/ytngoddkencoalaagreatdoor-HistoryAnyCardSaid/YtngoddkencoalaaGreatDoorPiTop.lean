/- The text PiTop. -/
import Derived.Test.YtngoddkencoalaaGreatDoorPiCodeOk
import Derived.ProofKit
namespace Pi
open Go
def ko (Q:Program):Nat->TypeId->Bool
 |0,_=>false
 |n+1,t=>match Q.underlying t with
  |some .bool |some (.int _)|some .string=>true
  |some (.slice e)=>ko Q n e&&Nat.blt 0 (Q.cellsOf e)
  |some (.struct fs)=>oc Q 0 fs.toList (Q.cellsOf t)&&fs.toList.all fun f=>ko Q n f.type
  |_=>false
def Fit (Q:Program):Nat->TypeId->List D->Prop
 |0,_,_=>False
 |n+1,t,xs=>match Q.underlying t with
  |some .bool=> ∃b,xs=[.bool b]
  |some (.int k)=> ∃m,xs=[.int k m]/\(Lit.int k m).wf=true
  |some .string=> ∃l,xs=[.str l]/\l.length<=maxLen
  |some (.slice e)=> ∃es,xs=[.sl (Q.cellsOf e) es]/\es.length<=maxLen/\ ∀y∈es,Fit Q n e y.cells/\((dp Q e=true/\ ∃cs,y= .agg cs)\/(dp Q e=false/\y.bC=true))
  |some (.struct fs)=>xs.length=Q.cellsOf t/\ ∀f∈fs.toList,Fit Q n f.type ((xs.drop f.offset).take (Q.cellsOf f.type))
  |_=>False
section
variable {H:Type} {enc:TypeId×Value->H} {Q:Program} {w:World}
def D3 (w:World) (cs:List Value) (xs:List D):Prop:=
 xs.length=cs.length/\(∀c∈xs,c.bC=true)/\ ∀(i:Nat) (v:Value) (c:D),cs[i]?=some v->xs[i]?=some c->aW (· <w.heap.size) w v c
theorem uo {n:Nat} (sM:Nat) (cs:List Value) (hcs:cs.length=sM): ∀(fs:List Field) (off:Nat),oc Q off fs sM=true->off<=sM->
  (∀f∈fs,∃xs,D3 w ((cs.drop f.offset).take (Q.cellsOf f.type)) xs/\Fit Q n f.type xs)->
  ∃xs,D3 w (cs.drop off) xs/\ ∀f∈fs,off<=f.offset/\Fit Q n f.type ((xs.drop (f.offset-off)).take (Q.cellsOf f.type))
 | [],off,ht,hle,_=>by
  have:off=sM:=Nat.eq_of_beq_eq_true ht
  refine⟨[],⟨by simp;omega,by simp,fun i v c h1 h2=>by simp at h2⟩,by simp⟩
 |f::r,off,ht,hle,hf=>by
  simp only[oc,Bool.and_eq_true] at ht
  have ho:f.offset=off:=Nat.eq_of_beq_eq_true ht.1
  have Ni:off+Q.cellsOf f.type<=sM:=by
   have: ∀(fs:List Field) (o:Nat),oc Q o fs sM=true->o<=sM:=by
    intro fs
    induction fs with
    |nil=>intro o h;exact Nat.le_of_eq (Nat.eq_of_beq_eq_true h)
    |cons g gs ih=>
     intro o h
     simp only[oc,Bool.and_eq_true] at h
     have:=ih _ h.2
     omega
   exact this r _ ht.2
  obtain⟨xs,⟨h1,h2,h3⟩,h4⟩:=hf f (by simp)
  obtain⟨ys,⟨g1,g2,g3⟩,g4⟩:=uo sM cs hcs r _ ht.2 Ni (fun g hg=>hf g (by simp[hg]))
  rw[ho] at h1 h3
  have hl:xs.length=Q.cellsOf f.type:=by rw[h1];simp;omega
  refine⟨xs++ys,⟨?_,?_,?_⟩,?_⟩
  ·simp[g1,hl];omega
  ·intro c hc
   rcases List.mem_append.1 hc with h |h
   ·exact h2 c h
   ·exact g2 c h
  ·intro i v c hv hc
   by_cases hi:i<xs.length
   ·rw[List.getElem?_append_left hi] at hc
    refine h3 i v c ?_ hc
    rw[List.getElem?_take_of_lt (by omega)]
    exact hv
   ·rw[List.getElem?_append_right (by omega)] at hc
    refine g3 (i-xs.length) v c ?_ hc
    rw[List.getElem?_drop] at hv⊢
    rw[<-hv]
    congr 1
    omega
  ·intro g hg
   rcases List.mem_cons.1 hg with rfl |hg
   ·refine⟨by omega,?_⟩
    rw[ho]
    simp only[Nat.sub_self,List.drop_zero]
    rw[<-hl,List.take_left']
    ·exact h4
    ·rfl
   ·obtain⟨k1,k2⟩:=g4 g hg
    refine⟨by omega,?_⟩
    have e:(xs++ys).drop (g.offset-off)=ys.drop (g.offset-(off+Q.cellsOf f.type)):=by
     rw[List.drop_append,List.drop_eq_nil_of_le (by omega),List.nil_append]
     congr 1
     omega
    rw[e]
    exact k2
theorem BO {t:TypeId}:dp Q t=match Q.underlying t with |some (.struct _)|some (.array _ _)=>true |_=>false:=rfl
theorem D4 {m:Nat} {t:TypeId} {xs:List D} (h:Fit Q m t xs) (ha:dp Q t=false): ∃c,xs=[c]:=by
 cases m with
 |zero=>exact h.elim
 |succ m=>
  unfold Fit at h
  rw[BO] at ha
  split at h
  ·obtain⟨b,rfl⟩:=h;exact⟨_,rfl⟩
  ·obtain⟨b,rfl,_⟩:=h;exact⟨_,rfl⟩
  ·obtain⟨b,rfl,_⟩:=h;exact⟨_,rfl⟩
  ·obtain⟨es,rfl,_⟩:=h;exact⟨_,rfl⟩
  ·rename_i hu;rw[hu] at ha;simp at ha
  ·exact h.elim
theorem Oi: ∀(m:Nat) (n:Nat) (t:TypeId) (cs:List Value) (x:DataW H×List MemPlace),DataW.trod enc Q w 0 (fun _=>true) true n t cs=some x->ko Q m t=true-> ∃xs,D3 w cs xs/\Fit Q m t xs:=by
 intro m
 induction m with
 |zero=>intro n t cs x _ h;simp[ko] at h
 |succ m ih=>
  intro n t cs x hx hp
  have one: ∀(v:Value) (c:D),c.bC=true->aW (· <w.heap.size) w v c->D3 w [v] [c]:=fun v c hc hr=>⟨rfl,by simpa using hc,fun i v' c' h1 h2=>by
   cases i with
   |zero=>simp at h1 h2;subst h1;subst h2;exact hr
   |succ i=>simp at h1⟩
  unfold ko at hp
  split at hp
  ·rename_i hu
   obtain⟨b,rfl,_⟩:=DataW.trod_bool hu hx
   exact⟨[.bool b],one _ _ rfl (.bool b),by unfold Fit;rw[hu];exact⟨b,rfl⟩⟩
  ·rename_i k hu
   obtain⟨b,rfl,_,hw⟩:=DataW.trod_int hu hx
   exact⟨[.int k b],one _ _ rfl (.int k b),by unfold Fit;rw[hu];exact⟨b,rfl,hw⟩⟩
  ·rename_i hu
   obtain⟨b,rfl,_,hw⟩:=DataW.trod_string hu hx
   exact⟨[.str b.data.toList],one _ _ rfl (.str b.data.toList),by unfold Fit;rw[hu];exact⟨_,rfl,hw⟩⟩
  ·rename_i e hu
   simp only[Bool.and_eq_true] at hp
   have hk:0<Q.cellsOf e:=by have:=hp.2;simp[Nat.blt] at this;omega
   rcases DataW.trod_slice hu hx with⟨rfl,_⟩| ⟨a,len,cap,elems,rest,n',rfl,rfl,_,hb,zL,yq,S7,r4,_,_⟩
   ·exact⟨[.sl (Q.cellsOf e) []],one _ _ rfl (.Mm none _ 0),by unfold Fit;rw[hu];exact⟨[],rfl,by simp,by simp⟩⟩
   ·
    have each: ∀i,i<len-> ∃(kO:List Value) (xs:List D),w.cells? 0 (a.add (i*Q.cellsOf e)) (Q.cellsOf e)=some kO/\D3 w kO xs/\Fit Q m e xs:=fun i hi=>by
     have h1:=r4 i hi
     have bk:i<elems.length:=by omega
     rw[List.getElem?_eq_getElem bk,Option.bind_eq_some_iff] at h1
     obtain⟨kO,h2,h3⟩:=h1
     obtain⟨xs,h4,h5⟩:=ih _ _ _ _ h3 hp.1
     exact⟨kO,xs,h2,h4,h5⟩
    have mk: ∀l,l<=len-> ∃es:List D,es.length=l/\ ∀i,i<l-> ∃(kO:List Value) (y:D),es[i]?=some y/\w.cells? 0 (a.add (i*Q.cellsOf e)) (Q.cellsOf e)=some kO/\D3 w kO y.cells/\Fit Q m e y.cells/\
      ((dp Q e=true/\ ∃cs,y= .agg cs)\/(dp Q e=false/\y.bC=true)):=by
     intro l
     induction l with
     |zero=>intro _;exact⟨[],rfl,fun i hi=>by omega⟩
     |succ l ihl=>
      intro hl
      obtain⟨es,h1,h2⟩:=ihl (by omega)
      obtain⟨kO,xs,h3,h4,h5⟩:=each l (by omega)
      have hy: ∃y:D,y.cells=xs/\((dp Q e=true/\ ∃cs,y= .agg cs)\/(dp Q e=false/\y.bC=true)):=by
       cases ha:dp Q e with
       |true=>exact⟨.agg xs,rfl,.inl ⟨rfl,_,rfl⟩⟩
       |false=>
        obtain⟨c,rfl⟩:=D4 h5 ha
        have hc:=h4.2.1 c (by simp)
        refine⟨c,?_,.inr ⟨rfl,hc⟩⟩
        cases c<;>first |rfl |simp[D.bC] at hc
      obtain⟨y,uQ,hy2⟩:=hy
      refine⟨es++[y],by simp[h1],fun i hi=> ?_⟩
      by_cases bS:i<l
      ·obtain⟨qf5,y',k1,k2⟩:=h2 i bS
       exact⟨qf5,y',by rw[List.getElem?_append_left (by omega)];exact k1,k2⟩
      ·have e1:i=l:=by omega
       subst e1
       exact⟨kO,y,by rw[List.getElem?_append_right (by omega)];simp[h1],h3,by rw[uQ];exact h4,by rw[uQ];exact h5,hy2⟩
    obtain⟨es,hes,gB⟩:=mk len (Nat.le_refl _)
    have Bq:Fit Q (m+1) t [.sl (Q.cellsOf e) es]:=by
     unfold Fit
     rw[hu]
     refine⟨es,rfl,by omega,fun y hy=> ?_⟩
     obtain⟨i,hi,rfl⟩:=List.getElem_of_mem hy
     obtain⟨kO,y',k1,_,_,k4,k5⟩:=gB i (by omega)
     rw[List.getElem?_eq_getElem hi] at k1
     cases k1
     exact⟨k4,k5⟩
    refine⟨[.sl (Q.cellsOf e) es],one _ _ rfl ?_,Bq⟩
    by_cases h0:len=0
    ·subst h0
     have:es=[]:=List.eq_nil_of_length_eq_zero hes
     subst this
     exact .Mm _ _ _
    ·
     obtain⟨Gl,y0,_,y5,sN,hf0,_⟩:=gB 0 (by omega)
     obtain⟨_,qdq,qah⟩:=World.cells?_some y5
     have hblk:a.block<w.heap.size:=by
      have:=World.cells?_block y5 hk
      simpa [Addr.add] using this
     have W8:a.spot=none:=by
      have h1:=qah 0 hk
      have h2:w.cell? ((a.add (0*Q.cellsOf e)).add 0)=some Gl[0]:=by rw[h1];simp[qdq,hk]
      have:=World.cell?_spot h2
      simpa [Addr.add] using this
     obtain⟨b,off,spot⟩:=a
     simp only at W8 hblk
     subst W8
     have cJ: ∀i,i<es.length-> ∀x,es[i]?=some x->x.cells.length=Q.cellsOf e:=fun i hi x hx=>by
      obtain⟨kO,y',k1,k2,k3,_,_⟩:=gB i (by omega)
      rw[hx] at k1
      cases k1
      rw[k3.1]
      exact(World.cells?_some k2).2.1
     have qdr: ∀q,q<es.length*Q.cellsOf e-> ∃kO y,es[q/Q.cellsOf e]?=some y/\w.cells? 0 ((⟨b,off,none⟩:Addr).add (q/Q.cellsOf e*Q.cellsOf e)) (Q.cellsOf e)=some kO/\D3 w kO y.cells/\w.cell? ⟨b,off+q,none⟩=kO[q%Q.cellsOf e]?/\kO.length=Q.cellsOf e:=fun q hq=>by
      have hdiv:q/Q.cellsOf e<es.length:=by rw[Nat.div_lt_iff_lt_mul hk];exact hq
      obtain⟨kO,y',k1,k2,k3,_,_⟩:=gB (q/Q.cellsOf e) (by omega)
      obtain⟨_,GL,hc2⟩:=World.cells?_some k2
      refine⟨kO,y',k1,k2,k3,?_,GL⟩
      have:=hc2 (q%Q.cellsOf e) (Nat.mod_lt _ hk)
      rw[<-this]
      have e:=Nat.div_add_mod q (Q.cellsOf e)
      rw[Nat.mul_comm] at e
      rw[addr_add,addr_add,Nat.add_assoc,e]
     rw[<-hes]
     refine .Na b off (Q.cellsOf e) cap es (fun q=>(w.cell? ⟨b,off+q,none⟩).getD undef) (by omega) hblk (fun x hx=> ?_) (fun x hx=> ?_) (fun q hq=> ?_) (fun i j x c hx hc=> ?_)
     ·obtain⟨i,hi,rfl⟩:=List.getElem_of_mem hx
      exact cJ i hi _ (List.getElem?_eq_getElem hi)
     ·obtain⟨i,hi,rfl⟩:=List.getElem_of_mem hx
      obtain⟨kO,y',k1,_,k3,_,_⟩:=gB i (by omega)
      rw[List.getElem?_eq_getElem hi] at k1
      cases k1
      exact k3.2.1
     ·obtain⟨kO,y,_,_,_,k4,k5⟩:=qdr q hq
      have hm:=Nat.mod_lt q hk
      rw[k4]
      simp[k5,hm]
     ·have hi:i<es.length:=(List.getElem?_eq_some_iff.1 hx).1
      have hj:j<Q.cellsOf e:=by
       have h1:=cJ i hi x hx
       have h2:=(List.getElem?_eq_some_iff.1 hc).1
       omega
      have hq:i*Q.cellsOf e+j<es.length*Q.cellsOf e:=by
       calc i*Q.cellsOf e+j<i*Q.cellsOf e+Q.cellsOf e:=by omega
        _=(i+1)*Q.cellsOf e:=by rw[Nat.add_mul,Nat.one_mul]
        _<=es.length*Q.cellsOf e:=Nat.mul_le_mul_right _ hi
      obtain⟨kO,y,k1,_,k3,k4,k5⟩:=qdr _ hq
      have e1:(i*Q.cellsOf e+j)/Q.cellsOf e=i:=by
       rw[Nat.mul_comm,Nat.mul_add_div hk,Nat.div_eq_of_lt hj,Nat.add_zero]
      have e2:(i*Q.cellsOf e+j)%Q.cellsOf e=j:=by
       rw[Nat.mul_comm,Nat.mul_add_mod,Nat.mod_eq_of_lt hj]
      rw[e1,hx] at k1
      cases k1
      rw[e2] at k4
      show aW _ w ((w.cell? ⟨b,off+(i*Q.cellsOf e+j),none⟩).getD undef) c
      rw[k4]
      have C2:j<kO.length:=by omega
      refine k3.2.2 j _ c ?_ hc
      simp[C2]
  ·rename_i fs hu
   simp only[Bool.and_eq_true] at hp
   obtain⟨xs,n',rfl,rfl,hl,hn,hf⟩:=DataW.trod_struct hu hx
   have key: ∀f∈fs.toList,∃ys,D3 w ((cs.drop f.offset).take (Q.cellsOf f.type)) ys/\Fit Q m f.type ys:=fun f hf'=>by
    obtain⟨i,hi,rfl⟩:=List.getElem_of_mem hf'
    have sW:i<fs.size:=by simpa using hi
    have h1:=hf i fs[i] (Array.getElem?_eq_getElem sW)
    have bk:i<xs.length:=by omega
    rw[List.getElem?_eq_getElem bk] at h1
    have Se:=List.all_eq_true.1 hp.2 _ hf'
    simp only[Array.getElem_toList] at Se⊢
    exact ih _ _ _ _ h1 Se
   obtain⟨ys,h1,h2⟩:=uo (Q:=Q) (n:=m) (Q.cellsOf t) cs hl fs.toList 0 hp.1 (Nat.zero_le _) key
   simp only[List.drop_zero] at h1
   refine⟨ys,h1,?_⟩
   unfold Fit
   rw[hu]
   exact⟨by rw[h1.1,hl],fun f hf'=>by simpa using(h2 f hf').2⟩
  ·cases hp
end
end Pi
