/- The text PiKOk3. -/
import Derived.Test.YtfelfooeclnbiaaPiKOk2
namespace Pi
open Go
def bv:Option P->Option (Option Value)
 |none=>some none
 |some p=>p.aW.map some
theorem pz{len:Nat}{lo hi:Option P}{r:Nat×Nat}(h:bH len lo hi=some r):
  ((hi=none/\r.2=len)\/ ∃k j,hi=some (.d (.int k j))/\0<=j/\j<=(len:Int)/\r.2=j.toNat)/\((lo=none/\r.1=0)\/ ∃k j,lo=some (.d (.int k j))/\0<=j/\j<=(r.2:Int)/\r.1=j.toNat):=by
 unfold bH at h;split at h
 ·cases h
 rename_i h1 hh;have a1:(hi=none/\h1=len)\/ ∃k j,hi=some (.d (.int k j))/\0<=j/\j<=(len:Int)/\h1=j.toNat:=by
  split at hh
  ·simp at hh;exact .inl ⟨rfl,hh.symm⟩
  ·split at hh
   next k j hb=>simp at hh;exact .inr ⟨k,j,rfl,hb.1,hb.2,hh.symm⟩
   cases hh
  cases hh
 split at h
 ·simp at h;subst h;exact⟨a1,.inl ⟨rfl,rfl⟩⟩
 ·split at h
  next k j hb=>simp at h;subst h;exact⟨a1,.inr ⟨k,j,rfl,hb.1,hb.2,rfl⟩⟩
  cases h
 cases h
theorem cZ(Q:Program){k:IntKind}{j:Int}{y:Nat}(h0:0<=j)(h1:j<=(y:Int))(c:BoundsCode):ah Q (Instr.sliceBound (.int k j) y c)=some j.toNat:=by
 have:Instr.sliceBound (.int k j) y c=if 0<=j/\j<=(y:Int) then(pure j.toNat:Sem Nat) else boundsPanic k j y c:=rfl
 rw[this,zat ⟨h0,h1⟩];rfl
theorem lU(Q:Program){len:Nat}{lo hi:Option P}{r:Nat×Nat}(h:bH len lo hi=some r):
  ∃vl vh,bv lo=some vl/\bv hi=some vh/\ah Q (Instr.sliceBounds false len len vl vh none)=some (r.1,r.2,len):=by
 obtain⟨hh,hl⟩:=pz h;rcases hh with⟨rfl,e2⟩| ⟨k,j,rfl,h0,h1,e2⟩<;>rcases hl with⟨rfl,e1⟩| ⟨k',j',rfl,GI,Ce,e1⟩
 ·exact⟨none,none,rfl,rfl,by rw[e1,e2];rfl⟩
 ·refine⟨some (.int k' j'),none,rfl,rfl,?_⟩;have:ah Q (Instr.sliceBounds false len len (some (.int k' j')) none none)=(ah Q (Instr.sliceBound (.int k' j') len .sliceB)).bind λl=>some (l,len,len):=by unfold Instr.sliceBounds;rw[ag];show ah Q (Instr.sliceBound (.int k' j') len .sliceB>>=λl=>pure (l,len,len))=_;rw[ag];rfl
  rw[this,cZ Q GI (by rw[<-e2];exact Ce),e1,e2];rfl
 ·refine⟨none,some (.int k j),rfl,rfl,?_⟩;have:ah Q (Instr.sliceBounds false len len none (some (.int k j)) none)=(ah Q (Instr.sliceBound (.int k j) len .sliceAlen)).bind λl=>some (0,l,len):=by unfold Instr.sliceBounds;show ah Q (Instr.sliceBound (.int k j) len .sliceAlen>>=λl=>pure (0,l,len))=_;rw[ag];rfl
  rw[this,cZ Q h0 h1,e1,e2];rfl
 refine⟨some (.int k' j'),some (.int k j),rfl,rfl,?_⟩;have:ah Q (Instr.sliceBounds false len len (some (.int k' j')) (some (.int k j)) none)=(ah Q (Instr.sliceBound (.int k j) len .sliceAlen)).bind λl=>(ah Q (Instr.sliceBound (.int k' j') l .sliceB)).bind λm=>some (m,l,len):=by unfold Instr.sliceBounds;show ah Q (Instr.sliceBound (.int k j) len .sliceAlen>>=λl=>Instr.sliceBound (.int k' j') l .sliceB>>=λm=>pure (m,l,len))=_;rw[ag];congr 1;funext l;rw[ag];rfl
 rw[this,cZ Q h0 h1,zah,cZ Q GI (by rw[<-e2];exact Ce),e1,e2];rfl
theorem pA(l:List UInt8)(a b:Nat):((ByteArray.mk ⟨l⟩).extract a b).data.toList=(l.take b).drop a:=by simp[ByteArray.data_extract,zbE]
theorem ki{Q:Program}{t:TypeId}(hu:Q.underlying t=some .string){l:List UInt8}{lo hi:Option P}{r:Nat×Nat}(h:bH l.length lo hi=some r):
  ∃vl vh,bv lo=some vl/\bv hi=some vh/\bL Q (Instr.sliceAt t (.string ⟨⟨l⟩⟩) vl vh none)=some (.d (.str ((l.take r.2).drop r.1))):=by
 obtain⟨vl,vh,h1,h2,h3⟩:=lU Q h;refine⟨vl,vh,h1,h2,?_⟩;have:ah Q (Instr.sliceAt t (.string ⟨⟨l⟩⟩) vl vh none)=some (.string ((ByteArray.mk ⟨l⟩).extract r.1 r.2)):=by unfold Instr.sliceAt;rw[ag,ao hu,zah];show ah Q (Instr.slice t (.string ⟨⟨l⟩⟩) vl vh none)=_;unfold Instr.slice;rw[ag,ao hu,zah];show ah Q (Instr.sliceBounds false l.length l.length vl vh none>>=λx=>_)=_;rw[ag,h3];rfl
 simp only[bL,this,D.kD,D.fi,pA]
theorem kj{Q:Program}{t:TypeId}(hu:Q.underlying t=some .string){l:List UInt8}{k:IntKind}{j:Int}(h0:0<=j)(h1:j<(l.length:Int)):
  bL Q (Instr.index t (.string ⟨⟨l⟩⟩) (.int k j))=some (.d (.int .u8 ((l.getD j.toNat 0).toNat))):=by
 have bu:j.toNat<l.length:=by omega
 have e:(ByteArray.mk ⟨l⟩)[j.toNat]?=some (l.getD j.toNat 0):=by rw[ByteArray.getElem?_lt' _ _ (show j.toNat<(ByteArray.mk ⟨l⟩).size from bu)];simp[bu];rfl
 have:ah Q (Instr.index t (.string ⟨⟨l⟩⟩) (.int k j))=some (.int .u8 ((l.getD j.toNat 0).toNat)):=by unfold Instr.index;show ah Q (underlying t>>=λd=>_)=_;rw[ag,ao hu,zah];simp only[zat h0,e];rfl
 simp only[bL,this,D.kD,D.fi]
theorem pB{Q:Program}{t:TypeId}{vI:Array TypeId}{ty:TypeId}(h0:vI[0]?=some t)(hu:Q.underlying t=some .string)(l:List UInt8):
  bL Q (Builtin.len_ vI ty #[.string ⟨⟨l⟩⟩])=some (.d (.int .i64 l.length)):=by
 have:ah Q (Builtin.len_ vI ty #[.string ⟨⟨l⟩⟩])=some (.int .i64 l.length):=by unfold Builtin.len_;rw[h0];show ah Q (underlying t>>=λd=>_)=_;rw[ag,ao hu,zah];rfl
 simp only[bL,this,D.kD,D.fi]
section
variable{Q:Program}{s:S}
theorem tO(k:D): ∀es:List (D×P),KW (AR k es) (λr=>jT k es=r)
 | []=>KW.ret rfl
 | (j,p)::r=>KW.bind (KW.dec (p:=λb=>D.dh j k=b) rfl) λb hb=>by
  cases b with
  |true=>exact KW.ret (by simp only[jT,hb,zbs])
  |false=>exact(tO k r).mono λx hx=>by simp only[jT,hb,zbl,hx]
theorem tP(k:D)(p:P): ∀es:List (D×P),KW (yL k p es) (λr=>lR k p es=r)
 | []=>KW.ret rfl
 | (j,q)::r=>KW.bind (KW.dec (p:=λb=>D.dh j k=b) rfl) λb hb=>by
  cases b with
  |true=>exact KW.ret (by simp only[lR,hb,zbs])
  |false=>show KW (K.bind (yL k p r) λr'=>K.ret ((j,q)::r')) _;exact KW.bind (tP k p r) λx hx=>KW.ret (by simp only[lR,hb,zbl,hx])
theorem tQ(k:D): ∀es:List (D×P),KW (yM k es) (λr=>lS k es=r)
 | []=>KW.ret rfl
 | (j,q)::r=>KW.bind (KW.dec (p:=λb=>D.dh j k=b) rfl) λb hb=>by
  cases b with
  |true=>exact KW.ret (by simp only[lS,hb,zbs])
  |false=>show KW (K.bind (yM k r) λr'=>K.ret ((j,q)::r')) _;exact KW.bind (tQ k r) λx hx=>KW.ret (by simp only[lS,hb,zbl,hx])
theorem sx{dst:Option Nat}{t:TypeId}{p k x:P}:KW (ph Q s dst t p k x) (λs1=>dz Q s dst t p k x=some s1):=by
 unfold ph;split
 next kt e n v kd hm=>
  split
  next gP es ho=>
   split
   next hk=>simp only[zac] at hk;refine KW.bind (KW.df (p:=λ_=>bG Q kt kd=true) λhb=>hb) λ_ hb=>KW.bind (tP kd x es) λes' he=>KW.cg λs1 h=> ?_;simp only[dz,hm,ho,hk.1,hk.2,hb,zbw,zaT,he];exact h
   exact KW.fail
  exact KW.fail
 exact KW.fail
theorem wM{dst:Option Nat}{t:TypeId}{p k:P}:KW (wm Q s dst t p k) (λs1=>o9 Q s dst t p k=some s1):=by
 unfold wm;split
 next kt e n v kd hm=>
  split
  next gP es ho=>
   split
   next hk=>refine KW.bind (KW.df (p:=λ_=>bG Q kt kd=true) λhb=>hb) λ_ hb=>KW.bind (tQ kd es) λes' he=>KW.cg λs1 h=> ?_;simp only[o9,hm,ho,hk,hb,zbw,zaT,he];exact h
   exact KW.fail
  exact KW.fail
 exact KW.fail
theorem sA{t:TypeId}{p i:P}{ok:Bool}:KW (pj Q s t p i ok) (λr=>((cy Q t).bind λy=>bS Q y.2).bind (λz=>bJ Q s t p i ok z)=some r):=by
 unfold pj;split
 next kt e hm=>
  split
  next z k hz=>
   split
   ·rename_i n v;split
    ·rename_i gP get c l ho;split
     next hk=>refine KW.bind (KW.df (p:=λ_=>bG Q kt k=true) λhb=>hb) λ_ hb=>KW.bind (kh Q e _) λy hy=>KW.ret ?_;have hy:(get k).getD z=y:=hy;simp only[zah,hz,bJ,hm,ho,hk,hb,zbw,zaT,hy]
     exact KW.fail
    ·rename_i gP get c pE kE ho;split
     next hk=>simp only[zac,zaW] at hk;refine KW.bind (KW.df (p:=λ_=>bG Q kt k=true) λhb=>hb) λ_ hb=>KW.bind (kh Q e _) λy hy=>KW.ret ?_;have hy:(get k).getD z=y:=hy;simp only[zah,hz,bJ,hm,ho,hk.1,hk.2,hb,Bool.not_false,zbw,zaT,hy]
     exact KW.fail
    ·rename_i gP es ho;split
     next hk=>refine KW.bind (KW.df (p:=λ_=>bG Q kt k=true) λhb=>hb) λ_ hb=>KW.bind (tO k es) λr hr=>KW.ret ?_;simp only[zah,hz,bJ,hm,ho,hk,hb,zbw,zaT,hr]
     exact KW.fail
    exact KW.fail
   ·refine KW.bind (KW.df (p:=λ_=>bG Q kt k=true) λhb=>hb) λ_ hb=>KW.ret ?_;simp only[zah,hz,bJ,hm,hb,zaT]
   exact KW.fail
  exact KW.fail
 exact KW.fail
theorem A5{o:Oper}{g:Option (Nat×Bool)}:KW (E1 Q s o g) (λp=>pv Q s o g=some p):=by
 have yl:KW (K.cg (pv Q s o g)) (λp=>pv Q s o g=some p):=KW.cg λa h=>h;unfold E1;split
 next c a b ho=>
  split
  next r hc=>
   have yn: ∀p,(if r then s.eg g a else s.eg g b)=p->pv Q s o g=some p:=λp hp=>by unfold pv;simp only[ho,hc,hp]
   split
   next p hp=>exact KW.ret (yn _ (P.mD hp).symm)
   exact KW.bind (KW.dec (p:=λr'=>r=r') rfl) λr' hr=>KW.ret (yn _ (by rw[hr]))
  exact KW.fail
 next op t x y yt ho=>
  have yn: ∀p,gF Q s op t x y (s.eg g x) (s.eg g y)=some p->pv Q s o g=some p:=λp hp=>by unfold pv;simp only[ho,hp]
  split
  next p q hp hq=>
   split
   next m hm=>exact KW.bind (yW (s:=s) (x:=x) (y:=y) hm) λz hz=>KW.ret (yn _ (by rw[hp,hq];exact hz))
   exact KW.cg λa ha=>yn _ (by rw[hp,hq];rw[hp,hq] at ha;exact ha)
  exact KW.cg λa ha=>yn _ ha
 next op t x ho=>
  split
  next b hb=>refine KW.ret ?_;unfold pv;simp only[ho,hb,P.aW,D.aW,D.cm];rfl
  next k n hb=>refine KW.bind (eP _ _) λz hz=>KW.ret ?_;subst hz;unfold pv;simp only[ho,hb,P.aW,D.aW,D.cm];rfl
  exact yl
 next a b x ho=>
  split
  next y hy=>
   split
   next m hm=>refine KW.bind (kL hm) λz hz=>KW.ret ?_;obtain⟨v,h1,h2⟩:=hz;unfold pv;simp only[ho,hy,P.aW,h1,h2]
   exact yl
  exact yl
 next t x ho=>exact wL.mono λq hq=>by unfold pv;simp only[ho,hq]
 next t x i ho=>exact nS.mono λq hq=>by unfold pv;simp only[ho,hq]
 next t x i ho=>
  split
  next l k j hu hx hi=>refine KW.df λhb=> ?_;simp only[zaE] at hb;unfold pv;simp only[ho,hu,hx,hi,P.aW,D.aW,D.cm];exact kj hu hb.1 hb.2
  exact yl
 next t x i ok ho=>
  refine sA.mono λq hq=> ?_;unfold pv;simp only[ho];cases hz:(cy Q t).bind λy=>bS Q y.2 with
  |none=>rw[hz] at hq;cases hq
  |some z=>rw[hz] at hq;exact hq
 next t x lo hi ho=>
  split
  next l hx=>
   split
   ·rename_i hu;refine KW.bind eQ λr hr=>KW.ret ?_;obtain⟨vl,vh,h1,h2,h3⟩:=ki hu hr;have ex:(s.eg g x).aW=some (.string ⟨⟨l⟩⟩):=by rw[hx];rfl
    unfold pv;simp only[ho,ex];cases lo with
    |none=>
     simp only[bv,zbC,zae] at h1;subst h1;cases hi with
     |none=>simp only[bv,zbC,zae] at h2;subst h2;exact h3
     |some u=>simp only[bv,zam] at h2;simp only[h2];exact h3
    |some l'=>
     simp only[bv,zam] at h1;cases hi with
     |none=>simp only[bv,zbC,zae] at h2;subst h2;simp only[h1];exact h3
     |some u=>simp only[bv,zam] at h2;simp only[h1,h2];exact h3
   exact KW.fail
  ·exact yl
  rename_i p rU yo;refine uF.mono λq hq=> ?_;unfold pv;simp only[ho];split
  next b hb=>
   exfalso;cases hp:s.eg g x with
   |d y=>
    rw[hp] at hb;cases y with
    |str l=>exact rU l hp
    |agg cs=>simp only[P.aW,D.aW] at hb;split at hb<;>cases hb
    |_=>cases hb
   |_=>rw[hp] at hb;cases hb
  exact hq
 next c ho=>
  split
  next hc=>
   split
   ·rename_i x bq hu;split
    next l hx=>refine KW.ret ?_;obtain⟨t,A4,ht⟩:=zaZ.1 hu;unfold pv;simp only[ho,hc,bq,hx,P.aW,D.aW,D.cm];exact pB A4 ht l
    exact KW.fail
   exact yl
  next hc=>
   split
   next k a k' b bq=>refine KW.ret ?_;rw[show min a b=if b<a then b else a by omega];unfold pv;simp only[ho,hc,bq,bm,P.aW,D.aW,D.cm];rfl
   exact yl
  next hc=>
   split
   next k a k' b bq=>refine KW.ret ?_;rw[show max a b=if b>a then b else a by omega];unfold pv;simp only[ho,hc,bq,bm,P.aW,D.aW,D.cm];rfl
   exact yl
  exact yl
 exact yl
end
end Pi
