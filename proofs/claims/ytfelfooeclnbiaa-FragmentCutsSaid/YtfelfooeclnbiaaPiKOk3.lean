/- The text PiKOk3. -/
import Derived.Test.YtfelfooeclnbiaaPiKOk2
namespace Pi
open Go
def bv:Option P->Option (Option Value)
 |none=>some none
 |some p=>p.aV.map some
theorem oA{len:Nat}{lo hi:Option P}{r:Nat×Nat}(h:bw len lo hi=some r):
  ((hi=none/\r.2=len)\/ ∃k j,hi=some (.d (.int k j))/\0<=j/\j<=(len:Int)/\r.2=j.toNat)/\((lo=none/\r.1=0)\/ ∃k j,lo=some (.d (.int k j))/\0<=j/\j<=(r.2:Int)/\r.1=j.toNat):=by
 unfold bw at h;split at h
 ·cases h
 rename_i h1 hh;have a1:(hi=none/\h1=len)\/ ∃k j,hi=some (.d (.int k j))/\0<=j/\j<=(len:Int)/\h1=j.toNat:=by
  split at hh
  ·simp at hh;exact .inl ⟨rfl,hh.symm⟩
  ·split at hh
   next k j hb=>simp at hh;exact .inr ⟨k,j,rfl,hb.1,hb.2,hh.symm⟩
   cases hh
  cases hh
 split at h
 ·simp at h;subst h;exact⟨a1,.inl ⟨rfl,rfl⟩⟩
 ·split at h
  next k j hb=>simp at h;subst h;exact⟨a1,.inr ⟨k,j,rfl,hb.1,hb.2,rfl⟩⟩
  cases h
 cases h
theorem cR(Q:Program){k:IntKind}{j:Int}{y:Nat}(h0:0<=j)(h1:j<=(y:Int))(c:BoundsCode):ai Q (Instr.sliceBound (.int k j) y c)=some j.toNat:=by
 have:Instr.sliceBound (.int k j) y c=if 0<=j/\j<=(y:Int) then(pure j.toNat:Sem Nat) else boundsPanic k j y c:=rfl
 rw[this,zax ⟨h0,h1⟩];rfl
theorem kZ(Q:Program){len:Nat}{lo hi:Option P}{r:Nat×Nat}(h:bw len lo hi=some r):
  ∃vl vh,bv lo=some vl/\bv hi=some vh/\ai Q (Instr.sliceBounds false len len vl vh none)=some (r.1,r.2,len):=by
 obtain⟨hh,hl⟩:=oA h;rcases hh with⟨rfl,e2⟩| ⟨k,j,rfl,h0,h1,e2⟩<;>rcases hl with⟨rfl,e1⟩| ⟨k',j',rfl,CU,zQ,e1⟩
 ·exact⟨none,none,rfl,rfl,by rw[e1,e2];rfl⟩
 ·refine⟨some (.int k' j'),none,rfl,rfl,?_⟩;have:ai Q (Instr.sliceBounds false len len (some (.int k' j')) none none)=(ai Q (Instr.sliceBound (.int k' j') len .sliceB)).bind λl=>some (l,len,len):=by unfold Instr.sliceBounds;rw[ah];show ai Q (Instr.sliceBound (.int k' j') len .sliceB>>=λl=>pure (l,len,len))=_;rw[ah];rfl
  rw[this,cR Q CU (by rw[<-e2];exact zQ),e1,e2];rfl
 ·refine⟨none,some (.int k j),rfl,rfl,?_⟩;have:ai Q (Instr.sliceBounds false len len none (some (.int k j)) none)=(ai Q (Instr.sliceBound (.int k j) len .sliceAlen)).bind λl=>some (0,l,len):=by unfold Instr.sliceBounds;show ai Q (Instr.sliceBound (.int k j) len .sliceAlen>>=λl=>pure (0,l,len))=_;rw[ah];rfl
  rw[this,cR Q h0 h1,e1,e2];rfl
 refine⟨some (.int k' j'),some (.int k j),rfl,rfl,?_⟩;have:ai Q (Instr.sliceBounds false len len (some (.int k' j')) (some (.int k j)) none)=(ai Q (Instr.sliceBound (.int k j) len .sliceAlen)).bind λl=>(ai Q (Instr.sliceBound (.int k' j') l .sliceB)).bind λm=>some (m,l,len):=by unfold Instr.sliceBounds;show ai Q (Instr.sliceBound (.int k j) len .sliceAlen>>=λl=>Instr.sliceBound (.int k' j') l .sliceB>>=λm=>pure (m,l,len))=_;rw[ah];congr 1;funext l;rw[ah];rfl
 rw[this,cR Q h0 h1,zai,cR Q CU (by rw[<-e2];exact zQ),e1,e2];rfl
theorem oB(l:List UInt8)(a b:Nat):((ByteArray.mk ⟨l⟩).extract a b).data.toList=(l.take b).drop a:=by simp[ByteArray.data_extract,zbF]
theorem jy{Q:Program}{t:TypeId}(hu:Q.underlying t=some .string){l:List UInt8}{lo hi:Option P}{r:Nat×Nat}(h:bw l.length lo hi=some r):
  ∃vl vh,bv lo=some vl/\bv hi=some vh/\bC Q (Instr.sliceAt t (.string ⟨⟨l⟩⟩) vl vh none)=some (.d (.str ((l.take r.2).drop r.1))):=by
 obtain⟨vl,vh,h1,h2,h3⟩:=kZ Q h;refine⟨vl,vh,h1,h2,?_⟩;have:ai Q (Instr.sliceAt t (.string ⟨⟨l⟩⟩) vl vh none)=some (.string ((ByteArray.mk ⟨l⟩).extract r.1 r.2)):=by unfold Instr.sliceAt;rw[ah,aq hu,zai];show ai Q (Instr.slice t (.string ⟨⟨l⟩⟩) vl vh none)=_;unfold Instr.slice;rw[ah,aq hu,zai];show ai Q (Instr.sliceBounds false l.length l.length vl vh none>>=λx=>_)=_;rw[ah,h3];rfl
 simp only[bC,this,D.jK,D.eU,oB]
theorem jz{Q:Program}{t:TypeId}(hu:Q.underlying t=some .string){l:List UInt8}{k:IntKind}{j:Int}(h0:0<=j)(h1:j<(l.length:Int)):
  bC Q (Instr.index t (.string ⟨⟨l⟩⟩) (.int k j))=some (.d (.int .u8 ((l.getD j.toNat 0).toNat))):=by
 have bm:j.toNat<l.length:=by omega
 have e:(ByteArray.mk ⟨l⟩)[j.toNat]?=some (l.getD j.toNat 0):=by rw[ByteArray.getElem?_lt' _ _ (show j.toNat<(ByteArray.mk ⟨l⟩).size from bm)];simp[bm];rfl
 have:ai Q (Instr.index t (.string ⟨⟨l⟩⟩) (.int k j))=some (.int .u8 ((l.getD j.toNat 0).toNat)):=by unfold Instr.index;show ai Q (underlying t>>=λd=>_)=_;rw[ah,aq hu,zai];simp only[zax h0,e];rfl
 simp only[bC,this,D.jK,D.eU]
theorem oC{Q:Program}{t:TypeId}{uk:Array TypeId}{ty:TypeId}(h0:uk[0]?=some t)(hu:Q.underlying t=some .string)(l:List UInt8):
  bC Q (Builtin.len_ uk ty #[.string ⟨⟨l⟩⟩])=some (.d (.int .i64 l.length)):=by
 have:ai Q (Builtin.len_ uk ty #[.string ⟨⟨l⟩⟩])=some (.int .i64 l.length):=by unfold Builtin.len_;rw[h0];show ai Q (underlying t>>=λd=>_)=_;rw[ah,aq hu,zai];rfl
 simp only[bC,this,D.jK,D.eU]
section
variable{Q:Program}{s:S}
theorem sk(k:D): ∀es:List (D×P),KW (yw k es) (λr=>jh k es=r)
 | []=>KW.ret rfl
 | (j,p)::r=>KW.bind (KW.dec (p:=λb=>D.iH j k=b) rfl) λb hb=>by
  cases b with
  |true=>exact KW.ret (by simp only[jh,hb,zby])
  |false=>exact(sk k r).mono λx hx=>by simp only[jh,hb,zbr,hx]
theorem sq(k:D)(p:P): ∀es:List (D×P),KW (wX k p es) (λr=>kV k p es=r)
 | []=>KW.ret rfl
 | (j,q)::r=>KW.bind (KW.dec (p:=λb=>D.iH j k=b) rfl) λb hb=>by
  cases b with
  |true=>exact KW.ret (by simp only[kV,hb,zby])
  |false=>show KW (K.bind (wX k p r) λr'=>K.ret ((j,q)::r')) _;exact KW.bind (sq k p r) λx hx=>KW.ret (by simp only[kV,hb,zbr,hx])
theorem sr(k:D): ∀es:List (D×P),KW (wY k es) (λr=>kW k es=r)
 | []=>KW.ret rfl
 | (j,q)::r=>KW.bind (KW.dec (p:=λb=>D.iH j k=b) rfl) λb hb=>by
  cases b with
  |true=>exact KW.ret (by simp only[kW,hb,zby])
  |false=>show KW (K.bind (wY k r) λr'=>K.ret ((j,q)::r')) _;exact KW.bind (sr k r) λx hx=>KW.ret (by simp only[kW,hb,zbr,hx])
theorem ra{dst:Option Nat}{t:TypeId}{p k x:P}:KW (og Q s dst t p k x) (λs1=>du Q s dst t p k x=some s1):=by
 unfold og;split
 next kt e n v kd hm=>
  split
  next gn es ho=>
   split
   next hk=>simp only[zad] at hk;refine KW.bind (KW.cW (p:=λ_=>bu Q kt kd=true) λhb=>hb) λ_ hb=>KW.bind (sq kd x es) λes' he=>KW.bU λs1 h=> ?_;simp only[du,hm,ho,hk.1,hk.2,hb,zbu,zaR,he];exact h
   exact KW.fail
  exact KW.fail
 exact KW.fail
theorem ve{dst:Option Nat}{t:TypeId}{p k:P}:KW (uL Q s dst t p k) (λs1=>n5 Q s dst t p k=some s1):=by
 unfold uL;split
 next kt e n v kd hm=>
  split
  next gn es ho=>
   split
   next hk=>refine KW.bind (KW.cW (p:=λ_=>bu Q kt kd=true) λhb=>hb) λ_ hb=>KW.bind (sr kd es) λes' he=>KW.bU λs1 h=> ?_;simp only[n5,hm,ho,hk,hb,zbu,zaR,he];exact h
   exact KW.fail
  exact KW.fail
 exact KW.fail
theorem rb{t:TypeId}{p i:P}{ok:Bool}:KW (oh Q s t p i ok) (λr=>((cm Q t).bind λy=>bK Q y.2).bind (λz=>bA Q s t p i ok z)=some r):=by
 unfold oh;split
 next kt e hm=>
  split
  next z k hz=>
   split
   ·rename_i n v;split
    ·rename_i gn get c l ho;split
     next hk=>refine KW.bind (KW.cW (p:=λ_=>bu Q kt k=true) λhb=>hb) λ_ hb=>KW.bind (jx Q e _) λy hy=>KW.ret ?_;have hy:(get k).getD z=y:=hy;simp only[zai,hz,bA,hm,ho,hk,hb,zbu,zaR,hy]
     exact KW.fail
    ·rename_i gn get c pE kE ho;split
     next hk=>simp only[zad,zaX] at hk;refine KW.bind (KW.cW (p:=λ_=>bu Q kt k=true) λhb=>hb) λ_ hb=>KW.bind (jx Q e _) λy hy=>KW.ret ?_;have hy:(get k).getD z=y:=hy;simp only[zai,hz,bA,hm,ho,hk.1,hk.2,hb,Bool.not_false,zbu,zaR,hy]
     exact KW.fail
    ·rename_i gn es ho;split
     next hk=>refine KW.bind (KW.cW (p:=λ_=>bu Q kt k=true) λhb=>hb) λ_ hb=>KW.bind (sk k es) λr hr=>KW.ret ?_;simp only[zai,hz,bA,hm,ho,hk,hb,zbu,zaR,hr]
     exact KW.fail
    exact KW.fail
   ·refine KW.bind (KW.cW (p:=λ_=>bu Q kt k=true) λhb=>hb) λ_ hb=>KW.ret ?_;simp only[zai,hz,bA,hm,hb,zaR]
   exact KW.fail
  exact KW.fail
 exact KW.fail
theorem yI{o:Oper}{g:Option (Nat×Bool)}:KW (BK Q s o g) (λp=>pv Q s o g=some p):=by
 have wN:KW (K.bU (pv Q s o g)) (λp=>pv Q s o g=some p):=KW.bU λa h=>h;unfold BK;split
 next c a b ho=>
  split
  next r hc=>
   have wO: ∀p,(if r then s.eg g a else s.eg g b)=p->pv Q s o g=some p:=λp hp=>by unfold pv;simp only[ho,hc,hp]
   split
   next p hp=>exact KW.ret (wO _ (P.lM hp).symm)
   exact KW.bind (KW.dec (p:=λr'=>r=r') rfl) λr' hr=>KW.ret (wO _ (by rw[hr]))
  exact KW.fail
 next op t x y yt ho=>
  have wO: ∀p,gg Q s op t x y (s.eg g x) (s.eg g y)=some p->pv Q s o g=some p:=λp hp=>by unfold pv;simp only[ho,hp]
  split
  next p q hp hq=>
   split
   next m hm=>exact KW.bind (xc (s:=s) (x:=x) (y:=y) hm) λz hz=>KW.ret (wO _ (by rw[hp,hq];exact hz))
   exact KW.bU λa ha=>wO _ (by rw[hp,hq];rw[hp,hq] at ha;exact ha)
  exact KW.bU λa ha=>wO _ ha
 next op t x ho=>
  split
  next b hb=>refine KW.ret ?_;unfold pv;simp only[ho,hb,P.aV,D.aV,D.bW];rfl
  next k n hb=>refine KW.bind (eB _ _) λz hz=>KW.ret ?_;subst hz;unfold pv;simp only[ho,hb,P.aV,D.aV,D.bW];rfl
  exact wN
 next a b x ho=>
  split
  next y hy=>
   split
   next m hm=>refine KW.bind (jR hm) λz hz=>KW.ret ?_;obtain⟨v,h1,h2⟩:=hz;unfold pv;simp only[ho,hy,P.aV,h1,h2]
   exact wN
  exact wN
 next t x ho=>exact vd.mono λq hq=>by unfold pv;simp only[ho,hq]
 next t x i ho=>exact mS.mono λq hq=>by unfold pv;simp only[ho,hq]
 next t x i ho=>
  split
  next l k j hu hx hi=>refine KW.cW λhb=> ?_;simp only[zaH] at hb;unfold pv;simp only[ho,hu,hx,hi,P.aV,D.aV,D.bW];exact jz hu hb.1 hb.2
  exact wN
 next t x i ok ho=>
  refine rb.mono λq hq=> ?_;unfold pv;simp only[ho];cases hz:(cm Q t).bind λy=>bK Q y.2 with
  |none=>rw[hz] at hq;cases hq
  |some z=>rw[hz] at hq;exact hq
 next t x lo hi ho=>
  split
  next l hx=>
   split
   ·rename_i hu;refine KW.bind eC λr hr=>KW.ret ?_;obtain⟨vl,vh,h1,h2,h3⟩:=jy hu hr;have ex:(s.eg g x).aV=some (.string ⟨⟨l⟩⟩):=by rw[hx];rfl
    unfold pv;simp only[ho,ex];cases lo with
    |none=>
     simp only[bv,zbz,zae] at h1;subst h1;cases hi with
     |none=>simp only[bv,zbz,zae] at h2;subst h2;exact h3
     |some u=>simp only[bv,zan] at h2;simp only[h2];exact h3
    |some l'=>
     simp only[bv,zan] at h1;cases hi with
     |none=>simp only[bv,zbz,zae] at h2;subst h2;simp only[h1];exact h3
     |some u=>simp only[bv,zan] at h2;simp only[h1,h2];exact h3
   exact KW.fail
  ·exact wN
  rename_i p qG wP;refine s7.mono λq hq=> ?_;unfold pv;simp only[ho];split
  next b hb=>
   exfalso;cases hp:s.eg g x with
   |d y=>
    rw[hp] at hb;cases y with
    |str l=>exact qG l hp
    |agg cs=>simp only[P.aV,D.aV] at hb;split at hb<;>cases hb
    |_=>cases hb
   |_=>rw[hp] at hb;cases hb
  exact hq
 next c ho=>
  split
  next hc=>
   split
   ·rename_i x bf hu;split
    next l hx=>refine KW.ret ?_;obtain⟨t,yH,ht⟩:=za0.1 hu;unfold pv;simp only[ho,hc,bf,hx,P.aV,D.aV,D.bW];exact oC yH ht l
    exact KW.fail
   exact wN
  next hc=>
   split
   next k a k' b bf=>refine KW.ret ?_;rw[show min a b=if b<a then b else a by omega];unfold pv;simp only[ho,hc,bf,bc,P.aV,D.aV,D.bW];rfl
   exact wN
  next hc=>
   split
   next k a k' b bf=>refine KW.ret ?_;rw[show max a b=if b>a then b else a by omega];unfold pv;simp only[ho,hc,bf,bc,P.aV,D.aV,D.bW];rfl
   exact wN
  exact wN
 exact wN
end
end Pi
