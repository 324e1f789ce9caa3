/- The text PiKOk3. -/
import Derived.Test.YtpiohccneeblhaaPiKOk2
namespace Pi
open Go
def bv:Option P->Option (Option Value)
 |none=>some none
 |some p=>p.bq.map some
theorem tE{len:Nat}{lo hi:Option P}{r:Nat×Nat}(h:cq len lo hi=some r):
  ((hi=none/\r.2=len)\/ ∃k j,hi=some (.d (.int k j))/\0<=j/\j<=(len:Int)/\r.2=j.toNat)/\((lo=none/\r.1=0)\/ ∃k j,lo=some (.d (.int k j))/\0<=j/\j<=(r.2:Int)/\r.1=j.toNat):=by
 unfold cq at h;split at h
 ·cases h
 rename_i h1 hh;have a1:(hi=none/\h1=len)\/ ∃k j,hi=some (.d (.int k j))/\0<=j/\j<=(len:Int)/\h1=j.toNat:=by
  split at hh
  ·simp at hh;exact .inl ⟨rfl,hh.symm⟩
  ·split at hh
   next k j hb=>simp at hh;exact .inr ⟨k,j,rfl,hb.1,hb.2,hh.symm⟩
   cases hh
  cases hh
 split at h
 ·simp at h;subst h;exact⟨a1,.inl ⟨rfl,rfl⟩⟩
 ·split at h
  next k j hb=>simp at h;subst h;exact⟨a1,.inr ⟨k,j,rfl,hb.1,hb.2,rfl⟩⟩
  cases h
 cases h
theorem eQ(Q:Program){k:IntKind}{j:Int}{y:Nat}(h0:0<=j)(h1:j<=(y:Int))(c:BoundsCode):ah Q (Instr.sliceBound (.int k j) y c)=some j.toNat:=by
 have:Instr.sliceBound (.int k j) y c=if 0<=j/\j<=(y:Int) then(pure j.toNat:Sem Nat) else boundsPanic k j y c:=rfl
 rw[this,zat ⟨h0,h1⟩];rfl
theorem oI(Q:Program){len:Nat}{lo hi:Option P}{r:Nat×Nat}(h:cq len lo hi=some r):
  ∃vl vh,bv lo=some vl/\bv hi=some vh/\ah Q (Instr.sliceBounds false len len vl vh none)=some (r.1,r.2,len):=by
 obtain⟨hh,hl⟩:=tE h;rcases hh with⟨rfl,e2⟩| ⟨k,j,rfl,h0,h1,e2⟩<;>rcases hl with⟨rfl,e1⟩| ⟨k',j',rfl,KN,Ia,e1⟩
 ·exact⟨none,none,rfl,rfl,by rw[e1,e2];rfl⟩
 ·refine⟨some (.int k' j'),none,rfl,rfl,?_⟩;have:ah Q (Instr.sliceBounds false len len (some (.int k' j')) none none)=(ah Q (Instr.sliceBound (.int k' j') len .sliceB)).bind λl=>some (l,len,len):=by unfold Instr.sliceBounds;rw[ag];show ah Q (Instr.sliceBound (.int k' j') len .sliceB>>=λl=>pure (l,len,len))=_;rw[ag];rfl
  rw[this,eQ Q KN (by rw[<-e2];exact Ia),e1,e2];rfl
 ·refine⟨none,some (.int k j),rfl,rfl,?_⟩;have:ah Q (Instr.sliceBounds false len len none (some (.int k j)) none)=(ah Q (Instr.sliceBound (.int k j) len .sliceAlen)).bind λl=>some (0,l,len):=by unfold Instr.sliceBounds;show ah Q (Instr.sliceBound (.int k j) len .sliceAlen>>=λl=>pure (0,l,len))=_;rw[ag];rfl
  rw[this,eQ Q h0 h1,e1,e2];rfl
 refine⟨some (.int k' j'),some (.int k j),rfl,rfl,?_⟩;have:ah Q (Instr.sliceBounds false len len (some (.int k' j')) (some (.int k j)) none)=(ah Q (Instr.sliceBound (.int k j) len .sliceAlen)).bind λl=>(ah Q (Instr.sliceBound (.int k' j') l .sliceB)).bind λm=>some (m,l,len):=by unfold Instr.sliceBounds;show ah Q (Instr.sliceBound (.int k j) len .sliceAlen>>=λl=>Instr.sliceBound (.int k' j') l .sliceB>>=λm=>pure (m,l,len))=_;rw[ag];congr 1;funext l;rw[ag];rfl
 rw[this,eQ Q h0 h1,zam,eQ Q KN (by rw[<-e2];exact Ia),e1,e2];rfl
theorem tF(l:List UInt8)(a b:Nat):((ByteArray.mk ⟨l⟩).extract a b).data.toList=(l.take b).drop a:=by simp[ByteArray.data_extract,zce]
theorem mz{Q:Program}{t:TypeId}(hu:Q.underlying t=some .string){l:List UInt8}{lo hi:Option P}{r:Nat×Nat}(h:cq l.length lo hi=some r):
  ∃vl vh,bv lo=some vl/\bv hi=some vh/\cC Q (Instr.sliceAt t (.string ⟨⟨l⟩⟩) vl vh none)=some (.d (.str ((l.take r.2).drop r.1))):=by
 obtain⟨vl,vh,h1,h2,h3⟩:=oI Q h;refine⟨vl,vh,h1,h2,?_⟩;have:ah Q (Instr.sliceAt t (.string ⟨⟨l⟩⟩) vl vh none)=some (.string ((ByteArray.mk ⟨l⟩).extract r.1 r.2)):=by unfold Instr.sliceAt;rw[ag,au hu,zam];show ah Q (Instr.slice t (.string ⟨⟨l⟩⟩) vl vh none)=_;unfold Instr.slice;rw[ag,au hu,zam];show ah Q (Instr.sliceBounds false l.length l.length vl vh none>>=λx=>_)=_;rw[ag,h3];rfl
 simp only[cC,this,D.nc,D.iv,tF]
theorem mA{Q:Program}{t:TypeId}(hu:Q.underlying t=some .string){l:List UInt8}{k:IntKind}{j:Int}(h0:0<=j)(h1:j<(l.length:Int)):
  cC Q (Instr.index t (.string ⟨⟨l⟩⟩) (.int k j))=some (.d (.int .u8 ((l.getD j.toNat 0).toNat))):=by
 have bj:j.toNat<l.length:=by omega
 have e:(ByteArray.mk ⟨l⟩)[j.toNat]?=some (l.getD j.toNat 0):=by rw[ByteArray.getElem?_lt' _ _ (show j.toNat<(ByteArray.mk ⟨l⟩).size from bj)];simp[bj];rfl
 have:ah Q (Instr.index t (.string ⟨⟨l⟩⟩) (.int k j))=some (.int .u8 ((l.getD j.toNat 0).toNat)):=by unfold Instr.index;show ah Q (underlying t>>=λd=>_)=_;rw[ag,au hu,zam];simp only[zat h0,e];rfl
 simp only[cC,this,D.nc,D.iv]
theorem tG{Q:Program}{t:TypeId}{Bc:Array TypeId}{ty:TypeId}(h0:Bc[0]?=some t)(hu:Q.underlying t=some .string)(l:List UInt8):
  cC Q (Builtin.len_ Bc ty #[.string ⟨⟨l⟩⟩])=some (.d (.int .i64 l.length)):=by
 have:ah Q (Builtin.len_ Bc ty #[.string ⟨⟨l⟩⟩])=some (.int .i64 l.length):=by unfold Builtin.len_;rw[h0];show ah Q (underlying t>>=λd=>_)=_;rw[ag,au hu,zam];rfl
 simp only[cC,this,D.nc,D.iv]
section
variable{Q:Program}{s:S}
theorem xC{dst:Option Nat}{t:TypeId}{p k x:P}:KW (tk Q s dst t p k x) (λs1=>fp Q s dst t p k x=some s1):=by
 unfold tk;split
 next kt e n v kd hm=>
  split
  next jY vals c ho=>
   split
   next hk=>simp only[zad] at hk;refine KW.bind (KW.cZ (p:=λ_=>cp Q kt kd=true) λhb=>hb) λ_ hb=>KW.bind (KW.cZ (p:=λ_=>(vals kd).isNone=true) λhb=>hb) λ_ hn=>KW.cb λs1 h=> ?_;simp only[fp,hm,ho,hk.1,hk.2,hb,hn,zbP,zaT];exact h
   exact KW.fail
  exact KW.fail
 exact KW.fail
theorem B8{dst:Option Nat}{t:TypeId}{p k:P}:KW (BK Q s dst t p k) (λs1=>s8 Q s dst t p k=some s1):=by
 unfold BK;split
 next kt e n v kd hm=>
  split
  next jY vals c k0 p0 ho=>
   split
   next hk=>refine KW.bind (KW.cZ (p:=λ_=>cp Q kt kd=true) λhb=>hb) λ_ hb=>KW.bind (KW.cZ (p:=λ_=>D.cP k0 kd=true) λhb=>hb) λ_ hn=>KW.cb λs1 h=> ?_;simp only[s8,hm,ho,hk,hb,hn,zbP,zaT];exact h
   exact KW.fail
  exact KW.fail
 exact KW.fail
theorem xD{t:TypeId}{p i:P}{ok:Bool}:KW (tl Q s t p i ok) (λr=>((dE Q t).bind λy=>cQ Q y.2).bind (λz=>cr Q s t p i ok z)=some r):=by
 unfold tl;split
 next kt e hm=>
  split
  next z k hz=>
   split
   ·rename_i n v;split
    ·rename_i jY get c l ho;split
     next hk=>refine KW.bind (KW.cZ (p:=λ_=>cp Q kt k=true) λhb=>hb) λ_ hb=>KW.bind (ij Q e _) λy hy=>KW.ret ?_;have hy:(get k).getD z=y:=hy;simp only[zam,hz,cr,hm,ho,hk,hb,zbP,zaT,hy]
     exact KW.fail
    ·rename_i jY get c pE kE ho;split
     next hk=>simp only[zad,zbk] at hk;refine KW.bind (KW.cZ (p:=λ_=>cp Q kt k=true) λhb=>hb) λ_ hb=>KW.bind (ij Q e _) λy hy=>KW.ret ?_;have hy:(get k).getD z=y:=hy;simp only[zam,hz,cr,hm,ho,hk.1,hk.2,hb,Bool.not_false,zbP,zaT,hy]
     exact KW.fail
    ·rename_i jY vals c hand ho;split
     ·rename_i hk;refine KW.bind (KW.cZ (p:=λ_=>cp Q kt k=true) λhb=>hb) λ_ hb=> ?_;cases hand with
      |some y=>obtain⟨k0,p⟩:=y;refine KW.bind (KW.cZ (p:=λ_=>D.cP k0 k=true) λhb=>hb) λ_ hn=>KW.ret ?_;simp only[zam,hz,cr,hm,ho,hk,hb,zbP,zaT,zF,hn,zbp,zbM,Option.isSome_some]
      |none=>refine KW.bind (KW.cZ (p:=λ_=>(vals k).isNone=true) λhb=>hb) λ_ hn=>KW.ret ?_;simp only[zam,hz,cr,hm,ho,hk,hb,zbP,zaT,zF,zcv.1 hn,zbR,Option.getD_none,Option.isSome_none]
     exact KW.fail
    exact KW.fail
   ·refine KW.bind (KW.cZ (p:=λ_=>cp Q kt k=true) λhb=>hb) λ_ hb=>KW.ret ?_;simp only[zam,hz,cr,hm,hb,zaT]
   exact KW.fail
  exact KW.fail
 exact KW.fail
theorem GN{o:Oper}{g:Option (Nat×Bool)}:KW (LF Q s o g) (λp=>pv Q s o g=some p):=by
 have DW:KW (K.cb (pv Q s o g)) (λp=>pv Q s o g=some p):=KW.cb λa h=>h;unfold LF;split
 next c a b ho=>
  split
  next r hc=>
   have DX: ∀p,(if r then s.eg g a else s.eg g b)=p->pv Q s o g=some p:=λp hp=>by unfold pv;simp only[ho,hc,hp]
   split
   next p hp=>exact KW.ret (DX _ (P.pI hp).symm)
   exact KW.bind (KW.dec (p:=λr'=>r=r') rfl) λr' hr=>KW.ret (DX _ (by rw[hr]))
  exact KW.fail
 next op t x y yt ho=>
  have DX: ∀p,jR Q s op t x y (s.eg g x) (s.eg g y)=some p->pv Q s o g=some p:=λp hp=>by unfold pv;simp only[ho,hp]
  split
  next p q hp hq=>
   split
   next m hm=>exact KW.bind (Ex (s:=s) (x:=x) (y:=y) hm) λz hz=>KW.ret (DX _ (by rw[hp,hq];exact hz))
   exact KW.cb λa ha=>DX _ (by rw[hp,hq];rw[hp,hq] at ha;exact ha)
  exact KW.cb λa ha=>DX _ ha
 next op t x ho=>
  split
  next b hb=>refine KW.ret ?_;unfold pv;simp only[ho,hb,P.bq,D.bq,D.dJ];rfl
  next k n hb=>refine KW.bind (gM _ _) λz hz=>KW.ret ?_;subst hz;unfold pv;simp only[ho,hb,P.bq,D.bq,D.dJ];rfl
  exact DW
 next a b x ho=>
  split
  next y hy=>
   split
   next m hm=>refine KW.bind (nq hm) λz hz=>KW.ret ?_;obtain⟨v,h1,h2⟩:=hz;unfold pv;simp only[ho,hy,P.bq,h1,h2]
   exact DW
  exact DW
 next t x ho=>exact B7.mono λq hq=>by unfold pv;simp only[ho,hq]
 next t x i ho=>exact rq.mono λq hq=>by unfold pv;simp only[ho,hq]
 next t x i ho=>
  split
  next l k j hu hx hi=>refine KW.cZ λhb=> ?_;simp only[zaP] at hb;unfold pv;simp only[ho,hu,hx,hi,P.bq,D.bq,D.dJ];exact mA hu hb.1 hb.2
  exact DW
 next t x i ok ho=>
  refine xD.mono λq hq=> ?_;unfold pv;simp only[ho];cases hz:(dE Q t).bind λy=>cQ Q y.2 with
  |none=>rw[hz] at hq;cases hq
  |some z=>rw[hz] at hq;exact hq
 next t x lo hi ho=>
  split
  next l hx=>
   split
   ·rename_i hu;refine KW.bind gN λr hr=>KW.ret ?_;obtain⟨vl,vh,h1,h2,h3⟩:=mz hu hr;have ex:(s.eg g x).bq=some (.string ⟨⟨l⟩⟩):=by rw[hx];rfl
    unfold pv;simp only[ho,ex];cases lo with
    |none=>
     simp only[bv,zbR,zaf] at h1;subst h1;cases hi with
     |none=>simp only[bv,zbR,zaf] at h2;subst h2;exact h3
     |some u=>simp only[bv,zaA] at h2;simp only[h2];exact h3
    |some l'=>
     simp only[bv,zaA] at h1;cases hi with
     |none=>simp only[bv,zbR,zaf] at h2;subst h2;simp only[h1];exact h3
     |some u=>simp only[bv,zaA] at h2;simp only[h1,h2];exact h3
   exact KW.fail
  ·exact DW
  rename_i p vv DY;refine zT.mono λq hq=> ?_;unfold pv;simp only[ho];split
  next b hb=>
   exfalso;cases hp:s.eg g x with
   |d y=>
    rw[hp] at hb;cases y with
    |str l=>exact vv l hp
    |agg cs=>simp only[P.bq,D.bq] at hb;split at hb<;>cases hb
    |_=>cases hb
   |_=>rw[hp] at hb;cases hb
  exact hq
 next c ho=>
  split
  next hc=>
   split
   ·rename_i x bp hu;split
    next l hx=>refine KW.ret ?_;obtain⟨t,GM,ht⟩:=zbm.1 hu;unfold pv;simp only[ho,hc,bp,hx,P.bq,D.bq,D.dJ];exact tG GM ht l
    exact KW.fail
   exact DW
  next hc=>
   split
   next k a k' b bp=>refine KW.ret ?_;rw[show min a b=if b<a then b else a by omega];unfold pv;simp only[ho,hc,bp,bS,P.bq,D.bq,D.dJ];rfl
   exact DW
  next hc=>
   split
   next k a k' b bp=>refine KW.ret ?_;rw[show max a b=if b>a then b else a by omega];unfold pv;simp only[ho,hc,bp,bS,P.bq,D.bq,D.dJ];rfl
   exact DW
  exact DW
 exact DW
end
end Pi
