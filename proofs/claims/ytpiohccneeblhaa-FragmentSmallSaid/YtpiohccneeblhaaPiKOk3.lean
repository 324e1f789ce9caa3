/- The text PiKOk3. -/
import Derived.Test.YtpiohccneeblhaaPiKOk2
namespace Pi
open Go
def bv:Option P->Option (Option Value)
 |none=>some none
 |some p=>p.br.map some
theorem tL{len:Nat}{lo hi:Option P}{r:Nat×Nat}(h:cr len lo hi=some r):
  ((hi=none/\r.2=len)\/ ∃k j,hi=some (.d (.int k j))/\0<=j/\j<=(len:Int)/\r.2=j.toNat)/\((lo=none/\r.1=0)\/ ∃k j,lo=some (.d (.int k j))/\0<=j/\j<=(r.2:Int)/\r.1=j.toNat):=by
 unfold cr at h;split at h
 ·cases h
 rename_i h1 hh;have a1:(hi=none/\h1=len)\/ ∃k j,hi=some (.d (.int k j))/\0<=j/\j<=(len:Int)/\h1=j.toNat:=by
  split at hh
  ·simp at hh;exact .inl ⟨rfl,hh.symm⟩
  ·split at hh
   next k j hb=>simp at hh;exact .inr ⟨k,j,rfl,hb.1,hb.2,hh.symm⟩
   cases hh
  cases hh
 split at h
 ·simp at h;subst h;exact⟨a1,.inl ⟨rfl,rfl⟩⟩
 ·split at h
  next k j hb=>simp at h;subst h;exact⟨a1,.inr ⟨k,j,rfl,hb.1,hb.2,rfl⟩⟩
  cases h
 cases h
theorem eR(Q:Program){k:IntKind}{j:Int}{y:Nat}(h0:0<=j)(h1:j<=(y:Int))(c:BoundsCode):ah Q (Instr.sliceBound (.int k j) y c)=some j.toNat:=by
 have:Instr.sliceBound (.int k j) y c=if 0<=j/\j<=(y:Int) then(pure j.toNat:Sem Nat) else boundsPanic k j y c:=rfl
 rw[this,zat ⟨h0,h1⟩];rfl
theorem oJ(Q:Program){len:Nat}{lo hi:Option P}{r:Nat×Nat}(h:cr len lo hi=some r):
  ∃vl vh,bv lo=some vl/\bv hi=some vh/\ah Q (Instr.sliceBounds false len len vl vh none)=some (r.1,r.2,len):=by
 obtain⟨hh,hl⟩:=tL h;rcases hh with⟨rfl,e2⟩| ⟨k,j,rfl,h0,h1,e2⟩<;>rcases hl with⟨rfl,e1⟩| ⟨k',j',rfl,Li,Iu,e1⟩
 ·exact⟨none,none,rfl,rfl,by rw[e1,e2];rfl⟩
 ·refine⟨some (.int k' j'),none,rfl,rfl,?_⟩;have:ah Q (Instr.sliceBounds false len len (some (.int k' j')) none none)=(ah Q (Instr.sliceBound (.int k' j') len .sliceB)).bind λl=>some (l,len,len):=by unfold Instr.sliceBounds;rw[ag];show ah Q (Instr.sliceBound (.int k' j') len .sliceB>>=λl=>pure (l,len,len))=_;rw[ag];rfl
  rw[this,eR Q Li (by rw[<-e2];exact Iu),e1,e2];rfl
 ·refine⟨none,some (.int k j),rfl,rfl,?_⟩;have:ah Q (Instr.sliceBounds false len len none (some (.int k j)) none)=(ah Q (Instr.sliceBound (.int k j) len .sliceAlen)).bind λl=>some (0,l,len):=by unfold Instr.sliceBounds;show ah Q (Instr.sliceBound (.int k j) len .sliceAlen>>=λl=>pure (0,l,len))=_;rw[ag];rfl
  rw[this,eR Q h0 h1,e1,e2];rfl
 refine⟨some (.int k' j'),some (.int k j),rfl,rfl,?_⟩;have:ah Q (Instr.sliceBounds false len len (some (.int k' j')) (some (.int k j)) none)=(ah Q (Instr.sliceBound (.int k j) len .sliceAlen)).bind λl=>(ah Q (Instr.sliceBound (.int k' j') l .sliceB)).bind λm=>some (m,l,len):=by unfold Instr.sliceBounds;show ah Q (Instr.sliceBound (.int k j) len .sliceAlen>>=λl=>Instr.sliceBound (.int k' j') l .sliceB>>=λm=>pure (m,l,len))=_;rw[ag];congr 1;funext l;rw[ag];rfl
 rw[this,eR Q h0 h1,zam,eR Q Li (by rw[<-e2];exact Iu),e1,e2];rfl
theorem tM(l:List UInt8)(a b:Nat):((ByteArray.mk ⟨l⟩).extract a b).data.toList=(l.take b).drop a:=by simp[ByteArray.data_extract,zcf]
theorem mD{Q:Program}{t:TypeId}(hu:Q.underlying t=some .string){l:List UInt8}{lo hi:Option P}{r:Nat×Nat}(h:cr l.length lo hi=some r):
  ∃vl vh,bv lo=some vl/\bv hi=some vh/\cD Q (Instr.sliceAt t (.string ⟨⟨l⟩⟩) vl vh none)=some (.d (.str ((l.take r.2).drop r.1))):=by
 obtain⟨vl,vh,h1,h2,h3⟩:=oJ Q h;refine⟨vl,vh,h1,h2,?_⟩;have:ah Q (Instr.sliceAt t (.string ⟨⟨l⟩⟩) vl vh none)=some (.string ((ByteArray.mk ⟨l⟩).extract r.1 r.2)):=by unfold Instr.sliceAt;rw[ag,au hu,zam];show ah Q (Instr.slice t (.string ⟨⟨l⟩⟩) vl vh none)=_;unfold Instr.slice;rw[ag,au hu,zam];show ah Q (Instr.sliceBounds false l.length l.length vl vh none>>=λx=>_)=_;rw[ag,h3];rfl
 simp only[cD,this,D.nh,D.iw,tM]
theorem mE{Q:Program}{t:TypeId}(hu:Q.underlying t=some .string){l:List UInt8}{k:IntKind}{j:Int}(h0:0<=j)(h1:j<(l.length:Int)):
  cD Q (Instr.index t (.string ⟨⟨l⟩⟩) (.int k j))=some (.d (.int .u8 ((l.getD j.toNat 0).toNat))):=by
 have bj:j.toNat<l.length:=by omega
 have e:(ByteArray.mk ⟨l⟩)[j.toNat]?=some (l.getD j.toNat 0):=by rw[ByteArray.getElem?_lt' _ _ (show j.toNat<(ByteArray.mk ⟨l⟩).size from bj)];simp[bj];rfl
 have:ah Q (Instr.index t (.string ⟨⟨l⟩⟩) (.int k j))=some (.int .u8 ((l.getD j.toNat 0).toNat)):=by unfold Instr.index;show ah Q (underlying t>>=λd=>_)=_;rw[ag,au hu,zam];simp only[zat h0,e];rfl
 simp only[cD,this,D.nh,D.iw]
theorem tN{Q:Program}{t:TypeId}{Bs:Array TypeId}{ty:TypeId}(h0:Bs[0]?=some t)(hu:Q.underlying t=some .string)(l:List UInt8):
  cD Q (Builtin.len_ Bs ty #[.string ⟨⟨l⟩⟩])=some (.d (.int .i64 l.length)):=by
 have:ah Q (Builtin.len_ Bs ty #[.string ⟨⟨l⟩⟩])=some (.int .i64 l.length):=by unfold Builtin.len_;rw[h0];show ah Q (underlying t>>=λd=>_)=_;rw[ag,au hu,zam];rfl
 simp only[cD,this,D.nh,D.iw]
section
variable{Q:Program}{s:S}
theorem xN{dst:Option Nat}{t:TypeId}{p k x:P}:KW (tv Q s dst t p k x) (λs1=>fp Q s dst t p k x=some s1):=by
 unfold tv;split
 next kt e n v kd hm=>
  split
  next jY vals c ho=>
   split
   next hk=>simp only[zad] at hk;refine KW.bind (KW.cZ (p:=λ_=>cq Q kt kd=true) λhb=>hb) λ_ hb=>KW.bind (KW.cZ (p:=λ_=>(vals kd).isNone=true) λhb=>hb) λ_ hn=>KW.cg λs1 h=> ?_;simp only[fp,hm,ho,hk.1,hk.2,hb,hn,zbQ,zaT];exact h
   exact KW.fail
  exact KW.fail
 exact KW.fail
theorem Co{dst:Option Nat}{t:TypeId}{p k:P}:KW (B0 Q s dst t p k) (λs1=>tk Q s dst t p k=some s1):=by
 unfold B0;split
 next kt e n v kd hm=>
  split
  next jY vals c k0 p0 ho=>
   split
   next hk=>refine KW.bind (KW.cZ (p:=λ_=>cq Q kt kd=true) λhb=>hb) λ_ hb=>KW.bind (KW.cZ (p:=λ_=>D.cP k0 kd=true) λhb=>hb) λ_ hn=>KW.cg λs1 h=> ?_;simp only[tk,hm,ho,hk,hb,hn,zbQ,zaT];exact h
   exact KW.fail
  exact KW.fail
 exact KW.fail
theorem xO{t:TypeId}{p i:P}{ok:Bool}:KW (tA Q s t p i ok) (λr=>((dF Q t).bind λy=>cQ Q y.2).bind (λz=>ct Q s t p i ok z)=some r):=by
 unfold tA;split
 next kt e hm=>
  split
  next z k hz=>
   split
   ·rename_i n v;split
    ·rename_i jY get c l ho;split
     next hk=>refine KW.bind (KW.cZ (p:=λ_=>cq Q kt k=true) λhb=>hb) λ_ hb=>KW.bind (ik Q e _) λy hy=>KW.ret ?_;have hy:(get k).getD z=y:=hy;simp only[zam,hz,ct,hm,ho,hk,hb,zbQ,zaT,hy]
     exact KW.fail
    ·rename_i jY get c pE kE ho;split
     next hk=>simp only[zad,zbn] at hk;refine KW.bind (KW.cZ (p:=λ_=>cq Q kt k=true) λhb=>hb) λ_ hb=>KW.bind (ik Q e _) λy hy=>KW.ret ?_;have hy:(get k).getD z=y:=hy;simp only[zam,hz,ct,hm,ho,hk.1,hk.2,hb,Bool.not_false,zbQ,zaT,hy]
     exact KW.fail
    ·rename_i jY vals c hand ho;split
     ·rename_i hk;refine KW.bind (KW.cZ (p:=λ_=>cq Q kt k=true) λhb=>hb) λ_ hb=> ?_;cases hand with
      |some y=>obtain⟨k0,p⟩:=y;refine KW.bind (KW.cZ (p:=λ_=>D.cP k0 k=true) λhb=>hb) λ_ hn=>KW.ret ?_;simp only[zam,hz,ct,hm,ho,hk,hb,zbQ,zaT,zT,hn,zbk,zbM,Option.isSome_some]
      |none=>refine KW.bind (KW.cZ (p:=λ_=>(vals k).isNone=true) λhb=>hb) λ_ hn=>KW.ret ?_;simp only[zam,hz,ct,hm,ho,hk,hb,zbQ,zaT,zT,zcv.1 hn,zbS,Option.getD_none,Option.isSome_none]
     exact KW.fail
    exact KW.fail
   ·refine KW.bind (KW.cZ (p:=λ_=>cq Q kt k=true) λhb=>hb) λ_ hb=>KW.ret ?_;simp only[zam,hz,ct,hm,hb,zaT]
   exact KW.fail
  exact KW.fail
 exact KW.fail
theorem G9{o:Oper}{g:Option (Nat×Bool)}:KW (L8 Q s o g) (λp=>pv Q s o g=some p):=by
 have Ed:KW (K.cg (pv Q s o g)) (λp=>pv Q s o g=some p):=KW.cg λa h=>h;unfold L8;split
 next c a b ho=>
  split
  next r hc=>
   have Ee: ∀p,(if r then s.eg g a else s.eg g b)=p->pv Q s o g=some p:=λp hp=>by unfold pv;simp only[ho,hc,hp]
   split
   next p hp=>exact KW.ret (Ee _ (P.pN hp).symm)
   exact KW.bind (KW.dec (p:=λr'=>r=r') rfl) λr' hr=>KW.ret (Ee _ (by rw[hr]))
  exact KW.fail
 next op t x y yt ho=>
  have Ee: ∀p,jQ Q s op t x y (s.eg g x) (s.eg g y)=some p->pv Q s o g=some p:=λp hp=>by unfold pv;simp only[ho,hp]
  split
  next p q hp hq=>
   split
   next m hm=>exact KW.bind (EN (s:=s) (x:=x) (y:=y) hm) λz hz=>KW.ret (Ee _ (by rw[hp,hq];exact hz))
   exact KW.cg λa ha=>Ee _ (by rw[hp,hq];rw[hp,hq] at ha;exact ha)
  exact KW.cg λa ha=>Ee _ ha
 next op t x ho=>
  split
  next b hb=>refine KW.ret ?_;unfold pv;simp only[ho,hb,P.br,D.br,D.dK];rfl
  next k n hb=>refine KW.bind (gM _ _) λz hz=>KW.ret ?_;subst hz;unfold pv;simp only[ho,hb,P.br,D.br,D.dK];rfl
  exact Ed
 next a b x ho=>
  split
  next y hy=>
   split
   next m hm=>refine KW.bind (nt hm) λz hz=>KW.ret ?_;obtain⟨v,h1,h2⟩:=hz;unfold pv;simp only[ho,hy,P.br,h1,h2]
   exact Ed
  exact Ed
 next t x ho=>exact Cn.mono λq hq=>by unfold pv;simp only[ho,hq]
 next t x i ho=>exact rz.mono λq hq=>by unfold pv;simp only[ho,hq]
 next t x i ho=>
  split
  next l k j hu hx hi=>refine KW.cZ λhb=> ?_;simp only[zaI] at hb;unfold pv;simp only[ho,hu,hx,hi,P.br,D.br,D.dK];exact mE hu hb.1 hb.2
  exact Ed
 next t x i ok ho=>
  refine xO.mono λq hq=> ?_;unfold pv;simp only[ho];cases hz:(dF Q t).bind λy=>cQ Q y.2 with
  |none=>rw[hz] at hq;cases hq
  |some z=>rw[hz] at hq;exact hq
 next t x lo hi ho=>
  split
  next l hx=>
   split
   ·rename_i hu;refine KW.bind gN λr hr=>KW.ret ?_;obtain⟨vl,vh,h1,h2,h3⟩:=mD hu hr;have ex:(s.eg g x).br=some (.string ⟨⟨l⟩⟩):=by rw[hx];rfl
    unfold pv;simp only[ho,ex];cases lo with
    |none=>
     simp only[bv,zbS,zaf] at h1;subst h1;cases hi with
     |none=>simp only[bv,zbS,zaf] at h2;subst h2;exact h3
     |some u=>simp only[bv,zaA] at h2;simp only[h2];exact h3
    |some l'=>
     simp only[bv,zaA] at h1;cases hi with
     |none=>simp only[bv,zbS,zaf] at h2;subst h2;simp only[h1];exact h3
     |some u=>simp only[bv,zaA] at h2;simp only[h1,h2];exact h3
   exact KW.fail
  ·exact Ed
  rename_i p vH Ef;refine Af.mono λq hq=> ?_;unfold pv;simp only[ho];split
  next b hb=>
   exfalso;cases hp:s.eg g x with
   |d y=>
    rw[hp] at hb;cases y with
    |str l=>exact vH l hp
    |agg cs=>simp only[P.br,D.br] at hb;split at hb<;>cases hb
    |_=>cases hb
   |_=>rw[hp] at hb;cases hb
  exact hq
 next c ho=>
  split
  next hc=>
   split
   ·rename_i x bq hu;split
    next l hx=>refine KW.ret ?_;obtain⟨t,G8,ht⟩:=zbp.1 hu;unfold pv;simp only[ho,hc,bq,hx,P.br,D.br,D.dK];exact tN G8 ht l
    exact KW.fail
   exact Ed
  next hc=>
   split
   next k a k' b bq=>refine KW.ret ?_;rw[show min a b=if b<a then b else a by omega];unfold pv;simp only[ho,hc,bq,bU,P.br,D.br,D.dK];rfl
   exact Ed
  next hc=>
   split
   next k a k' b bq=>refine KW.ret ?_;rw[show max a b=if b>a then b else a by omega];unfold pv;simp only[ho,hc,bq,bU,P.br,D.br,D.dK];rfl
   exact Ed
  exact Ed
 exact Ed
end
end Pi
