/- The text PiKOk3. -/
import Derived.Test.YtfelfooeclnbiaaGreatDoorPiKOk2
namespace Pi
open Go
def bv:Option P->Option (Option Value)
 |none=>some none
 |some p=>p.cp.map some
theorem Ce{len:Nat}{lo hi:Option P}{r:Nat×Nat}(h:dm len lo hi=some r):
  ((hi=none/\r.2=len)\/ ∃k j,hi=some (.d (.int k j))/\0<=j/\j<=(len:Int)/\r.2=j.toNat)/\((lo=none/\r.1=0)\/ ∃k j,lo=some (.d (.int k j))/\0<=j/\j<=(r.2:Int)/\r.1=j.toNat):=by
 unfold dm at h;split at h
 ·cases h
 rename_i h1 hh;have a1:(hi=none/\h1=len)\/ ∃k j,hi=some (.d (.int k j))/\0<=j/\j<=(len:Int)/\h1=j.toNat:=by
  split at hh
  ·simp at hh;exact .inl ⟨rfl,hh.symm⟩
  ·split at hh
   next k j hb=>simp at hh;exact .inr ⟨k,j,rfl,hb.1,hb.2,hh.symm⟩
   cases hh
  cases hh
 split at h
 ·simp at h;subst h;exact⟨a1,.inl ⟨rfl,rfl⟩⟩
 ·split at h
  next k j hb=>simp at h;subst h;exact⟨a1,.inr ⟨k,j,rfl,hb.1,hb.2,rfl⟩⟩
  cases h
 cases h
theorem gW(Q:Program){k:IntKind}{j:Int}{y:Nat}(h0:0<=j)(h1:j<=(y:Int))(c:BoundsCode):ay Q (Instr.sliceBound (.int k j) y c)=some j.toNat:=by
 have:Instr.sliceBound (.int k j) y c=if 0<=j/\j<=(y:Int) then(pure j.toNat:Sem Nat) else boundsPanic k j y c:=rfl
 rw[this,zaq ⟨h0,h1⟩];rfl
theorem wh(Q:Program){len:Nat}{lo hi:Option P}{r:Nat×Nat}(h:dm len lo hi=some r):
  ∃vl vh,bv lo=some vl/\bv hi=some vh/\ay Q (Instr.sliceBounds false len len vl vh none)=some (r.1,r.2,len):=by
 obtain⟨hh,hl⟩:=Ce h;rcases hh with⟨rfl,e2⟩| ⟨k,j,rfl,h0,h1,e2⟩<;>rcases hl with⟨rfl,e1⟩| ⟨k',j',rfl,h0',Me,e1⟩
 ·exact⟨none,none,rfl,rfl,by rw[e1,e2];rfl⟩
 ·refine⟨some (.int k' j'),none,rfl,rfl,?_⟩;have:ay Q (Instr.sliceBounds false len len (some (.int k' j')) none none)=(ay Q (Instr.sliceBound (.int k' j') len .sliceB)).bind λl=>some (l,len,len):=by unfold Instr.sliceBounds;rw[aw];show ay Q (Instr.sliceBound (.int k' j') len .sliceB>>=λl=>pure (l,len,len))=_;rw[aw];rfl
  rw[this,gW Q h0' (by rw[<-e2];exact Me),e1,e2];rfl
 ·refine⟨none,some (.int k j),rfl,rfl,?_⟩;have:ay Q (Instr.sliceBounds false len len none (some (.int k j)) none)=(ay Q (Instr.sliceBound (.int k j) len .sliceAlen)).bind λl=>some (0,l,len):=by unfold Instr.sliceBounds;show ay Q (Instr.sliceBound (.int k j) len .sliceAlen>>=λl=>pure (0,l,len))=_;rw[aw];rfl
  rw[this,gW Q h0 h1,e1,e2];rfl
 refine⟨some (.int k' j'),some (.int k j),rfl,rfl,?_⟩;have:ay Q (Instr.sliceBounds false len len (some (.int k' j')) (some (.int k j)) none)=(ay Q (Instr.sliceBound (.int k j) len .sliceAlen)).bind λl=>(ay Q (Instr.sliceBound (.int k' j') l .sliceB)).bind λm=>some (m,l,len):=by unfold Instr.sliceBounds;show ay Q (Instr.sliceBound (.int k j) len .sliceAlen>>=λl=>Instr.sliceBound (.int k' j') l .sliceB>>=λm=>pure (m,l,len))=_;rw[aw];congr 1;funext l;rw[aw];rfl
 rw[this,gW Q h0 h1,zaw,gW Q h0' (by rw[<-e2];exact Me),e1,e2];rfl
theorem Cf(l:List UInt8)(a b:Nat):((ByteArray.mk ⟨l⟩).extract a b).data.toList=(l.take b).drop a:=by simp[ByteArray.data_extract,zcP]
theorem sx{Q:Program}{t:TypeId}(hu:Q.underlying t=some .string){l:List UInt8}{lo hi:Option P}{r:Nat×Nat}(h:dm l.length lo hi=some r):
  ∃vl vh,bv lo=some vl/\bv hi=some vh/\dI Q (Instr.sliceAt t (.string ⟨⟨l⟩⟩) vl vh none)=some (.d (.str ((l.take r.2).drop r.1))):=by
 obtain⟨vl,vh,h1,h2,h3⟩:=wh Q h;refine⟨vl,vh,h1,h2,?_⟩;have:ay Q (Instr.sliceAt t (.string ⟨⟨l⟩⟩) vl vh none)=some (.string ((ByteArray.mk ⟨l⟩).extract r.1 r.2)):=by unfold Instr.sliceAt;rw[aw,aH hu,zaw];show ay Q (Instr.slice t (.string ⟨⟨l⟩⟩) vl vh none)=_;unfold Instr.slice;rw[aw,aH hu,zaw];show ay Q (Instr.sliceBounds false l.length l.length vl vh none>>=λx=>_)=_;rw[aw,h3];rfl
 simp only[dI,this,D.tX,D.lT,Cf]
theorem sA{Q:Program}{t:TypeId}(hu:Q.underlying t=some .string){l:List UInt8}{k:IntKind}{j:Int}(h0:0<=j)(h1:j<(l.length:Int)):
  dI Q (Instr.index t (.string ⟨⟨l⟩⟩) (.int k j))=some (.d (.int .u8 ((l.getD j.toNat 0).toNat))):=by
 have bz:j.toNat<l.length:=by omega
 have e:(ByteArray.mk ⟨l⟩)[j.toNat]?=some (l.getD j.toNat 0):=by rw[ByteArray.getElem?_lt' _ _ (show j.toNat<(ByteArray.mk ⟨l⟩).size from bz)];simp[bz];rfl
 have:ay Q (Instr.index t (.string ⟨⟨l⟩⟩) (.int k j))=some (.int .u8 ((l.getD j.toNat 0).toNat)):=by unfold Instr.index;show ay Q (underlying t>>=λd=>_)=_;rw[aw,aH hu,zaw];simp only[zaq h0,e];rfl
 simp only[dI,this,D.tX,D.lT]
theorem Cg{Q:Program}{t:TypeId}{at':Array TypeId}{ty:TypeId}(h0:at'[0]?=some t)(hu:Q.underlying t=some .string)(l:List UInt8):
  dI Q (Builtin.len_ at' ty #[.string ⟨⟨l⟩⟩])=some (.d (.int .i64 l.length)):=by
 have:ay Q (Builtin.len_ at' ty #[.string ⟨⟨l⟩⟩])=some (.int .i64 l.length):=by unfold Builtin.len_;rw[h0];show ay Q (underlying t>>=λd=>_)=_;rw[aw,aH hu,zaw];rfl
 simp only[dI,this,D.tX,D.lT]
section
variable{Q:Program}{s:S}
theorem H6{t:TypeId}{p i:P}{ok:Bool}:KW (B4 Q s t p i ok) (λr=>((jQ Q t).bind λy=>dX Q y.2).bind (λz=>eo Q s t p i ok z)=some r):=by
 unfold B4;split
 next kt e hm=>
  split
  next z k hz=>
   split
   ·rename_i n v;split
    ·rename_i zB get c l ho;split
     next hk=>refine KW.bind (KW.jF (p:=λ_=>fS Q kt k=true) λhb=>hb) λ_ hb=>KW.bind (nz Q e _) λy hy=>KW.ret ?_;have hy:(get k).getD z=y:=hy;simp only[zaw,hz,eo,hm,ho,hk,hb,Bool.and_self,zbg,hy]
     exact KW.fail
    ·rename_i zB get c pE kE ho;split
     next hk=>simp only[zad,zbA] at hk;refine KW.bind (KW.jF (p:=λ_=>fS Q kt k=true) λhb=>hb) λ_ hb=>KW.bind (nz Q e _) λy hy=>KW.ret ?_;have hy:(get k).getD z=y:=hy;simp only[zaw,hz,eo,hm,ho,hk.1,hk.2,hb,Bool.not_false,Bool.and_self,zbg,hy]
     exact KW.fail
    exact KW.fail
   ·refine KW.bind (KW.jF (p:=λ_=>fS Q kt k=true) λhb=>hb) λ_ hb=>KW.ret ?_;simp only[zaw,hz,eo,hm,hb,zbg]
   exact KW.fail
  exact KW.fail
 exact KW.fail
theorem qbN{o:Oper}{g:Option (Nat×Bool)}:KW (pvK Q s o g) (λp=>pv Q s o g=some p):=by
 have Vq:KW (K.dR (pv Q s o g)) (λp=>pv Q s o g=some p):=KW.dR λa h=>h;unfold pvK;split
 next c a b ho=>
  split
  next r hc=>
   have Vr: ∀p,(if r then s.eg g a else s.eg g b)=p->pv Q s o g=some p:=λp hp=>by unfold pv;simp only[ho,hc,hp]
   split
   next p hp=>exact KW.ret (Vr _ (P.xn hp).symm)
   exact KW.bind (KW.dec (p:=λr'=>r=r') rfl) λr' hr=>KW.ret (Vr _ (by rw[hr]))
  exact KW.fail
 next op t x y yt ho=>
  have Vr: ∀p,oG Q s op t x y (s.eg g x) (s.eg g y)=some p->pv Q s o g=some p:=λp hp=>by unfold pv;simp only[ho,hp]
  split
  next p q hp hq=>
   split
   next m hm=>exact KW.bind (V8 (s:=s) (x:=x) (y:=y) hm) λz hz=>KW.ret (Vr _ (by rw[hp,hq];exact hz))
   exact KW.dR λa ha=>Vr _ (by rw[hp,hq];rw[hp,hq] at ha;exact ha)
  exact KW.dR λa ha=>Vr _ ha
 next op t x ho=>
  split
  next b hb=>refine KW.ret ?_;unfold pv;simp only[ho,hb,P.cp,D.cp,D.fE];rfl
  next k n hb=>refine KW.bind (kP _ _) λz hz=>KW.ret ?_;subst hz;unfold pv;simp only[ho,hb,P.cp,D.cp,D.fE];rfl
  exact Vq
 next a b x ho=>
  split
  next y hy=>
   split
   next m hm=>refine KW.bind (ug hm) λz hz=>KW.ret ?_;obtain⟨v,h1,h2⟩:=hz;unfold pv;simp only[ho,hy,P.cp,h1,h2]
   exact Vq
  exact Vq
 next t x ho=>exact Pv.mono λq hq=>by unfold pv;simp only[ho,hq]
 next t x i ho=>exact zJ.mono λq hq=>by unfold pv;simp only[ho,hq]
 next t x i ho=>
  split
  next l k j hu hx hi=>refine KW.jF λhb=> ?_;simp only[zal] at hb;unfold pv;simp only[ho,hu,hx,hi,P.cp,D.cp,D.fE];exact sA hu hb.1 hb.2
  exact Vq
 next t x i ok ho=>
  refine H6.mono λq hq=> ?_;unfold pv;simp only[ho];cases hz:(jQ Q t).bind λy=>dX Q y.2 with
  |none=>rw[hz] at hq;cases hq
  |some z=>rw[hz] at hq;exact hq
 next t x lo hi ho=>
  split
  next l hx=>
   split
   ·rename_i hu;refine KW.bind kQ λr hr=>KW.ret ?_;obtain⟨vl,vh,h1,h2,h3⟩:=sx hu hr;have ex:(s.eg g x).cp=some (.string ⟨⟨l⟩⟩):=by rw[hx];rfl
    unfold pv;simp only[ho,ex];cases lo with
    |none=>
     simp only[bv,zcD,zak] at h1;subst h1;cases hi with
     |none=>simp only[bv,zcD,zak] at h2;subst h2;exact h3
     |some u=>simp only[bv,zaJ] at h2;simp only[h2];exact h3
    |some l'=>
     simp only[bv,zaJ] at h1;cases hi with
     |none=>simp only[bv,zcD,zak] at h2;subst h2;simp only[h1];exact h3
     |some u=>simp only[bv,zaJ] at h2;simp only[h1,h2];exact h3
   exact KW.fail
  ·exact Vq
  rename_i p ED Vs;refine Md.mono λq hq=> ?_;unfold pv;simp only[ho];split
  next b hb=>
   exfalso;cases hp:s.eg g x with
   |d y=>
    rw[hp] at hb;cases y with
    |str l=>exact ED l hp
    |agg cs=>simp only[P.cp,D.cp] at hb;split at hb<;>cases hb
    |_=>cases hb
   |_=>rw[hp] at hb;cases hb
  exact hq
 next c ho=>
  split
  next hc=>
   split
   ·rename_i x cN hu;split
    next l hx=>refine KW.ret ?_;obtain⟨t,ht0,ht⟩:=zbO.1 hu;unfold pv;simp only[ho,hc,cN,hx,P.cp,D.cp,D.fE];exact Cg ht0 ht l
    exact KW.fail
   exact Vq
  next hc=>
   split
   next k a k' b cN=>refine KW.ret ?_;rw[show min a b=if b<a then b else a by omega];unfold pv;simp only[ho,hc,cN,cW,P.cp,D.cp,D.fE];rfl
   exact Vq
  next hc=>
   split
   next k a k' b cN=>refine KW.ret ?_;rw[show max a b=if b>a then b else a by omega];unfold pv;simp only[ho,hc,cN,cW,P.cp,D.cp,D.fE];rfl
   exact Vq
  exact Vq
 exact Vq
end
end Pi
