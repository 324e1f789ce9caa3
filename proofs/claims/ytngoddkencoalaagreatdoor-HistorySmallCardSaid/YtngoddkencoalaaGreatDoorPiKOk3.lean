/- The text PiKOk3. -/
import Derived.Test.YtngoddkencoalaaGreatDoorPiKOk2
namespace Pi
open Go
def bv:Option P->Option (Option Value)
 |none=>some none
 |some p=>p.cG.map some
theorem CW{len:Nat}{lo hi:Option P}{r:Nat×Nat}(h:dI len lo hi=some r):
  ((hi=none/\r.2=len)\/ ∃k j,hi=some (.d (.int k j))/\0<=j/\j<=(len:Int)/\r.2=j.toNat)/\((lo=none/\r.1=0)\/ ∃k j,lo=some (.d (.int k j))/\0<=j/\j<=(r.2:Int)/\r.1=j.toNat):=by
 unfold dI at h;split at h
 ·cases h
 rename_i h1 hh;have a1:(hi=none/\h1=len)\/ ∃k j,hi=some (.d (.int k j))/\0<=j/\j<=(len:Int)/\h1=j.toNat:=by
  split at hh
  ·simp at hh;exact .inl ⟨rfl,hh.symm⟩
  ·split at hh
   next k j hb=>simp at hh;exact .inr ⟨k,j,rfl,hb.1,hb.2,hh.symm⟩
   cases hh
  cases hh
 split at h
 ·simp at h;subst h;exact⟨a1,.inl ⟨rfl,rfl⟩⟩
 ·split at h
  next k j hb=>simp at h;subst h;exact⟨a1,.inr ⟨k,j,rfl,hb.1,hb.2,rfl⟩⟩
  cases h
 cases h
theorem hZ(Q:Program){k:IntKind}{j:Int}{y:Nat}(h0:0<=j)(h1:j<=(y:Int))(c:BoundsCode):aA Q (Instr.sliceBound (.int k j) y c)=some j.toNat:=by
 have:Instr.sliceBound (.int k j) y c=if 0<=j/\j<=(y:Int) then(pure j.toNat:Sem Nat) else boundsPanic k j y c:=rfl
 rw[this,zao ⟨h0,h1⟩];rfl
theorem wM(Q:Program){len:Nat}{lo hi:Option P}{r:Nat×Nat}(h:dI len lo hi=some r):
  ∃vl vh,bv lo=some vl/\bv hi=some vh/\aA Q (Instr.sliceBounds false len len vl vh none)=some (r.1,r.2,len):=by
 obtain⟨hh,hl⟩:=CW h;rcases hh with⟨rfl,e2⟩| ⟨k,j,rfl,h0,h1,e2⟩<;>rcases hl with⟨rfl,e1⟩| ⟨k',j',rfl,h0',O1,e1⟩
 ·exact⟨none,none,rfl,rfl,by rw[e1,e2];rfl⟩
 ·refine⟨some (.int k' j'),none,rfl,rfl,?_⟩;have:aA Q (Instr.sliceBounds false len len (some (.int k' j')) none none)=(aA Q (Instr.sliceBound (.int k' j') len .sliceB)).bind λl=>some (l,len,len):=by unfold Instr.sliceBounds;rw[ax];show aA Q (Instr.sliceBound (.int k' j') len .sliceB>>=λl=>pure (l,len,len))=_;rw[ax];rfl
  rw[this,hZ Q h0' (by rw[<-e2];exact O1),e1,e2];rfl
 ·refine⟨none,some (.int k j),rfl,rfl,?_⟩;have:aA Q (Instr.sliceBounds false len len none (some (.int k j)) none)=(aA Q (Instr.sliceBound (.int k j) len .sliceAlen)).bind λl=>some (0,l,len):=by unfold Instr.sliceBounds;show aA Q (Instr.sliceBound (.int k j) len .sliceAlen>>=λl=>pure (0,l,len))=_;rw[ax];rfl
  rw[this,hZ Q h0 h1,e1,e2];rfl
 refine⟨some (.int k' j'),some (.int k j),rfl,rfl,?_⟩;have:aA Q (Instr.sliceBounds false len len (some (.int k' j')) (some (.int k j)) none)=(aA Q (Instr.sliceBound (.int k j) len .sliceAlen)).bind λl=>(aA Q (Instr.sliceBound (.int k' j') l .sliceB)).bind λm=>some (m,l,len):=by unfold Instr.sliceBounds;show aA Q (Instr.sliceBound (.int k j) len .sliceAlen>>=λl=>Instr.sliceBound (.int k' j') l .sliceB>>=λm=>pure (m,l,len))=_;rw[ax];congr 1;funext l;rw[ax];rfl
 rw[this,hZ Q h0 h1,zav,hZ Q h0' (by rw[<-e2];exact O1),e1,e2];rfl
theorem CX(l:List UInt8)(a b:Nat):((ByteArray.mk ⟨l⟩).extract a b).data.toList=(l.take b).drop a:=by simp[ByteArray.data_extract,zcK]
theorem tF{Q:Program}{t:TypeId}(hu:Q.underlying t=some .string){l:List UInt8}{lo hi:Option P}{r:Nat×Nat}(h:dI l.length lo hi=some r):
  ∃vl vh,bv lo=some vl/\bv hi=some vh/\eo Q (Instr.sliceAt t (.string ⟨⟨l⟩⟩) vl vh none)=some (.d (.str ((l.take r.2).drop r.1))):=by
 obtain⟨vl,vh,h1,h2,h3⟩:=wM Q h;refine⟨vl,vh,h1,h2,?_⟩;have:aA Q (Instr.sliceAt t (.string ⟨⟨l⟩⟩) vl vh none)=some (.string ((ByteArray.mk ⟨l⟩).extract r.1 r.2)):=by unfold Instr.sliceAt;rw[ax,aM hu,zav];show aA Q (Instr.slice t (.string ⟨⟨l⟩⟩) vl vh none)=_;unfold Instr.slice;rw[ax,aM hu,zav];show aA Q (Instr.sliceBounds false l.length l.length vl vh none>>=λx=>_)=_;rw[ax,h3];rfl
 simp only[eo,this,D.uK,D.mC,CX]
theorem tG{Q:Program}{t:TypeId}(hu:Q.underlying t=some .string){l:List UInt8}{k:IntKind}{j:Int}(h0:0<=j)(h1:j<(l.length:Int)):
  eo Q (Instr.index t (.string ⟨⟨l⟩⟩) (.int k j))=some (.d (.int .u8 ((l.getD j.toNat 0).toNat))):=by
 have bG:j.toNat<l.length:=by omega
 have e:(ByteArray.mk ⟨l⟩)[j.toNat]?=some (l.getD j.toNat 0):=by rw[ByteArray.getElem?_lt' _ _ (show j.toNat<(ByteArray.mk ⟨l⟩).size from bG)];simp[bG];rfl
 have:aA Q (Instr.index t (.string ⟨⟨l⟩⟩) (.int k j))=some (.int .u8 ((l.getD j.toNat 0).toNat)):=by unfold Instr.index;show aA Q (underlying t>>=λd=>_)=_;rw[ax,aM hu,zav];simp only[zao h0,e];rfl
 simp only[eo,this,D.uK,D.mC]
theorem CY{Q:Program}{t:TypeId}{at':Array TypeId}{ty:TypeId}(h0:at'[0]?=some t)(hu:Q.underlying t=some .string)(l:List UInt8):
  eo Q (Builtin.len_ at' ty #[.string ⟨⟨l⟩⟩])=some (.d (.int .i64 l.length)):=by
 have:aA Q (Builtin.len_ at' ty #[.string ⟨⟨l⟩⟩])=some (.int .i64 l.length):=by unfold Builtin.len_;rw[h0];show aA Q (underlying t>>=λd=>_)=_;rw[ax,aM hu,zav];rfl
 simp only[eo,this,D.uK,D.mC]
section
variable{Q:Program}{s:S}
theorem IB{t:TypeId}{p i:P}{ok:Bool}:KW (CJ Q s t p i ok) (λr=>((kq Q t).bind λy=>eF Q y.2).bind (λz=>eH Q s t p i ok z)=some r):=by
 unfold CJ;split
 next kt e hm=>
  split
  next z k hz=>
   split
   ·rename_i n v;split
    ·rename_i Au get c l ho;split
     next hk=>refine KW.bind (KW.jT (p:=λ_=>fY Q kt k=true) λhb=>hb) λ_ hb=>KW.bind (n0 Q e _) λy hy=>KW.ret ?_;have hy:(get k).getD z=y:=hy;simp only[zav,hz,eH,hm,ho,hk,hb,Bool.and_self,zba,hy]
     exact KW.fail
    ·rename_i Au get c pE kE ho;split
     next hk=>simp only[zab,zbt] at hk;refine KW.bind (KW.jT (p:=λ_=>fY Q kt k=true) λhb=>hb) λ_ hb=>KW.bind (n0 Q e _) λy hy=>KW.ret ?_;have hy:(get k).getD z=y:=hy;simp only[zav,hz,eH,hm,ho,hk.1,hk.2,hb,Bool.not_false,Bool.and_self,zba,hy]
     exact KW.fail
    exact KW.fail
   ·refine KW.bind (KW.jT (p:=λ_=>fY Q kt k=true) λhb=>hb) λ_ hb=>KW.ret ?_;simp only[zav,hz,eH,hm,hb,zba]
   exact KW.fail
  exact KW.fail
 exact KW.fail
theorem qcm{o:Oper}{g:Option (Nat×Bool)}:KW (pvK Q s o g) (λp=>pv Q s o g=some p):=by
 have VR:KW (K.dW (pv Q s o g)) (λp=>pv Q s o g=some p):=KW.dW λa h=>h;unfold pvK;split
 next c a b ho=>
  split
  next r hc=>
   have VS: ∀p,(if r then s.eg g a else s.eg g b)=p->pv Q s o g=some p:=λp hp=>by unfold pv;simp only[ho,hc,hp]
   split
   next p hp=>exact KW.ret (VS _ (P.x7 hp).symm)
   exact KW.bind (KW.dec (p:=λr'=>r=r') rfl) λr' hr=>KW.ret (VS _ (by rw[hr]))
  exact KW.fail
 next op t x y yt ho=>
  have VS: ∀p,o4 Q s op t x y (s.eg g x) (s.eg g y)=some p->pv Q s o g=some p:=λp hp=>by unfold pv;simp only[ho,hp]
  split
  next p q hp hq=>
   split
   next m hm=>exact KW.bind (WS (s:=s) (x:=x) (y:=y) hm) λz hz=>KW.ret (VS _ (by rw[hp,hq];exact hz))
   exact KW.dW λa ha=>VS _ (by rw[hp,hq];rw[hp,hq] at ha;exact ha)
  exact KW.dW λa ha=>VS _ ha
 next op t x ho=>
  split
  next b hb=>refine KW.ret ?_;unfold pv;simp only[ho,hb,P.cG,D.cG,D.gE];rfl
  next k n hb=>refine KW.bind (lx _ _) λz hz=>KW.ret ?_;subst hz;unfold pv;simp only[ho,hb,P.cG,D.cG,D.gE];rfl
  exact VR
 next a b x ho=>
  split
  next y hy=>
   split
   next m hm=>refine KW.bind (uP hm) λz hz=>KW.ret ?_;obtain⟨v,h1,h2⟩:=hz;unfold pv;simp only[ho,hy,P.cG,h1,h2]
   exact VR
  exact VR
 next t x ho=>exact Qk.mono λq hq=>by unfold pv;simp only[ho,hq]
 next t x i ho=>exact AA.mono λq hq=>by unfold pv;simp only[ho,hq]
 next t x i ho=>
  split
  next l k j hu hx hi=>refine KW.jT λhb=> ?_;simp only[zai] at hb;unfold pv;simp only[ho,hu,hx,hi,P.cG,D.cG,D.gE];exact tG hu hb.1 hb.2
  exact VR
 next t x i ok ho=>
  refine IB.mono λq hq=> ?_;unfold pv;simp only[ho];cases hz:(kq Q t).bind λy=>eF Q y.2 with
  |none=>rw[hz] at hq;cases hq
  |some z=>rw[hz] at hq;exact hq
 next t x lo hi ho=>
  split
  next l hx=>
   split
   ·rename_i hu;refine KW.bind ly λr hr=>KW.ret ?_;obtain⟨vl,vh,h1,h2,h3⟩:=tF hu hr;have ex:(s.eg g x).cG=some (.string ⟨⟨l⟩⟩):=by rw[hx];rfl
    unfold pv;simp only[ho,ex];cases lo with
    |none=>
     simp only[bv,zcE,zam] at h1;subst h1;cases hi with
     |none=>simp only[bv,zcE,zam] at h2;subst h2;exact h3
     |some u=>simp only[bv,zaL] at h2;simp only[h2];exact h3
    |some l'=>
     simp only[bv,zaL] at h1;cases hi with
     |none=>simp only[bv,zcE,zam] at h2;subst h2;simp only[h1];exact h3
     |some u=>simp only[bv,zaL] at h2;simp only[h1,h2];exact h3
   exact KW.fail
  ·exact VR
  rename_i p Fk HL;refine MK.mono λq hq=> ?_;unfold pv;simp only[ho];split
  next b hb=>
   exfalso;cases hp:s.eg g x with
   |d y=>
    rw[hp] at hb;cases y with
    |str l=>exact Fk l hp
    |agg cs=>simp only[P.cG,D.cG] at hb;split at hb<;>cases hb
    |_=>cases hb
   |_=>rw[hp] at hb;cases hb
  exact hq
 next c ho=>
  split
  next hc=>
   split
   ·rename_i x cW hu;split
    next l hx=>refine KW.ret ?_;obtain⟨t,ht0,ht⟩:=zbM.1 hu;unfold pv;simp only[ho,hc,cW,hx,P.cG,D.cG,D.gE];exact CY ht0 ht l
    exact KW.fail
   exact VR
  next hc=>
   split
   next k a k' b cW=>refine KW.ret ?_;rw[show min a b=if b<a then b else a by omega];unfold pv;simp only[ho,hc,cW,dj,P.cG,D.cG,D.gE];rfl
   exact VR
  next hc=>
   split
   next k a k' b cW=>refine KW.ret ?_;rw[show max a b=if b>a then b else a by omega];unfold pv;simp only[ho,hc,cW,dj,P.cG,D.cG,D.gE];rfl
   exact VR
  exact VR
 exact VR
end
end Pi
