/- The text PiKOk3. -/
import Derived.Test.YtdgkdigdflkjhaaGreatDoorPiKOk2
namespace Pi
open Go
def bv:Option P->Option (Option Value)
 |none=>some none
 |some p=>p.cD.map some
theorem Fb{len lo hi r}(h:dK len lo hi=some r):
  ((hi=none/\r.2=len)\/ ∃k j,hi=some (.d (.int k j))/\0<=j/\j<=(len:Int)/\r.2=j.toNat)/\((lo=none/\r.1=0)\/ ∃k j,lo=some (.d (.int k j))/\0<=j/\j<=(r.2:Int)/\r.1=j.toNat):=by
 unfold dK at h;split at h
 ·cases h
 rename_i h1 hh;have a1:(hi=none/\h1=len)\/ ∃k j,hi=some (.d (.int k j))/\0<=j/\j<=(len:Int)/\h1=j.toNat:=by
  split at hh
  ·simp at hh;exact .inl ⟨rfl,hh.symm⟩
  ·split at hh
   next k j hb=>simp at hh;exact .inr ⟨k,j,rfl,hb.1,hb.2,hh.symm⟩
   cases hh
  cases hh
 split at h
 ·simp at h;subst h;exact⟨a1,.inl ⟨rfl,rfl⟩⟩
 ·split at h
  next k j hb=>simp at h;subst h;exact⟨a1,.inr ⟨k,j,rfl,hb.1,hb.2,rfl⟩⟩
  cases h
 cases h
theorem iH Q {k j}{y:Nat}(h0:0<=j)(h1:j<=(y:Int)) c:ax Q (Instr.sliceBound (.int k j) y c)=some j.toNat:=by
 have:Instr.sliceBound (.int k j) y c=if 0<=j/\j<=(y:Int) then(pure j.toNat:Sem Nat) else boundsPanic k j y c:=rfl
 rw[this,zap ⟨h0,h1⟩];rfl
theorem x8 Q {len lo hi r}(h:dK len lo hi=some r):
  ∃vl vh,bv lo=some vl/\bv hi=some vh/\ax Q (Instr.sliceBounds false len len vl vh none)=some (r.1,r.2,len):=by
 obtain⟨hh,hl⟩:=Fb h;rcases hh with⟨rfl,e2⟩| ⟨k,j,rfl,h0,h1,e2⟩<;>rcases hl with⟨rfl,e1⟩| ⟨k',j',rfl,h0',LC,e1⟩
 ·exact⟨none,none,rfl,rfl,by rw[e1,e2];rfl⟩
 ·refine⟨some (.int k' j'),none,rfl,rfl,?_⟩;have:ax Q (Instr.sliceBounds false len len (some (.int k' j')) none none)=(ax Q (Instr.sliceBound (.int k' j') len .sliceB)).bind λl=>some (l,len,len):=by unfold Instr.sliceBounds;rw[aw];show ax Q (Instr.sliceBound (.int k' j') len .sliceB>>=λl=>pure (l,len,len))=_;rw[aw];rfl
  rw[this,iH Q h0' (by rw[<-e2];exact LC),e1,e2];rfl
 ·refine⟨none,some (.int k j),rfl,rfl,?_⟩;have:ax Q (Instr.sliceBounds false len len none (some (.int k j)) none)=(ax Q (Instr.sliceBound (.int k j) len .sliceAlen)).bind λl=>some (0,l,len):=by unfold Instr.sliceBounds;show ax Q (Instr.sliceBound (.int k j) len .sliceAlen>>=λl=>pure (0,l,len))=_;rw[aw];rfl
  rw[this,iH Q h0 h1,e1,e2];rfl
 refine⟨some (.int k' j'),some (.int k j),rfl,rfl,?_⟩;have:ax Q (Instr.sliceBounds false len len (some (.int k' j')) (some (.int k j)) none)=(ax Q (Instr.sliceBound (.int k j) len .sliceAlen)).bind λl=>(ax Q (Instr.sliceBound (.int k' j') l .sliceB)).bind λm=>some (m,l,len):=by unfold Instr.sliceBounds;show ax Q (Instr.sliceBound (.int k j) len .sliceAlen>>=λl=>Instr.sliceBound (.int k' j') l .sliceB>>=λm=>pure (m,l,len))=_;rw[aw];congr 1;funext l;rw[aw];rfl
 rw[this,iH Q h0 h1,zaw,iH Q h0' (by rw[<-e2];exact LC),e1,e2];rfl
theorem Fc l a b:((ByteArray.mk ⟨l⟩).extract a b).data.toList=(l.take b).drop a:=by simp[ByteArray.data_extract,zc4]
theorem uy{Q t}(hu:Q.underlying t=some .string){l lo hi r}(h:dK l.length lo hi=some r):
  ∃vl vh,bv lo=some vl/\bv hi=some vh/\ey Q (Instr.sliceAt t (.string ⟨⟨l⟩⟩) vl vh none)=some (.d (.str ((l.take r.2).drop r.1))):=by
 obtain⟨vl,vh,h1,h2,h3⟩:=x8 Q h;refine⟨vl,vh,h1,h2,?_⟩;have:ax Q (Instr.sliceAt t (.string ⟨⟨l⟩⟩) vl vh none)=some (.string ((ByteArray.mk ⟨l⟩).extract r.1 r.2)):=by unfold Instr.sliceAt;rw[aw,aK hu,zaw];show ax Q (Instr.slice t (.string ⟨⟨l⟩⟩) vl vh none)=_;unfold Instr.slice;rw[aw,aK hu,zaw];show ax Q (Instr.sliceBounds false l.length l.length vl vh none>>=λx=>_)=_;rw[aw,h3];rfl
 simp only[ey,this,D.vQ,D.nr,Fc]
theorem uz{Q t}(hu:Q.underlying t=some .string){l k j}(h0:0<=j)(h1:j<(l.length:Int)):
  ey Q (Instr.index t (.string ⟨⟨l⟩⟩) (.int k j))=some (.d (.int .u8 ((l.getD j.toNat 0).toNat))):=by
 have bK:j.toNat<l.length:=by omega
 have e:(ByteArray.mk ⟨l⟩)[j.toNat]?=some (l.getD j.toNat 0):=by rw[ByteArray.getElem?_lt' _ _ (show j.toNat<(ByteArray.mk ⟨l⟩).size from bK)];simp[bK];rfl
 have:ax Q (Instr.index t (.string ⟨⟨l⟩⟩) (.int k j))=some (.int .u8 ((l.getD j.toNat 0).toNat)):=by unfold Instr.index;show ax Q (underlying t>>=λd=>_)=_;rw[aw,aK hu,zaw];simp only[zap h0,e];rfl
 simp only[ey,this,D.vQ,D.nr]
theorem Fe{Q t at' ty}(h0:at'[0]?=some t)(hu:Q.underlying t=some .string) l:
  ey Q (Builtin.len_ at' ty #[.string ⟨⟨l⟩⟩])=some (.d (.int .i64 l.length)):=by
 have:ax Q (Builtin.len_ at' ty #[.string ⟨⟨l⟩⟩])=some (.int .i64 l.length):=by unfold Builtin.len_;rw[h0];show ax Q (underlying t>>=λd=>_)=_;rw[aw,aK hu,zaw];rfl
 simp only[ey,this,D.vQ,D.nr]
section
variable{Q:Program}{s:S}
theorem LF{t p i ok}:KW (E0 Q s t p i ok) (λr=>((jJ Q t).bind λy=>eK Q y.2).bind (λz=>eM Q s t p i ok z)=some r):=by
 unfold E0;split
 next kt e hm=>
  split
  next z k hz=>
   split
   ·rename_i n v;split
    ·rename_i zq get c l ho;split
     next hk=>refine KW.bind (KW.ki (p:=λ_=>fp Q kt k=true) λhb=>hb) λ_ hb=>KW.bind (o7 Q e _) λy hy=>KW.ret ?_;have hy:(get k).getD z=y:=hy;simp only[zaw,hz,eM,hm,ho,hk,hb,Bool.and_self,zbo,hy]
     exact KW.fail
    ·rename_i zq get c pE kE ho;split
     next hk=>simp only[zac,zbv] at hk;refine KW.bind (KW.ki (p:=λ_=>fp Q kt k=true) λhb=>hb) λ_ hb=>KW.bind (o7 Q e _) λy hy=>KW.ret ?_;have hy:(get k).getD z=y:=hy;simp only[zaw,hz,eM,hm,ho,hk.1,hk.2,hb,Bool.not_false,Bool.and_self,zbo,hy]
     exact KW.fail
    exact KW.fail
   ·refine KW.bind (KW.ki (p:=λ_=>fp Q kt k=true) λhb=>hb) λ_ hb=>KW.ret ?_;simp only[zaw,hz,eM,hm,hb,zbo]
   exact KW.fail
  exact KW.fail
 exact KW.fail
theorem qfs{o g}:KW (pvK Q s o g) (λp=>pv Q s o g=some p):=by
 have ofo:KW (K.dU (pv Q s o g)) (λp=>pv Q s o g=some p):=KW.dU λa h=>h;unfold pvK;split
 next c a b ho=>
  split
  next r hc=>
   have hpv: ∀p,(if r then s.eg g a else s.eg g b)=p->pv Q s o g=some p:=λp hp=>by unfold pv;simp only[ho,hc,hp]
   split
   next p hp=>exact KW.ret (hpv _ (P.zL hp).symm)
   exact KW.bind (KW.dec (p:=λr'=>r=r') rfl) λr' hr=>KW.ret (hpv _ (by rw[hr]))
  exact KW.fail
 next op t x y yt ho=>
  have hpv: ∀p,pY Q s op t x y (s.eg g x) (s.eg g y)=some p->pv Q s o g=some p:=λp hp=>by unfold pv;simp only[ho,hp]
  split
  next p q hp hq=>
   split
   next m hm=>exact KW.bind (qal (s:=s) (x:=x) (y:=y) hm) λz hz=>KW.ret (hpv _ (by rw[hp,hq];exact hz))
   exact KW.dU λa ha=>hpv _ (by rw[hp,hq];rw[hp,hq] at ha;exact ha)
  exact KW.dU λa ha=>hpv _ ha
 next op t x ho=>
  split
  next b hb=>refine KW.ret ?_;unfold pv;simp only[ho,hb,P.cD,D.cD,D.gG];rfl
  next k n hb=>refine KW.bind (lN _ _) λz hz=>KW.ret ?_;subst hz;unfold pv;simp only[ho,hb,P.cD,D.cD,D.gG];rfl
  exact ofo
 next a b x ho=>
  split
  next y hy=>
   split
   next m hm=>refine KW.bind (vX hm) λz hz=>KW.ret ?_;obtain⟨v,h1,h2⟩:=hz;unfold pv;simp only[ho,hy,P.cD,h1,h2]
   exact ofo
  exact ofo
 next t x ho=>exact TY.mono λq hq=>by unfold pv;simp only[ho,hq]
 next t x i ho=>exact Cq.mono λq hq=>by unfold pv;simp only[ho,hq]
 next t x i ho=>
  split
  next l k j hu hx hi=>refine KW.ki λhb=> ?_;simp only[zah] at hb;unfold pv;simp only[ho,hu,hx,hi,P.cD,D.cD,D.gG];exact uz hu hb.1 hb.2
  exact ofo
 next t x i ok ho=>
  refine LF.mono λq hq=> ?_;unfold pv;simp only[ho];cases hz:(jJ Q t).bind λy=>eK Q y.2 with
  |none=>rw[hz] at hq;cases hq
  |some z=>rw[hz] at hq;exact hq
 next t x lo hi ho=>
  split
  next l hx=>
   split
   ·rename_i hu;refine KW.bind lO λr hr=>KW.ret ?_;obtain⟨vl,vh,h1,h2,h3⟩:=uy hu hr;have ex:(s.eg g x).cD=some (.string ⟨⟨l⟩⟩):=by rw[hx];rfl
    unfold pv;simp only[ho,ex];cases lo with
    |none=>
     simp only[bv,zb2,zam] at h1;subst h1;cases hi with
     |none=>simp only[bv,zb2,zam] at h2;subst h2;exact h3
     |some u=>simp only[bv,zaH] at h2;simp only[h2];exact h3
    |some l'=>
     simp only[bv,zaH] at h1;cases hi with
     |none=>simp only[bv,zb2,zam] at h2;subst h2;simp only[h1];exact h3
     |some u=>simp only[bv,zaH] at h2;simp only[h1,h2];exact h3
   exact KW.fail
  ·exact ofo
  rename_i p Hh hnn;refine Qr.mono λq hq=> ?_;unfold pv;simp only[ho];split
  next b hb=>
   exfalso;cases hp:s.eg g x with
   |d y=>
    rw[hp] at hb;cases y with
    |str l=>exact Hh l hp
    |agg cs=>simp only[P.cD,D.cD] at hb;split at hb<;>cases hb
    |_=>cases hb
   |_=>rw[hp] at hb;cases hb
  exact hq
 next c ho=>
  split
  next hc=>
   split
   ·rename_i x cx hu;split
    next l hx=>refine KW.ret ?_;obtain⟨t,ht0,ht⟩:=zbU.1 hu;unfold pv;simp only[ho,hc,cx,hx,P.cD,D.cD,D.gG];exact Fe ht0 ht l
    exact KW.fail
   exact ofo
  next hc=>
   split
   next k a k' b cx=>refine KW.ret ?_;rw[show min a b=if b<a then b else a by omega];unfold pv;simp only[ho,hc,cx,dt,P.cD,D.cD,D.gG];rfl
   exact ofo
  next hc=>
   split
   next k a k' b cx=>refine KW.ret ?_;rw[show max a b=if b>a then b else a by omega];unfold pv;simp only[ho,hc,cx,dt,P.cD,D.cD,D.gG];rfl
   exact ofo
  exact ofo
 exact ofo
end
end Pi
