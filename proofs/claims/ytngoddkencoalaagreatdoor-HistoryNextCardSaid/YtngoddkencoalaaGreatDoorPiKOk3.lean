/- The text PiKOk3. -/
import Derived.Test.YtngoddkencoalaaGreatDoorPiKOk2
namespace Pi
open Go
def bv:Option P->Option (Option Value)
 |none=>some none
 |some p=>p.cy.map some
theorem Ci {len:Nat} {lo hi:Option P} {r:Nat×Nat} (h:dz len lo hi=some r):
  ((hi=none/\r.2=len)\/ ∃k j,hi=some (.d (.int k j))/\0<=j/\j<=(len:Int)/\r.2=j.toNat)/\((lo=none/\r.1=0)\/ ∃k j,lo=some (.d (.int k j))/\0<=j/\j<=(r.2:Int)/\r.1=j.toNat):=by
 unfold dz at h
 split at h
 ·cases h
 ·rename_i h1 hh
  have a1:(hi=none/\h1=len)\/ ∃k j,hi=some (.d (.int k j))/\0<=j/\j<=(len:Int)/\h1=j.toNat:=by
   split at hh
   ·simp at hh;exact .inl ⟨rfl,hh.symm⟩
   ·split at hh
    ·rename_i k j hb;simp at hh;exact .inr ⟨k,j,rfl,hb.1,hb.2,hh.symm⟩
    ·cases hh
   ·cases hh
  split at h
  ·simp at h;subst h;exact⟨a1,.inl ⟨rfl,rfl⟩⟩
  ·split at h
   ·rename_i k j hb;simp at h;subst h;exact⟨a1,.inr ⟨k,j,rfl,hb.1,hb.2,rfl⟩⟩
   ·cases h
  ·cases h
theorem gW (Q:Program) {k:IntKind} {j:Int} {y:Nat} (h0:0<=j) (h1:j<=(y:Int)) (c:BoundsCode):aw Q (Instr.sliceBound (.int k j) y c)=some j.toNat:=by
 have:Instr.sliceBound (.int k j) y c=if 0<=j/\j<=(y:Int) then(pure j.toNat:Sem Nat) else boundsPanic k j y c:=rfl
 rw[this,zao ⟨h0,h1⟩]
 rfl
theorem vz (Q:Program) {len:Nat} {lo hi:Option P} {r:Nat×Nat} (h:dz len lo hi=some r):
  ∃vl vh,bv lo=some vl/\bv hi=some vh/\aw Q (Instr.sliceBounds false len len vl vh none)=some (r.1,r.2,len):=by
 obtain⟨hh,hl⟩:=Ci h
 rcases hh with⟨rfl,e2⟩| ⟨k,j,rfl,h0,h1,e2⟩<;>rcases hl with⟨rfl,e1⟩| ⟨k',j',rfl,h0',N6,e1⟩
 ·exact⟨none,none,rfl,rfl,by rw[e1,e2];rfl⟩
 ·refine⟨some (.int k' j'),none,rfl,rfl,?_⟩
  have:aw Q (Instr.sliceBounds false len len (some (.int k' j')) none none)=(aw Q (Instr.sliceBound (.int k' j') len .sliceB)).bind fun l=>some (l,len,len):=by
   unfold Instr.sliceBounds
   rw[av]
   show aw Q (Instr.sliceBound (.int k' j') len .sliceB>>=fun l=>pure (l,len,len))=_
   rw[av]
   rfl
  rw[this,gW Q h0' (by rw[<-e2];exact N6),e1,e2]
  rfl
 ·refine⟨none,some (.int k j),rfl,rfl,?_⟩
  have:aw Q (Instr.sliceBounds false len len none (some (.int k j)) none)=(aw Q (Instr.sliceBound (.int k j) len .sliceAlen)).bind fun l=>some (0,l,len):=by
   unfold Instr.sliceBounds
   show aw Q (Instr.sliceBound (.int k j) len .sliceAlen>>=fun l=>pure (0,l,len))=_
   rw[av]
   rfl
  rw[this,gW Q h0 h1,e1,e2]
  rfl
 ·refine⟨some (.int k' j'),some (.int k j),rfl,rfl,?_⟩
  have:aw Q (Instr.sliceBounds false len len (some (.int k' j')) (some (.int k j)) none)=(aw Q (Instr.sliceBound (.int k j) len .sliceAlen)).bind fun l=>(aw Q (Instr.sliceBound (.int k' j') l .sliceB)).bind fun m=>some (m,l,len):=by
   unfold Instr.sliceBounds
   show aw Q (Instr.sliceBound (.int k j) len .sliceAlen>>=fun l=>Instr.sliceBound (.int k' j') l .sliceB>>=fun m=>pure (m,l,len))=_
   rw[av]
   congr 1
   funext l
   rw[av]
   rfl
  rw[this,gW Q h0 h1,zau,gW Q h0' (by rw[<-e2];exact N6),e1,e2]
  rfl
theorem Cj (l:List UInt8) (a b:Nat):((ByteArray.mk ⟨l⟩).extract a b).data.toList=(l.take b).drop a:=by
 simp[ByteArray.data_extract,zcH]
theorem su {Q:Program} {t:TypeId} (hu:Q.underlying t=some .string) {l:List UInt8} {lo hi:Option P} {r:Nat×Nat} (h:dz l.length lo hi=some r):
  ∃vl vh,bv lo=some vl/\bv hi=some vh/\dT Q (Instr.sliceAt t (.string ⟨⟨l⟩⟩) vl vh none)=some (.d (.str ((l.take r.2).drop r.1))):=by
 obtain⟨vl,vh,h1,h2,h3⟩:=vz Q h
 refine⟨vl,vh,h1,h2,?_⟩
 have:aw Q (Instr.sliceAt t (.string ⟨⟨l⟩⟩) vl vh none)=some (.string ((ByteArray.mk ⟨l⟩).extract r.1 r.2)):=by
  unfold Instr.sliceAt
  rw[av,aK hu,zau]
  show aw Q (Instr.slice t (.string ⟨⟨l⟩⟩) vl vh none)=_
  unfold Instr.slice
  rw[av,aK hu,zau]
  show aw Q (Instr.sliceBounds false l.length l.length vl vh none>>=fun x=>_)=_
  rw[av,h3]
  rfl
 simp only[dT,this,D.tF,D.l4,Cj]
theorem sv {Q:Program} {t:TypeId} (hu:Q.underlying t=some .string) {l:List UInt8} {k:IntKind} {j:Int} (h0:0<=j) (h1:j<(l.length:Int)):
  dT Q (Instr.index t (.string ⟨⟨l⟩⟩) (.int k j))=some (.d (.int .u8 ((l.getD j.toNat 0).toNat))):=by
 have bG:j.toNat<l.length:=by omega
 have e:(ByteArray.mk ⟨l⟩)[j.toNat]?=some (l.getD j.toNat 0):=by
  rw[ByteArray.getElem?_lt' _ _ (show j.toNat<(ByteArray.mk ⟨l⟩).size from bG)]
  simp[bG]
  rfl
 have:aw Q (Instr.index t (.string ⟨⟨l⟩⟩) (.int k j))=some (.int .u8 ((l.getD j.toNat 0).toNat)):=by
  unfold Instr.index
  show aw Q (underlying t>>=fun d=>_)=_
  rw[av,aK hu,zau]
  simp only[zao h0,e]
  rfl
 simp only[dT,this,D.tF,D.l4]
theorem Ck {Q:Program} {t:TypeId} {at':Array TypeId} {ty:TypeId} (h0:at'[0]?=some t) (hu:Q.underlying t=some .string) (l:List UInt8):
  dT Q (Builtin.len_ at' ty #[.string ⟨⟨l⟩⟩])=some (.d (.int .i64 l.length)):=by
 have:aw Q (Builtin.len_ at' ty #[.string ⟨⟨l⟩⟩])=some (.int .i64 l.length):=by
  unfold Builtin.len_
  rw[h0]
  show aw Q (underlying t>>=fun d=>_)=_
  rw[av,aK hu,zau]
  rfl
 simp only[dT,this,D.tF,D.l4]
section
variable {Q:Program} {s:S}
theorem HO {t:TypeId} {p i:P} {ok:Bool}:KW (B4 Q s t p i ok) (fun r=>((jT Q t).bind fun y=>ey Q y.2).bind (fun z=>eB Q s t p i ok z)=some r):=by
 unfold B4
 split
 ·rename_i kt e hm
  split
  ·rename_i z k hz
   split
   ·rename_i n v
    split
    ·rename_i zA get c l ho
     split
     ·rename_i hk
      refine KW.bind (KW.jF (p:=fun _=>fR Q kt k=true) fun hb=>hb) fun _ hb=>KW.bind (ny Q e _) fun y hy=>KW.ret ?_
      have hy:(get k).getD z=y:=hy
      simp only[zau,hz,eB,hm,ho,hk,hb,Bool.and_self,zba,hy]
     ·exact KW.fail
    ·rename_i zA get c pE kE ho
     split
     ·rename_i hk
      simp only[zab,zbs] at hk
      refine KW.bind (KW.jF (p:=fun _=>fR Q kt k=true) fun hb=>hb) fun _ hb=>KW.bind (ny Q e _) fun y hy=>KW.ret ?_
      have hy:(get k).getD z=y:=hy
      simp only[zau,hz,eB,hm,ho,hk.1,hk.2,hb,Bool.not_false,Bool.and_self,zba,hy]
     ·exact KW.fail
    ·exact KW.fail
   ·refine KW.bind (KW.jF (p:=fun _=>fR Q kt k=true) fun hb=>hb) fun _ hb=>KW.ret ?_
    simp only[zau,hz,eB,hm,hb,zba]
   ·exact KW.fail
  ·exact KW.fail
 ·exact KW.fail
theorem qbw {o:Oper} {g:Option (Nat×Bool)}:KW (pvK Q s o g) (fun p=>pv Q s o g=some p):=by
 have U0:KW (K.dN (pv Q s o g)) (fun p=>pv Q s o g=some p):=KW.dN fun a h=>h
 unfold pvK
 split
 ·rename_i c a b ho
  split
  ·rename_i r hc
   have U1: ∀p,(if r then s.eg g a else s.eg g b)=p->pv Q s o g=some p:=fun p hp=>by
    unfold pv;simp only[ho,hc,hp]
   split
   ·rename_i p hp
    exact KW.ret (U1 _ (P.xc hp).symm)
   ·exact KW.bind (KW.dec (p:=fun r'=>r=r') rfl) fun r' hr=>KW.ret (U1 _ (by rw[hr]))
  ·exact KW.fail
 ·rename_i op t x y yt ho
  have U1: ∀p,oo Q s op t x y (s.eg g x) (s.eg g y)=some p->pv Q s o g=some p:=fun p hp=>by
   unfold pv;simp only[ho,hp]
  split
  ·rename_i p q hp hq
   split
   ·rename_i m hm
    exact KW.bind (VU (s:=s) (x:=x) (y:=y) hm) fun z hz=>KW.ret (U1 _ (by rw[hp,hq];exact hz))
   ·exact KW.dN fun a ha=>U1 _ (by rw[hp,hq];rw[hp,hq] at ha;exact ha)
  ·exact KW.dN fun a ha=>U1 _ ha
 ·rename_i op t x ho
  split
  ·rename_i b hb
   refine KW.ret ?_
   unfold pv
   simp only[ho,hb,P.cy,D.cy,D.gu]
   rfl
  ·rename_i k n hb
   refine KW.bind (kT _ _) fun z hz=>KW.ret ?_
   subst hz
   unfold pv
   simp only[ho,hb,P.cy,D.cy,D.gu]
   rfl
  ·exact U0
 ·rename_i a b x ho
  split
  ·rename_i y hy
   split
   ·rename_i m hm
    refine KW.bind (tK hm) fun z hz=>KW.ret ?_
    obtain⟨v,h1,h2⟩:=hz
    unfold pv
    simp only[ho,hy,P.cy,h1,h2]
   ·exact U0
  ·exact U0
 ·rename_i t x ho
  exact Pe.mono fun q hq=>by unfold pv;simp only[ho,hq]
 ·rename_i t x i ho
  exact zH.mono fun q hq=>by unfold pv;simp only[ho,hq]
 ·rename_i t x i ho
  split
  ·rename_i l k j hu hx hi
   refine KW.jF fun hb=> ?_
   simp only[zah] at hb
   unfold pv
   simp only[ho,hu,hx,hi,P.cy,D.cy,D.gu]
   exact sv hu hb.1 hb.2
  ·exact U0
 ·rename_i t x i ok ho
  refine HO.mono fun q hq=> ?_
  unfold pv
  simp only[ho]
  cases hz:(jT Q t).bind fun y=>ey Q y.2 with
  |none=>rw[hz] at hq;cases hq
  |some z=>rw[hz] at hq;exact hq
 ·rename_i t x lo hi ho
  split
  ·rename_i l hx
   split
   ·rename_i hu
    refine KW.bind kU fun r hr=>KW.ret ?_
    obtain⟨vl,vh,h1,h2,h3⟩:=su hu hr
    have ex:(s.eg g x).cy=some (.string ⟨⟨l⟩⟩):=by rw[hx];rfl
    unfold pv
    simp only[ho,ex]
    cases lo with
    |none=>
     simp only[bv,zcA,zal] at h1
     subst h1
     cases hi with
     |none=>
      simp only[bv,zcA,zal] at h2
      subst h2
      exact h3
     |some u=>
      simp only[bv,zaK] at h2
      simp only[h2]
      exact h3
    |some l'=>
     simp only[bv,zaK] at h1
     cases hi with
     |none=>
      simp only[bv,zcA,zal] at h2
      subst h2
      simp only[h1]
      exact h3
     |some u=>
      simp only[bv,zaK] at h2
      simp only[h1,h2]
      exact h3
   ·exact KW.fail
  ·exact U0
  ·rename_i p EB Pf
   refine L1.mono fun q hq=> ?_
   unfold pv
   simp only[ho]
   split
   ·rename_i b hb
    exfalso
    cases hp:s.eg g x with
    |d y=>
     rw[hp] at hb
     cases y with
     |str l=>exact EB l hp
     |agg cs=>simp only[P.cy,D.cy] at hb;split at hb<;>cases hb
     |_=>cases hb
    |_=>rw[hp] at hb;cases hb
   ·exact hq
 ·rename_i c ho
  split
  ·rename_i hc
   split
   ·rename_i x cN hu
    split
    ·rename_i l hx
     refine KW.ret ?_
     obtain⟨t,ht0,ht⟩:=zbL.1 hu
     unfold pv
     simp only[ho,hc,cN,hx,P.cy,D.cy,D.gu]
     exact Ck ht0 ht l
    ·exact KW.fail
   ·exact U0
  ·rename_i hc
   split
   ·rename_i k a k' b cN
    refine KW.ret ?_
    rw[show min a b=if b<a then b else a by omega]
    unfold pv
    simp only[ho,hc,cN,c7,P.cy,D.cy,D.gu]
    rfl
   ·exact U0
  ·rename_i hc
   split
   ·rename_i k a k' b cN
    refine KW.ret ?_
    rw[show max a b=if b>a then b else a by omega]
    unfold pv
    simp only[ho,hc,cN,c7,P.cy,D.cy,D.gu]
    rfl
   ·exact U0
  ·exact U0
 ·exact U0
end
end Pi
