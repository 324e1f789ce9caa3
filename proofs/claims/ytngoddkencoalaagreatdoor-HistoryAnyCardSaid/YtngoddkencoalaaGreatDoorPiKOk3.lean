/- The text PiKOk3. -/
import Derived.Test.YtngoddkencoalaaGreatDoorPiKOk2
namespace Pi
open Go
def bv:Option P->Option (Option Value)
 |none=>some none
 |some p=>p.cw.map some
theorem Bk {len:Nat} {lo hi:Option P} {r:Nat×Nat} (h:dq len lo hi=some r):
  ((hi=none/\r.2=len)\/ ∃k j,hi=some (.d (.int k j))/\0<=j/\j<=(len:Int)/\r.2=j.toNat)/\((lo=none/\r.1=0)\/ ∃k j,lo=some (.d (.int k j))/\0<=j/\j<=(r.2:Int)/\r.1=j.toNat):=by
 unfold dq at h
 split at h
 ·cases h
 ·rename_i h1 hh
  have a1:(hi=none/\h1=len)\/ ∃k j,hi=some (.d (.int k j))/\0<=j/\j<=(len:Int)/\h1=j.toNat:=by
   split at hh
   ·simp at hh;exact .inl ⟨rfl,hh.symm⟩
   ·split at hh
    ·rename_i k j hb;simp at hh;exact .inr ⟨k,j,rfl,hb.1,hb.2,hh.symm⟩
    ·cases hh
   ·cases hh
  split at h
  ·simp at h;subst h;exact⟨a1,.inl ⟨rfl,rfl⟩⟩
  ·split at h
   ·rename_i k j hb;simp at h;subst h;exact⟨a1,.inr ⟨k,j,rfl,hb.1,hb.2,rfl⟩⟩
   ·cases h
  ·cases h
theorem gE (Q:Program) {k:IntKind} {j:Int} {y:Nat} (h0:0<=j) (h1:j<=(y:Int)) (c:BoundsCode):av Q (Instr.sliceBound (.int k j) y c)=some j.toNat:=by
 have:Instr.sliceBound (.int k j) y c=if 0<=j/\j<=(y:Int) then(pure j.toNat:Sem Nat) else boundsPanic k j y c:=rfl
 rw[this,if_pos ⟨h0,h1⟩]
 rfl
theorem uR (Q:Program) {len:Nat} {lo hi:Option P} {r:Nat×Nat} (h:dq len lo hi=some r):
  ∃vl vh,bv lo=some vl/\bv hi=some vh/\av Q (Instr.sliceBounds false len len vl vh none)=some (r.1,r.2,len):=by
 obtain⟨hh,hl⟩:=Bk h
 rcases hh with⟨rfl,e2⟩| ⟨k,j,rfl,h0,h1,e2⟩<;>rcases hl with⟨rfl,e1⟩| ⟨k',j',rfl,h0',Mp,e1⟩
 ·exact⟨none,none,rfl,rfl,by rw[e1,e2];rfl⟩
 ·refine⟨some (.int k' j'),none,rfl,rfl,?_⟩
  have:av Q (Instr.sliceBounds false len len (some (.int k' j')) none none)=(av Q (Instr.sliceBound (.int k' j') len .sliceB)).bind fun l=>some (l,len,len):=by
   unfold Instr.sliceBounds
   rw[au]
   show av Q (Instr.sliceBound (.int k' j') len .sliceB>>=fun l=>pure (l,len,len))=_
   rw[au]
   rfl
  rw[this,gE Q h0' (by rw[<-e2];exact Mp),e1,e2]
  rfl
 ·refine⟨none,some (.int k j),rfl,rfl,?_⟩
  have:av Q (Instr.sliceBounds false len len none (some (.int k j)) none)=(av Q (Instr.sliceBound (.int k j) len .sliceAlen)).bind fun l=>some (0,l,len):=by
   unfold Instr.sliceBounds
   show av Q (Instr.sliceBound (.int k j) len .sliceAlen>>=fun l=>pure (0,l,len))=_
   rw[au]
   rfl
  rw[this,gE Q h0 h1,e1,e2]
  rfl
 ·refine⟨some (.int k' j'),some (.int k j),rfl,rfl,?_⟩
  have:av Q (Instr.sliceBounds false len len (some (.int k' j')) (some (.int k j)) none)=(av Q (Instr.sliceBound (.int k j) len .sliceAlen)).bind fun l=>(av Q (Instr.sliceBound (.int k' j') l .sliceB)).bind fun m=>some (m,l,len):=by
   unfold Instr.sliceBounds
   show av Q (Instr.sliceBound (.int k j) len .sliceAlen>>=fun l=>Instr.sliceBound (.int k' j') l .sliceB>>=fun m=>pure (m,l,len))=_
   rw[au]
   congr 1
   funext l
   rw[au]
   rfl
  rw[this,gE Q h0 h1,Option.bind_some,gE Q h0' (by rw[<-e2];exact Mp),e1,e2]
  rfl
theorem Bl (l:List UInt8) (a b:Nat):((ByteArray.mk ⟨l⟩).extract a b).data.toList=(l.take b).drop a:=by
 simp[ByteArray.data_extract,List.drop_take]
theorem r5 {Q:Program} {t:TypeId} (hu:Q.underlying t=some .string) {l:List UInt8} {lo hi:Option P} {r:Nat×Nat} (h:dq l.length lo hi=some r):
  ∃vl vh,bv lo=some vl/\bv hi=some vh/\dM Q (Instr.sliceAt t (.string ⟨⟨l⟩⟩) vl vh none)=some (.d (.str ((l.take r.2).drop r.1))):=by
 obtain⟨vl,vh,h1,h2,h3⟩:=uR Q h
 refine⟨vl,vh,h1,h2,?_⟩
 have:av Q (Instr.sliceAt t (.string ⟨⟨l⟩⟩) vl vh none)=some (.string ((ByteArray.mk ⟨l⟩).extract r.1 r.2)):=by
  unfold Instr.sliceAt
  rw[au,aG hu,Option.bind_some]
  show av Q (Instr.slice t (.string ⟨⟨l⟩⟩) vl vh none)=_
  unfold Instr.slice
  rw[au,aG hu,Option.bind_some]
  show av Q (Instr.sliceBounds false l.length l.length vl vh none>>=fun x=>_)=_
  rw[au,h3]
  rfl
 simp only[dM,this,D.sQ,D.lh,Bl]
theorem r6 {Q:Program} {t:TypeId} (hu:Q.underlying t=some .string) {l:List UInt8} {k:IntKind} {j:Int} (h0:0<=j) (h1:j<(l.length:Int)):
  dM Q (Instr.index t (.string ⟨⟨l⟩⟩) (.int k j))=some (.d (.int .u8 ((l.getD j.toNat 0).toNat))):=by
 have bk:j.toNat<l.length:=by omega
 have e:(ByteArray.mk ⟨l⟩)[j.toNat]?=some (l.getD j.toNat 0):=by
  rw[ByteArray.getElem?_lt' _ _ (show j.toNat<(ByteArray.mk ⟨l⟩).size from bk)]
  simp[bk]
  rfl
 have:av Q (Instr.index t (.string ⟨⟨l⟩⟩) (.int k j))=some (.int .u8 ((l.getD j.toNat 0).toNat)):=by
  unfold Instr.index
  show av Q (underlying t>>=fun d=>_)=_
  rw[au,aG hu,Option.bind_some]
  simp only[if_pos h0,e]
  rfl
 simp only[dM,this,D.sQ,D.lh]
theorem Bm {Q:Program} {t:TypeId} {at':Array TypeId} {ty:TypeId} (h0:at'[0]?=some t) (hu:Q.underlying t=some .string) (l:List UInt8):
  dM Q (Builtin.len_ at' ty #[.string ⟨⟨l⟩⟩])=some (.d (.int .i64 l.length)):=by
 have:av Q (Builtin.len_ at' ty #[.string ⟨⟨l⟩⟩])=some (.int .i64 l.length):=by
  unfold Builtin.len_
  rw[h0]
  show av Q (underlying t>>=fun d=>_)=_
  rw[au,aG hu,Option.bind_some]
  rfl
 simp only[dM,this,D.sQ,D.lh]
section
variable {Q:Program} {s:S}
theorem Gg {t:TypeId} {p i:P} {ok:Bool}:KW (A4 Q s t p i ok) (fun r=>((jt Q t).bind fun y=>dY Q y.2).bind (fun z=>ec Q s t p i ok z)=some r):=by
 unfold A4
 split
 ·rename_i kt e hm
  split
  ·rename_i z k hz
   split
   ·rename_i n v
    split
    ·rename_i yE get c l ho
     split
     ·rename_i hk
      refine KW.bind (KW.jg (p:=fun _=>fB Q kt k=true) fun hb=>hb) fun _ hb=>KW.bind (mM Q e _) fun y hy=>KW.ret ?_
      have hy:(get k).getD z=y:=hy
      simp only[Option.bind_some,hz,ec,hm,ho,hk,hb,Bool.and_self,if_true,hy]
     ·exact KW.fail
    ·rename_i yE get c pE kE ho
     split
     ·rename_i hk
      simp only[Bool.and_eq_true,Bool.not_eq_true'] at hk
      refine KW.bind (KW.jg (p:=fun _=>fB Q kt k=true) fun hb=>hb) fun _ hb=>KW.bind (mM Q e _) fun y hy=>KW.ret ?_
      have hy:(get k).getD z=y:=hy
      simp only[Option.bind_some,hz,ec,hm,ho,hk.1,hk.2,hb,Bool.not_false,Bool.and_self,if_true,hy]
     ·exact KW.fail
    ·exact KW.fail
   ·refine KW.bind (KW.jg (p:=fun _=>fB Q kt k=true) fun hb=>hb) fun _ hb=>KW.ret ?_
    simp only[Option.bind_some,hz,ec,hm,hb,if_true]
   ·exact KW.fail
  ·exact KW.fail
 ·exact KW.fail
theorem YS {o:Oper} {g:Option (Nat×Bool)}:KW (pvK Q s o g) (fun p=>pv Q s o g=some p):=by
 have Sh:KW (K.dH (pv Q s o g)) (fun p=>pv Q s o g=some p):=KW.dH fun a h=>h
 unfold pvK
 split
 ·rename_i c a b ho
  split
  ·rename_i r hc
   have Si: ∀p,(if r then s.eg g a else s.eg g b)=p->pv Q s o g=some p:=fun p hp=>by
    unfold pv;simp only[ho,hc,hp]
   split
   ·rename_i p hp
    exact KW.ret (Si _ (P.wm hp).symm)
   ·exact KW.bind (KW.dec (p:=fun r'=>r=r') rfl) fun r' hr=>KW.ret (Si _ (by rw[hr]))
  ·exact KW.fail
 ·rename_i op t x y yt ho
  have Si: ∀p,nP Q s op t x y (s.eg g x) (s.eg g y)=some p->pv Q s o g=some p:=fun p hp=>by
   unfold pv;simp only[ho,hp]
  split
  ·rename_i p q hp hq
   split
   ·rename_i m hm
    exact KW.bind (Tf (s:=s) (x:=x) (y:=y) hm) fun z hz=>KW.ret (Si _ (by rw[hp,hq];exact hz))
   ·exact KW.dH fun a ha=>Si _ (by rw[hp,hq];rw[hp,hq] at ha;exact ha)
  ·exact KW.dH fun a ha=>Si _ ha
 ·rename_i op t x ho
  split
  ·rename_i b hb
   refine KW.ret ?_
   unfold pv
   simp only[ho,hb,P.cw,D.cw,D.fW]
   rfl
  ·rename_i k n hb
   refine KW.bind (kg _ _) fun z hz=>KW.ret ?_
   subst hz
   unfold pv
   simp only[ho,hb,P.cw,D.cw,D.fW]
   rfl
  ·exact Sh
 ·rename_i a b x ho
  split
  ·rename_i y hy
   split
   ·rename_i m hm
    refine KW.bind (sU hm) fun z hz=>KW.ret ?_
    obtain⟨v,h1,h2⟩:=hz
    unfold pv
    simp only[ho,hy,P.cw,h1,h2]
   ·exact Sh
  ·exact Sh
 ·rename_i t x ho
  exact Nt.mono fun q hq=>by unfold pv;simp only[ho,hq]
 ·rename_i t x i ho
  exact yK.mono fun q hq=>by unfold pv;simp only[ho,hq]
 ·rename_i t x i ho
  split
  ·rename_i l k j hu hx hi
   refine KW.jg fun hb=> ?_
   simp only[decide_eq_true_eq] at hb
   unfold pv
   simp only[ho,hu,hx,hi,P.cw,D.cw,D.fW]
   exact r6 hu hb.1 hb.2
  ·exact Sh
 ·rename_i t x i ok ho
  refine Gg.mono fun q hq=> ?_
  unfold pv
  simp only[ho]
  cases hz:(jt Q t).bind fun y=>dY Q y.2 with
  |none=>rw[hz] at hq;cases hq
  |some z=>rw[hz] at hq;exact hq
 ·rename_i t x lo hi ho
  split
  ·rename_i l hx
   split
   ·rename_i hu
    refine KW.bind kh fun r hr=>KW.ret ?_
    obtain⟨vl,vh,h1,h2,h3⟩:=r5 hu hr
    have ex:(s.eg g x).cw=some (.string ⟨⟨l⟩⟩):=by rw[hx];rfl
    unfold pv
    simp only[ho,ex]
    cases lo with
    |none=>
     simp only[bv,Option.map_none,Option.some.injEq] at h1
     subst h1
     cases hi with
     |none=>
      simp only[bv,Option.map_none,Option.some.injEq] at h2
      subst h2
      exact h3
     |some u=>
      simp only[bv,Option.map_some] at h2
      simp only[h2]
      exact h3
    |some l'=>
     simp only[bv,Option.map_some] at h1
     cases hi with
     |none=>
      simp only[bv,Option.map_none,Option.some.injEq] at h2
      subst h2
      simp only[h1]
      exact h3
     |some u=>
      simp only[bv,Option.map_some] at h2
      simp only[h1,h2]
      exact h3
   ·exact KW.fail
  ·exact Sh
  ·rename_i p Bn Fw
   refine Kd.mono fun q hq=> ?_
   unfold pv
   simp only[ho]
   split
   ·rename_i b hb
    exfalso
    cases hp:s.eg g x with
    |d y=>
     rw[hp] at hb
     cases y with
     |str l=>exact Bn l hp
     |agg cs=>simp only[P.cw,D.cw] at hb;split at hb<;>cases hb
     |_=>cases hb
    |_=>rw[hp] at hb;cases hb
   ·exact hq
 ·rename_i c ho
  split
  ·rename_i hc
   split
   ·rename_i x b8 hu
    split
    ·rename_i l hx
     refine KW.ret ?_
     obtain⟨t,ht0,ht⟩:=Option.bind_eq_some_iff.1 hu
     unfold pv
     simp only[ho,hc,b8,hx,P.cw,D.cw,D.fW]
     exact Bm ht0 ht l
    ·exact KW.fail
   ·exact Sh
  ·rename_i hc
   split
   ·rename_i k a k' b b8
    refine KW.ret ?_
    rw[show min a b=if b<a then b else a by omega]
    unfold pv
    simp only[ho,hc,b8,cR,P.cw,D.cw,D.fW]
    rfl
   ·exact Sh
  ·rename_i hc
   split
   ·rename_i k a k' b b8
    refine KW.ret ?_
    rw[show max a b=if b>a then b else a by omega]
    unfold pv
    simp only[ho,hc,b8,cR,P.cw,D.cw,D.fW]
    rfl
   ·exact Sh
  ·exact Sh
 ·exact Sh
end
end Pi
