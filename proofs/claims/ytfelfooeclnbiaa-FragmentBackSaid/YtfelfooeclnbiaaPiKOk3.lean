/- The text PiKOk3. -/
import Derived.Test.YtfelfooeclnbiaaPiKOk2
namespace Pi
open Go
def bv:Option P->Option (Option Value)
 |none=>some none
 |some p=>p.aX.map some
theorem po{len:Nat}{lo hi:Option P}{r:Nat×Nat}(h:bI len lo hi=some r):
  ((hi=none/\r.2=len)\/ ∃k j,hi=some (.d (.int k j))/\0<=j/\j<=(len:Int)/\r.2=j.toNat)/\((lo=none/\r.1=0)\/ ∃k j,lo=some (.d (.int k j))/\0<=j/\j<=(r.2:Int)/\r.1=j.toNat):=by
 unfold bI at h;split at h
 ·cases h
 rename_i h1 hh;have a1:(hi=none/\h1=len)\/ ∃k j,hi=some (.d (.int k j))/\0<=j/\j<=(len:Int)/\h1=j.toNat:=by
  split at hh
  ·simp at hh;exact .inl ⟨rfl,hh.symm⟩
  ·split at hh
   next k j hb=>simp at hh;exact .inr ⟨k,j,rfl,hb.1,hb.2,hh.symm⟩
   cases hh
  cases hh
 split at h
 ·simp at h;subst h;exact⟨a1,.inl ⟨rfl,rfl⟩⟩
 ·split at h
  next k j hb=>simp at h;subst h;exact⟨a1,.inr ⟨k,j,rfl,hb.1,hb.2,rfl⟩⟩
  cases h
 cases h
theorem de(Q:Program){k:IntKind}{j:Int}{y:Nat}(h0:0<=j)(h1:j<=(y:Int))(c:BoundsCode):ai Q (Instr.sliceBound (.int k j) y c)=some j.toNat:=by
 have:Instr.sliceBound (.int k j) y c=if 0<=j/\j<=(y:Int) then(pure j.toNat:Sem Nat) else boundsPanic k j y c:=rfl
 rw[this,zau ⟨h0,h1⟩];rfl
theorem lP(Q:Program){len:Nat}{lo hi:Option P}{r:Nat×Nat}(h:bI len lo hi=some r):
  ∃vl vh,bv lo=some vl/\bv hi=some vh/\ai Q (Instr.sliceBounds false len len vl vh none)=some (r.1,r.2,len):=by
 obtain⟨hh,hl⟩:=po h;rcases hh with⟨rfl,e2⟩| ⟨k,j,rfl,h0,h1,e2⟩<;>rcases hl with⟨rfl,e1⟩| ⟨k',j',rfl,F7,BQ,e1⟩
 ·exact⟨none,none,rfl,rfl,by rw[e1,e2];rfl⟩
 ·refine⟨some (.int k' j'),none,rfl,rfl,?_⟩;have:ai Q (Instr.sliceBounds false len len (some (.int k' j')) none none)=(ai Q (Instr.sliceBound (.int k' j') len .sliceB)).bind λl=>some (l,len,len):=by unfold Instr.sliceBounds;rw[ag];show ai Q (Instr.sliceBound (.int k' j') len .sliceB>>=λl=>pure (l,len,len))=_;rw[ag];rfl
  rw[this,de Q F7 (by rw[<-e2];exact BQ),e1,e2];rfl
 ·refine⟨none,some (.int k j),rfl,rfl,?_⟩;have:ai Q (Instr.sliceBounds false len len none (some (.int k j)) none)=(ai Q (Instr.sliceBound (.int k j) len .sliceAlen)).bind λl=>some (0,l,len):=by unfold Instr.sliceBounds;show ai Q (Instr.sliceBound (.int k j) len .sliceAlen>>=λl=>pure (0,l,len))=_;rw[ag];rfl
  rw[this,de Q h0 h1,e1,e2];rfl
 refine⟨some (.int k' j'),some (.int k j),rfl,rfl,?_⟩;have:ai Q (Instr.sliceBounds false len len (some (.int k' j')) (some (.int k j)) none)=(ai Q (Instr.sliceBound (.int k j) len .sliceAlen)).bind λl=>(ai Q (Instr.sliceBound (.int k' j') l .sliceB)).bind λm=>some (m,l,len):=by unfold Instr.sliceBounds;show ai Q (Instr.sliceBound (.int k j) len .sliceAlen>>=λl=>Instr.sliceBound (.int k' j') l .sliceB>>=λm=>pure (m,l,len))=_;rw[ag];congr 1;funext l;rw[ag];rfl
 rw[this,de Q h0 h1,zai,de Q F7 (by rw[<-e2];exact BQ),e1,e2];rfl
theorem pq(l:List UInt8)(a b:Nat):((ByteArray.mk ⟨l⟩).extract a b).data.toList=(l.take b).drop a:=by simp[ByteArray.data_extract,zbO]
theorem jZ{Q:Program}{t:TypeId}(hu:Q.underlying t=some .string){l:List UInt8}{lo hi:Option P}{r:Nat×Nat}(h:bI l.length lo hi=some r):
  ∃vl vh,bv lo=some vl/\bv hi=some vh/\bO Q (Instr.sliceAt t (.string ⟨⟨l⟩⟩) vl vh none)=some (.d (.str ((l.take r.2).drop r.1))):=by
 obtain⟨vl,vh,h1,h2,h3⟩:=lP Q h;refine⟨vl,vh,h1,h2,?_⟩;have:ai Q (Instr.sliceAt t (.string ⟨⟨l⟩⟩) vl vh none)=some (.string ((ByteArray.mk ⟨l⟩).extract r.1 r.2)):=by unfold Instr.sliceAt;rw[ag,aq hu,zai];show ai Q (Instr.slice t (.string ⟨⟨l⟩⟩) vl vh none)=_;unfold Instr.slice;rw[ag,aq hu,zai];show ai Q (Instr.sliceBounds false l.length l.length vl vh none>>=λx=>_)=_;rw[ag,h3];rfl
 simp only[bO,this,D.kq,D.fg,pq]
theorem j7{Q:Program}{t:TypeId}(hu:Q.underlying t=some .string){l:List UInt8}{k:IntKind}{j:Int}(h0:0<=j)(h1:j<(l.length:Int)):
  bO Q (Instr.index t (.string ⟨⟨l⟩⟩) (.int k j))=some (.d (.int .u8 ((l.getD j.toNat 0).toNat))):=by
 have bA:j.toNat<l.length:=by omega
 have e:(ByteArray.mk ⟨l⟩)[j.toNat]?=some (l.getD j.toNat 0):=by rw[ByteArray.getElem?_lt' _ _ (show j.toNat<(ByteArray.mk ⟨l⟩).size from bA)];simp[bA];rfl
 have:ai Q (Instr.index t (.string ⟨⟨l⟩⟩) (.int k j))=some (.int .u8 ((l.getD j.toNat 0).toNat)):=by unfold Instr.index;show ai Q (underlying t>>=λd=>_)=_;rw[ag,aq hu,zai];simp only[zau h0,e];rfl
 simp only[bO,this,D.kq,D.fg]
theorem pr{Q:Program}{t:TypeId}{vK:Array TypeId}{ty:TypeId}(h0:vK[0]?=some t)(hu:Q.underlying t=some .string)(l:List UInt8):
  bO Q (Builtin.len_ vK ty #[.string ⟨⟨l⟩⟩])=some (.d (.int .i64 l.length)):=by
 have:ai Q (Builtin.len_ vK ty #[.string ⟨⟨l⟩⟩])=some (.int .i64 l.length):=by unfold Builtin.len_;rw[h0];show ai Q (underlying t>>=λd=>_)=_;rw[ag,aq hu,zai];rfl
 simp only[bO,this,D.kq,D.fg]
section
variable{Q:Program}{s:S}
theorem tE(k:D): ∀es:List (D×P),KW (Ax k es) (λr=>jK k es=r)
 | []=>KW.ret rfl
 | (j,p)::r=>KW.bind (KW.dec (p:=λb=>D.fy j k=b) rfl) λb hb=>by
  cases b with
  |true=>exact KW.ret (by simp only[jK,hb,zaM])
  |false=>exact(tE k r).mono λx hx=>by simp only[jK,hb,zaL,hx]
theorem tF(k:D)(p:P): ∀es:List (D×P),KW (yE k p es) (λr=>lM k p es=r)
 | []=>KW.ret rfl
 | (j,q)::r=>KW.bind (KW.dec (p:=λb=>D.fy j k=b) rfl) λb hb=>by
  cases b with
  |true=>exact KW.ret (by simp only[lM,hb,zaM])
  |false=>show KW (K.bind (yE k p r) λr'=>K.ret ((j,q)::r')) _;exact KW.bind (tF k p r) λx hx=>KW.ret (by simp only[lM,hb,zaL,hx])
theorem tG(k:D): ∀es:List (D×P),KW (yF k es) (λr=>lN k es=r)
 | []=>KW.ret rfl
 | (j,q)::r=>KW.bind (KW.dec (p:=λb=>D.fy j k=b) rfl) λb hb=>by
  cases b with
  |true=>exact KW.ret (by simp only[lN,hb,zaM])
  |false=>show KW (K.bind (yF k r) λr'=>K.ret ((j,q)::r')) _;exact KW.bind (tG k r) λx hx=>KW.ret (by simp only[lN,hb,zaL,hx])
theorem se{dst:Option Nat}{t:TypeId}{p k x:P}:KW (o7 Q s dst t p k x) (λs1=>dC Q s dst t p k x=some s1):=by
 unfold o7;split
 next kt e n v kd hm=>
  split
  next gJ es ho=>
   split
   next hk=>simp only[zac] at hk;refine KW.bind (KW.dj (p:=λ_=>bH Q kt kd=true) λhb=>hb) λ_ hb=>KW.bind (tF kd x es) λes' he=>KW.cm λs1 h=> ?_;simp only[dC,hm,ho,hk.1,hk.2,hb,zbD,za2,he];exact h
   exact KW.fail
  exact KW.fail
 exact KW.fail
theorem wL{dst:Option Nat}{t:TypeId}{p k:P}:KW (wk Q s dst t p k) (λs1=>oZ Q s dst t p k=some s1):=by
 unfold wk;split
 next kt e n v kd hm=>
  split
  next gJ es ho=>
   split
   next hk=>refine KW.bind (KW.dj (p:=λ_=>bH Q kt kd=true) λhb=>hb) λ_ hb=>KW.bind (tG kd es) λes' he=>KW.cm λs1 h=> ?_;simp only[oZ,hm,ho,hk,hb,zbD,za2,he];exact h
   exact KW.fail
  exact KW.fail
 exact KW.fail
theorem sf{t:TypeId}{p i:P}{ok:Bool}:KW (o8 Q s t p i ok) (λr=>((cC Q t).bind λy=>bV Q y.2).bind (λz=>bL Q s t p i ok z)=some r):=by
 unfold o8;split
 next kt e hm=>
  split
  next z k hz=>
   split
   ·rename_i n v;split
    ·rename_i gJ get c l ho;split
     next hk=>refine KW.bind (KW.dj (p:=λ_=>bH Q kt k=true) λhb=>hb) λ_ hb=>KW.bind (jY Q e _) λy hy=>KW.ret ?_;have hy:(get k).getD z=y:=hy;simp only[zai,hz,bL,hm,ho,hk,hb,zbD,za2,hy]
     exact KW.fail
    ·rename_i gJ get c pE kE ho;split
     next hk=>simp only[zac,zaV] at hk;refine KW.bind (KW.dj (p:=λ_=>bH Q kt k=true) λhb=>hb) λ_ hb=>KW.bind (jY Q e _) λy hy=>KW.ret ?_;have hy:(get k).getD z=y:=hy;simp only[zai,hz,bL,hm,ho,hk.1,hk.2,hb,Bool.not_false,zbD,za2,hy]
     exact KW.fail
    ·rename_i gJ es ho;split
     next hk=>refine KW.bind (KW.dj (p:=λ_=>bH Q kt k=true) λhb=>hb) λ_ hb=>KW.bind (tE k es) λr hr=>KW.ret ?_;simp only[zai,hz,bL,hm,ho,hk,hb,zbD,za2,hr]
     exact KW.fail
    exact KW.fail
   ·refine KW.bind (KW.dj (p:=λ_=>bH Q kt k=true) λhb=>hb) λ_ hb=>KW.ret ?_;simp only[zai,hz,bL,hm,hb,za2]
   exact KW.fail
  exact KW.fail
 exact KW.fail
theorem AN{o:Oper}{g:Option (Nat×Bool)}:KW (El Q s o g) (λp=>pv Q s o g=some p):=by
 have yl:KW (K.cm (pv Q s o g)) (λp=>pv Q s o g=some p):=KW.cm λa h=>h;unfold El;split
 next c a b ho=>
  split
  next r hc=>
   have yn: ∀p,(if r then s.eg g a else s.eg g b)=p->pv Q s o g=some p:=λp hp=>by unfold pv;simp only[ho,hc,hp]
   split
   next p hp=>exact KW.ret (yn _ (P.mr hp).symm)
   exact KW.bind (KW.dec (p:=λr'=>r=r') rfl) λr' hr=>KW.ret (yn _ (by rw[hr]))
  exact KW.fail
 next op t x y yt ho=>
  have yn: ∀p,gD Q s op t x y (s.eg g x) (s.eg g y)=some p->pv Q s o g=some p:=λp hp=>by unfold pv;simp only[ho,hp]
  split
  next p q hp hq=>
   split
   next m hm=>exact KW.bind (yO (s:=s) (x:=x) (y:=y) hm) λz hz=>KW.ret (yn _ (by rw[hp,hq];exact hz))
   exact KW.cm λa ha=>yn _ (by rw[hp,hq];rw[hp,hq] at ha;exact ha)
  exact KW.cm λa ha=>yn _ ha
 next op t x ho=>
  split
  next b hb=>refine KW.ret ?_;unfold pv;simp only[ho,hb,P.aX,D.aX,D.cp];rfl
  next k n hb=>refine KW.bind (eQ _ _) λz hz=>KW.ret ?_;subst hz;unfold pv;simp only[ho,hb,P.aX,D.aX,D.cp];rfl
  exact yl
 next a b x ho=>
  split
  next y hy=>
   split
   next m hm=>refine KW.bind (kB hm) λz hz=>KW.ret ?_;obtain⟨v,h1,h2⟩:=hz;unfold pv;simp only[ho,hy,P.aX,h1,h2]
   exact yl
  exact yl
 next t x ho=>exact wK.mono λq hq=>by unfold pv;simp only[ho,hq]
 next t x i ho=>exact nL.mono λq hq=>by unfold pv;simp only[ho,hq]
 next t x i ho=>
  split
  next l k j hu hx hi=>refine KW.dj λhb=> ?_;simp only[zaI] at hb;unfold pv;simp only[ho,hu,hx,hi,P.aX,D.aX,D.cp];exact j7 hu hb.1 hb.2
  exact yl
 next t x i ok ho=>
  refine sf.mono λq hq=> ?_;unfold pv;simp only[ho];cases hz:(cC Q t).bind λy=>bV Q y.2 with
  |none=>rw[hz] at hq;cases hq
  |some z=>rw[hz] at hq;exact hq
 next t x lo hi ho=>
  split
  next l hx=>
   split
   ·rename_i hu;refine KW.bind eR λr hr=>KW.ret ?_;obtain⟨vl,vh,h1,h2,h3⟩:=jZ hu hr;have ex:(s.eg g x).aX=some (.string ⟨⟨l⟩⟩):=by rw[hx];rfl
    unfold pv;simp only[ho,ex];cases lo with
    |none=>
     simp only[bv,zbL,zae] at h1;subst h1;cases hi with
     |none=>simp only[bv,zbL,zae] at h2;subst h2;exact h3
     |some u=>simp only[bv,zap] at h2;simp only[h2];exact h3
    |some l'=>
     simp only[bv,zap] at h1;cases hi with
     |none=>simp only[bv,zbL,zae] at h2;subst h2;simp only[h1];exact h3
     |some u=>simp only[bv,zap] at h2;simp only[h1,h2];exact h3
   exact KW.fail
  ·exact yl
  rename_i p rG yo;refine uD.mono λq hq=> ?_;unfold pv;simp only[ho];split
  next b hb=>
   exfalso;cases hp:s.eg g x with
   |d y=>
    rw[hp] at hb;cases y with
    |str l=>exact rG l hp
    |agg cs=>simp only[P.aX,D.aX] at hb;split at hb<;>cases hb
    |_=>cases hb
   |_=>rw[hp] at hb;cases hb
  exact hq
 next c ho=>
  split
  next hc=>
   split
   ·rename_i x bt hu;split
    next l hx=>refine KW.ret ?_;obtain⟨t,AL,ht⟩:=za8.1 hu;unfold pv;simp only[ho,hc,bt,hx,P.aX,D.aX,D.cp];exact pr AL ht l
    exact KW.fail
   exact yl
  next hc=>
   split
   next k a k' b bt=>refine KW.ret ?_;rw[show min a b=if b<a then b else a by omega];unfold pv;simp only[ho,hc,bt,bq,P.aX,D.aX,D.cp];rfl
   exact yl
  next hc=>
   split
   next k a k' b bt=>refine KW.ret ?_;rw[show max a b=if b>a then b else a by omega];unfold pv;simp only[ho,hc,bt,bq,P.aX,D.aX,D.cp];rfl
   exact yl
  exact yl
 exact yl
end
end Pi
