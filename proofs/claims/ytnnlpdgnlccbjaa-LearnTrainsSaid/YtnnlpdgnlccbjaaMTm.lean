/-
  Laws of the executor, and walks of functions (part 13). The conditions stand with each law.
-/
import Derived.Test.YtnnlpdgnlccbjaaMTl
namespace Go.Proofs.Ytnnlpdgnlccbjaa
open Go.Sx
set_option maxRecDepth 100000
def rrZ (S:List Syn)(pl:List Int)(r p lo hi tot:Int)(x:Int×List Mrk)(i0:Nat):Nat→Int×List Mrk
 | 0=>x
 |k+1=>yL S pl r p lo hi tot (rrZ S pl r p lo hi tot x i0 k) ((i0+k) % S.length)
theorem rA (S:List Syn)(pl:List Int)(r p lo hi tot:Int)(x:Int×List Mrk)(i0:Nat) :∀k,rrZ S pl r p lo hi tot x i0 (k+1)=rrZ S pl r p lo hi tot (yL S pl r p lo hi tot x (i0 % S.length)) (i0+1) k
 | 0=>rfl
 |k+1=>by
  have ih:=rA S pl r p lo hi tot x i0 k
  show yL S pl r p lo hi tot (rrZ S pl r p lo hi tot x i0 (k+1)) ((i0+(k+1)) % S.length)=yL S pl r p lo hi tot _ ((i0+1+k) % S.length)
  rw[ih,show i0+(k+1)=i0+1+k by omega]
theorem rrZ_zero (S:List Syn)(pl:List Int)(r p lo hi tot:Int)(x:Int×List Mrk) :∀k,rrZ S pl r p lo hi tot x 0 k=rrY S pl r p lo hi tot x k
 | 0=>rfl
 |k+1=>by
  show yL S pl r p lo hi tot (rrZ S pl r p lo hi tot x 0 k) ((0+k) % S.length)=yL S pl r p lo hi tot _ (k % S.length)
  rw[rrZ_zero S pl r p lo hi tot x k,Nat.zero_add]
theorem rrZ_len (S:List Syn)(pl:List Int)(r p lo hi tot:Int)(x:Int×List Mrk) :∀k,rrZ S pl r p lo hi tot x S.length k=rrZ S pl r p lo hi tot x 0 k
 | 0=>rfl
 |k+1=>by
  show yL S pl r p lo hi tot (rrZ S pl r p lo hi tot x S.length k) ((S.length+k) % S.length)=yL S pl r p lo hi tot (rrZ S pl r p lo hi tot x 0 k) ((0+k) % S.length)
  rw[rrZ_len S pl r p lo hi tot x k,Nat.add_mod_left,Nat.zero_add]
def Hits (S:List Syn)(pl:List Int)(r p lo hi tot:Int)(x:Int×List Mrk)(i0:Nat)(mF:List Mrk):Prop:=
 ∃K,(∀k,k<K→(rrZ S pl r p lo hi tot x i0 k).1≠tot)∧rrZ S pl r p lo hi tot x i0 K=(tot,mF)
theorem Hits.done {S:List Syn}{pl:List Int}{r p lo hi tot:Int}{m:List Mrk}{i0:Nat}:Hits S pl r p lo hi tot (tot,m) i0 m:=⟨0,fun k h=>by omega,rfl⟩
theorem Hits.step {S:List Syn}{pl:List Int}{r p lo hi tot:Int}{x:Int×List Mrk}{i0:Nat}{mF:List Mrk}(hx:x.1≠tot)(h:Hits S pl r p lo hi tot (yL S pl r p lo hi tot x (i0 % S.length)) (i0+1) mF):Hits S pl r p lo hi tot x i0 mF:=by
 obtain⟨K,h1,h2⟩:=h
 refine⟨K+1,fun k hk=> ?_,by rw[rA];exact h2⟩
 cases k with
 |zero=>exact hx
 |succ k=>rw[rA];exact h1 k (by omega)
theorem Hits.wrap {S:List Syn}{pl:List Int}{r p lo hi tot:Int}{x:Int×List Mrk}{mF:List Mrk}(h:Hits S pl r p lo hi tot x 0 mF):Hits S pl r p lo hi tot x S.length mF:=by
 obtain⟨K,h1,h2⟩:=h
 exact⟨K,fun k hk=>by rw[rrZ_len];exact h1 k hk,by rw[rrZ_len];exact h2⟩
theorem uM {α β : Type}(q : α → Bool)(f : β → α → β)(h :∀a,q a=false → ∀x,f x a=x) :∀(l:List α) (x : β),l.foldl f x=(l.filter q).foldl f x
 | [],_=>rfl
 |a::l,x=>by
  rw[List.foldl_cons,List.filter_cons]
  cases hq:q a
  ·rw[h a hq,if_neg (by simp)];exact uM q f h l x
  ·rw[if_pos rfl,List.foldl_cons];exact uM q f h l _
theorem rdL_all (S:List Syn)(pl:List Int){r:Int}(p to s:Int)(hr:0≤r)(hp:pl.length=S.length)(x:Int×List Mrk):rdL S pl r p to s x=(List.range' 0 S.length).foldl (j4 S pl r p to s) x:=by
 unfold rdL zG
 rw[hp,←List.range_eq_range',←uM]
 intro a ha y
 unfold j4
 rw[if_neg]
 rintro⟨_,h,_⟩
 have:=of_decide_eq_false ha
 omega
theorem rd_zero (S:List Syn)(pl:List Int)(r p to s:Int)(m:List Mrk) :∀l:List Nat,l.foldl (j4 S pl r p to s) (0,m)=(0,m)
 | []=>rfl
 |a::l=>by
  rw[List.foldl_cons]
  have:j4 S pl r p to s (0,m) a=(0,m):=by unfold j4;rw[if_neg];rintro⟨h,_⟩;exact h rfl
  rw[this];exact rd_zero S pl r p to s m l
theorem rr_rd {S:List Syn}{pl:List Int}{r p lo hi tot to s left:Int}{m:List Mrk}{i:Nat}(hlo : -255≤lo)(hhi:hi≤255)(hs:(s=1∧to=hi)∨(s = -1∧to=lo))(hT : -3000000≤tot∧tot≤3000000)(h0:0<s*left)(h1:s*left≤1000000000)(hb:pl.getD i (-1)=r∧(S.getD i qY).to=p→lo≤wAt m i∧wAt m i≤hi) :
  ∃left' m',j4 S pl r p to s (left,m) i=(left',m')∧yL S pl r p lo hi tot (tot-left,m) i=(tot-left',m')∧0≤s*left'∧s*left'≤s*left∧m'.length=m.length∧(∀j,j≠i→m'.getD j qM=m.getD j qM)∧(i<m.length→pl.getD i (-1)=r∧(S.getD i qY).to=p→lo≤wAt m' i∧wAt m' i≤hi):=by
 by_cases hg:pl.getD i (-1)=r∧(S.getD i qY).to=p
 ·have hw:=hb hg
  have hne:left≠0:=by rintro rfl;omega
  by_cases hto:wAt m i=to
  ·refine⟨left,m,?_,?_,by omega,by omega,rfl,fun _ _=>rfl,fun _ _=>hw⟩
   ·unfold j4
    rw[if_neg]
    rintro⟨_,_,_,h⟩
    exact h hto
   ·unfold yL
    rw[if_pos hg]
    rcases hs with⟨rfl,rfl⟩|⟨rfl,rfl⟩
    ·rw[if_pos (show tot-left<tot by omega),if_neg (show ¬(m.getD i qM).w<to by have:(m.getD i qM).w=to:=hto;omega)]
    ·rw[if_neg (show ¬tot-left<tot by omega),if_neg (show ¬to<(m.getD i qM).w by have:(m.getD i qM).w=to:=hto;omega)]
  ·refine⟨left-s,m.set i { m.getD i qM with w:=wAt m i+s },?_,?_,?_,?_,by simp,fun j hj=> ?_,fun hi' _=> ?_⟩
   ·unfold j4
    rw[if_pos ⟨hne,hg.1,hg.2,hto⟩]
    show(W (left-s),m.set i { m.getD i qM with w:=W (wAt m i+s) })=_
    rcases hs with⟨rfl,rfl⟩|⟨rfl,rfl⟩<;>rw[zM (by omega) (by omega),zM (by omega) (by omega)]
   ·unfold yL
    rw[if_pos hg]
    rcases hs with⟨rfl,rfl⟩|⟨rfl,rfl⟩
    ·rw[if_pos (show tot-left<tot by omega),if_pos (show(m.getD i qM).w<to by have:(m.getD i qM).w≠to:=hto;have:(m.getD i qM).w≤to:=hw.2;omega)]
     show(W (tot-left+1),m.set i { m.getD i qM with w:=W (wAt m i+1) })=_
     rw[zM (by omega) (by omega),zM (by omega) (by omega),show tot-left+1=tot-(left-1)by omega]
    ·rw[if_neg (show ¬tot-left<tot by omega),if_pos (show to<(m.getD i qM).w by have:(m.getD i qM).w≠to:=hto;have:to≤(m.getD i qM).w:=hw.1;omega)]
     show(W (tot-left-1),m.set i { m.getD i qM with w:=W (wAt m i-1) })=_
     rw[zM (by omega) (by omega),zM (by omega) (by omega),show tot-left-1=tot-(left - -1)by omega];rfl
   ·rcases hs with⟨rfl,rfl⟩|⟨rfl,rfl⟩<;>omega
   ·rcases hs with⟨rfl,rfl⟩|⟨rfl,rfl⟩<;>omega
   ·rw[List.getD_eq_getElem?_getD,List.getElem?_set_ne (fun h=>hj h.symm),←List.getD_eq_getElem?_getD]
   ·have:wAt (m.set i { m.getD i qM with w:=wAt m i+s }) i=wAt m i+s:=by
     unfold wAt
     rw[kQ hi',if_pos rfl]
    rw[this]
    rcases hs with⟨rfl,rfl⟩|⟨rfl,rfl⟩<;>omega
 ·refine⟨left,m,?_,?_,by omega,by omega,rfl,fun _ _=>rfl,fun _ h=>absurd h hg⟩
  ·unfold j4
   rw[if_neg]
   rintro⟨_,h1,h2,_⟩
   exact hg ⟨h1,h2⟩
  ·unfold yL
   rw[if_neg hg]
theorem cyc {S:List Syn}{pl:List Int}{r p lo hi tot to s:Int}(hlo : -255≤lo)(hhi:hi≤255)(hs:(s=1∧to=hi)∨(s = -1∧to=lo))(hT : -3000000≤tot∧tot≤3000000) :∀(n j:Nat) (left:Int) (m:List Mrk),j+n=S.length→m.length=S.length→0<s*left→s*left≤1000000000 →
  (∀i,pl.getD i (-1)=r∧(S.getD i qY).to=p→lo≤wAt m i∧wAt m i≤hi) →
  (((List.range' j n).foldl (j4 S pl r p to s) (left,m)).1=0→Hits S pl r p lo hi tot (tot-left,m) j ((List.range' j n).foldl (j4 S pl r p to s) (left,m)).2) ∧
  (∀mF,Hits S pl r p lo hi tot (tot-((List.range' j n).foldl (j4 S pl r p to s) (left,m)).1,((List.range' j n).foldl (j4 S pl r p to s) (left,m)).2) S.length mF→((List.range' j n).foldl (j4 S pl r p to s) (left,m)).1≠0→Hits S pl r p lo hi tot (tot-left,m) j mF)
 | 0,j,left,m,hj,_,h0,_,_=>by
  have hj':j=S.length:=by omega
  subst hj'
  refine⟨fun h=> ?_,fun mF h _=>h⟩
  have:left=0:=h
  subst this;omega
 |n+1,j,left,m,hj,hm,h0,h1,hb=>by
  rw[List.range'_succ,List.foldl_cons]
  obtain⟨left',m',e1,e2,a0,a1,a2,a3,a4⟩:=rr_rd (i:=j) (m:=m) hlo hhi hs hT h0 h1 (hb j)
  rw[e1]
  have hne:tot-left≠tot:=fun h=>by
   have:left=0:=by omega
   subst this;omega
  have hjm:j % S.length=j:=Nat.mod_eq_of_lt (by omega)
  have hst :∀mF,Hits S pl r p lo hi tot (tot-left',m') (j+1) mF→Hits S pl r p lo hi tot (tot-left,m) j mF:=fun mF h=>Hits.step hne (by rw[hjm,e2];exact h)
  have hb' :∀i,pl.getD i (-1)=r∧(S.getD i qY).to=p→lo≤wAt m' i∧wAt m' i≤hi:=fun i hi=>by
   by_cases hij:i=j
   ·subst hij;exact a4 (by omega) hi
   ·have:=hb i hi
    unfold wAt at this ⊢
    rw[a3 i hij];exact this
  by_cases hz:left'=0
  ·subst hz
   rw[rd_zero]
   refine⟨fun _=>hst _ ?_,fun mF _ h=>absurd rfl h⟩
   rw[Int.sub_zero];exact Hits.done
  ·obtain⟨c1,c2⟩:=cyc hlo hhi hs hT n (j+1) left' m' (by omega) (by omega) (by rcases hs with⟨rfl,rfl⟩|⟨rfl,rfl⟩<;>omega) (by omega) hb'
   exact⟨fun h=>hst _ (c1 h),fun mF h h'=>hst _ (c2 mF h h')⟩
theorem rounds {S:List Syn}{pl:List Int}{r p lo hi tot to s:Int}(hr:0≤r)(hp:pl.length=S.length)(hlo : -255≤lo)(hhi:hi≤255)(hs:(s=1∧to=hi)∨(s = -1∧to=lo))(hT : -3000000≤tot∧tot≤3000000)(q:Int×List Mrk→Bool)(hq :∀x,q x=decide (0<s*x.1)) :
  ∀(k:Nat) (left:Int) (m:List Mrk),m.length=S.length→0≤s*left→s*left≤1000000000→(∀i,pl.getD i (-1)=r∧(S.getD i qY).to=p→lo≤wAt m i∧wAt m i≤hi) →
  (jH q (rdL S pl r p to s) k (left,m)).1=0→Hits S pl r p lo hi tot (tot-left,m) 0 (jH q (rdL S pl r p to s) k (left,m)).2
 | 0,left,m,_,_,_,_,hz=>by
  have:left=0:=hz
  subst this
  rw[Int.sub_zero];exact Hits.done
 |k+1,left,m,hm,h0,h1,hb,hz=>by
  unfold jH at hz ⊢
  rw[hq]at hz ⊢
  by_cases h:0<s*left
  ·rw[decide_eq_true h]at hz ⊢
   simp only at hz ⊢
   have hbg :∀i∈grp S pl r p,lo≤wAt (left,m).2 i∧wAt (left,m).2 i≤hi:=fun i hi=>hb i (grp_mem.1 hi).2
   obtain⟨rp,_⟩:=round_p (to:=to) hlo hhi hs (grp S pl r p) (left,m) (gJ ..) (fun i hi=>by have:=t6 (grp_mem.1 hi).1;show i<m.length;omega) hbg h0 h1
   rw[←u0]at rp
   obtain⟨c1,c2⟩:=cyc hlo hhi hs hT S.length 0 left m (by omega) hm h h1 hb
   rw[←rdL_all S pl p to s hr hp]at c1 c2
   have p1:=rp.pos
   have p2:=rp.le
   have p3:=rp.inb
   have p4:=rp.len
   have p5:=rp.out
   generalize rdL S pl r p to s (left,m)=y at hz c1 c2 p1 p2 p3 p4 p5 ⊢
   obtain⟨yl,ym⟩:=y
   have p2':s*yl≤s*left:=p2
   have hb' :∀i,pl.getD i (-1)=r∧(S.getD i qY).to=p→lo≤wAt ym i∧wAt ym i≤hi:=fun i hi=>by
    by_cases hi':i∈grp S pl r p
    ·exact p3 i hi'
    ·have:=hb i hi
     have e:ym.getD i qM=m.getD i qM:=p5 i hi'
     unfold wAt at this ⊢
     rw[e];exact this
   by_cases hy:yl=0
   ·subst hy
    have e:jH q (rdL S pl r p to s) k (0,ym)=(0,ym):=by
     cases k with
     |zero=>rfl
     |succ k=>unfold jH;rw[hq,decide_eq_false (by show ¬ 0<s*0;omega)]
    rw[e]
    exact c1 rfl
   ·exact c2 _ (rounds hr hp hlo hhi hs hT q hq k yl ym (by rw[←hm];exact p4) p1 (by omega) hb' hz).wrap hy
  ·rw[decide_eq_false h]
   have:left=0:=by rcases hs with⟨rfl,rfl⟩|⟨rfl,rfl⟩<;>omega
   subst this
   rw[Int.sub_zero];exact Hits.done
theorem rest_hits {S:List Syn}{rs:List Rul}{pl:List Int}{tot:List (Key×Value)}{m m2:List Mrk}{e:Key×Value}{r p:Int}{ru:Rul}(hr:0≤r)(hp:pl.length=S.length)(h:RestHyp S rs pl tot m)(he:EntP S rs pl m e r p ru)(hl:m2.length=m.length)(hag :∀i∈grp S pl r p,m2.getD i qM=m.getD i qM) :
  Hits S pl r p ru.lo ru.hi (kiv tot e.1) (qX (grp S pl r p) m,m2) 0 (yK S rs pl tot m2 e):=by
 obtain⟨o1,o2,o3⟩:=h.one he hl hag
 have hk:=he.key
 have hru:rs.getD (Key.fst e.1).toNat q8=ru:=by rw[hk];exact he.rul
 have hv:ival e.2=qX (grp S pl r p) m:=by rw[he.val];rfl
 have h8:=h.hpl
 have hml:=h.hm
 have hm2:m2.length=S.length:=by omega
 have hgl:=grp_len S pl r p
 have hbm :∀i,pl.getD i (-1)=r∧(S.getD i qY).to=p→ru.lo≤wAt m2 i∧wAt m2 i≤ru.hi:=fun i hi=>by
  have hi2:i∈zG pl:=by
   refine plIdx_iff.2 ⟨?_,by omega⟩
   apply Classical.byContradiction
   intro hn
   have:pl.getD i (-1) = -1:=by rw[List.getD_eq_getElem?_getD,List.getElem?_eq_none (by omega)];rfl
   omega
  have hb:=h.inb i hi2
  have e1:=hag i (grp_mem.2 ⟨hi2,hi⟩)
  rw[hi.1,he.rul]at hb
  unfold wAt at hb ⊢
  rw[e1];exact hb
 have hT:=h.tot r p (by rw[he.rul];exact he.sum)
 rw[he.rul,←hk]at hT
 have b1:=wY (g:=grp S pl r p) he.lo (by have:=he.lh;have:=he.hi;omega)
 have b2:=wY (g:=grp S pl r p) (show -255≤ru.hi by have:=he.lh;have:=he.lo;omega) he.hi
 have b3:gcon (grp S pl r p) ru.lo≤qX (grp S pl r p) m∧qX (grp S pl r p) m≤gcon (grp S pl r p) ru.hi:=u4 fun i hi=>by
  have:=h.inb i (grp_mem.1 hi).1
  rw[(grp_mem.1 hi).2.1,he.rul]at this
  exact this
 have hW:W (kiv tot e.1-ival e.2)=kiv tot e.1-qX (grp S pl r p) m:=by rw[hv];exact zM (by omega) (by omega)
 have hgs:qX (grp S pl r p) m2=qX (grp S pl r p) m:=uN fun i hi=>by unfold wAt;rw[hag i hi]
 unfold yK
 rw[hW]
 rw[←hgs]at b3 ⊢
 generalize kiv tot e.1=T at hT ⊢
 have hup :∀x,yS S rs pl e.1 x=jH qUp (rdL S pl r p ru.hi 1) x.1.toNat x:=fun x=>by unfold yS;rw[hru,hk];rfl
 have hdn :∀x,xK S rs pl e.1 x=jH qDn (rdL S pl r p ru.lo (-1)) (-x.1).toNat x:=fun x=>by unfold xK;rw[hru,hk];rfl
 have hqu :∀x,qUp x=decide (0<1*x.1):=fun x=>by unfold qUp;rw[Int.one_mul]
 have hqd :∀x,qDn x=decide (0 < -1*x.1):=fun x=>by
  unfold qDn
  congr 1
  apply propext
  omega
 have hbg :∀i∈grp S pl r p,ru.lo≤wAt m2 i∧wAt m2 i≤ru.hi:=fun i hi=>hbm i (grp_mem.1 hi).2
 have hlg :∀i∈grp S pl r p,i<m2.length:=fun i hi=>by have:=t6 (grp_mem.1 hi).1;omega
 rw[hup]
 by_cases hc:0≤T-qX (grp S pl r p) m2
 ·obtain⟨_,hz⟩:=loop_p (T:=T) (g:=grp S pl r p) he.lo he.hi (.inl ⟨rfl,rfl⟩) (gJ ..) hT qUp hqu (T-qX (grp S pl r p) m2).toNat (T-qX (grp S pl r p) m2,m2) (by show(1*(T-qX (grp S pl r p) m2)).toNat≤_;omega) hlg hbg (by show 0≤1*(T-qX (grp S pl r p) m2);omega) (by show 1*(T-qX (grp S pl r p) m2)≤_;omega) (by show T-qX (grp S pl r p) m2+qX (grp S pl r p) m2=T;omega)
  have hfe:(fun x=>(grp S pl r p).foldl (yB ru.hi 1) x)=rdL S pl r p ru.hi 1:=by funext x;rw[u0]
  rw[hfe]at hz
  have hd:xK S rs pl e.1 (jH qUp (rdL S pl r p ru.hi 1) (T-qX (grp S pl r p) m2).toNat (T-qX (grp S pl r p) m2,m2))=jH qUp (rdL S pl r p ru.hi 1) (T-qX (grp S pl r p) m2).toNat (T-qX (grp S pl r p) m2,m2):=by
   rw[hdn,hz]
   rfl
  rw[hd]
  have:=rounds hr hp he.lo he.hi (.inl ⟨rfl,rfl⟩) (by omega) qUp hqu (tot:=T) (T-qX (grp S pl r p) m2).toNat (T-qX (grp S pl r p) m2) m2 hm2 (by omega) (by omega) hbm hz
  rw[show T-(T-qX (grp S pl r p) m2)=qX (grp S pl r p) m2 by omega]at this
  exact this
 ·have e0:jH qUp (rdL S pl r p ru.hi 1) (T-qX (grp S pl r p) m2).toNat (T-qX (grp S pl r p) m2,m2)=(T-qX (grp S pl r p) m2,m2):=by
   rw[show(T-qX (grp S pl r p) m2).toNat=0 by omega]
   rfl
  rw[e0,hdn]
  obtain⟨_,hz⟩:=loop_p (T:=T) (g:=grp S pl r p) he.lo he.hi (.inr ⟨rfl,rfl⟩) (gJ ..) hT qDn hqd (-(T-qX (grp S pl r p) m2)).toNat (T-qX (grp S pl r p) m2,m2) (by show(-1*(T-qX (grp S pl r p) m2)).toNat≤_;omega) hlg hbg (by show 0 ≤ -1*(T-qX (grp S pl r p) m2);omega) (by show -1*(T-qX (grp S pl r p) m2)≤_;omega) (by show T-qX (grp S pl r p) m2+qX (grp S pl r p) m2=T;omega)
  have hfe:(fun x=>(grp S pl r p).foldl (yB ru.lo (-1)) x)=rdL S pl r p ru.lo (-1):=by funext x;rw[u0]
  rw[hfe]at hz
  have:=rounds hr hp he.lo he.hi (.inr ⟨rfl,rfl⟩) (by omega) qDn hqd (tot:=T) (-(T-qX (grp S pl r p) m2)).toNat (T-qX (grp S pl r p) m2) m2 hm2 (by omega) (by omega) hbm hz
  rw[show T-(T-qX (grp S pl r p) m2)=qX (grp S pl r p) m2 by omega]at this
  exact this
def zE (S:List Syn)(pl:List Int)(mP:List Mrk)(r p:Nat):Key×Value:=(.p r p,.int .i64 (qX (grp S pl r p) mP))
def zP (S:List Syn)(rs:List Rul)(pl:List Int)(tot:List (Key×Value))(mP:List Mrk)(r:Nat)(m:List Mrk):Nat→List Mrk
 | 0=>m
 |p+1=>yK S rs pl tot (zP S rs pl tot mP r m p) (zE S pl mP r p)
def zY (S:List Syn)(rs:List Rul)(pl:List Int)(tot:List (Key×Value))(mP:List Mrk)(N:Nat):Nat→List Mrk
 | 0=>mP
 |r+1=>if (rs.getD r q8).sum=true then zP S rs pl tot mP r (zY S rs pl tot mP N r) N else zY S rs pl tot mP N r
section
variable {S:List Syn} {rs:List Rul} {pl:List Int} {tot:List (Key×Value)} {mP:List Mrk}
theorem zP_get (h:RestHyp S rs pl tot mP){r:Nat}{m:List Mrk}(he :∀p:Nat,EntP S rs pl mP (zE S pl mP r p) r p (rs.getD r q8))(hl:m.length=mP.length)(hm :∀p:Nat,∀i∈grp S pl r p,m.getD i qM=mP.getD i qM) :∀p:Nat,
  (zP S rs pl tot mP r m p).length=mP.length∧(∀p',p'<p → ∀i∈grp S pl r (p':Nat),(zP S rs pl tot mP r m p).getD i qM=(yK S rs pl tot mP (zE S pl mP r p')).getD i qM)∧(∀i,(∀p',p'<p→i∉grp S pl r (p':Nat))→(zP S rs pl tot mP r m p).getD i qM=m.getD i qM)
 | 0=>⟨hl,fun p' h=>by omega,fun _ _=>rfl⟩
 |p+1=>by
  obtain⟨i1,i2,i3⟩:=zP_get h he hl hm p
  have hag :∀i∈grp S pl r p,(zP S rs pl tot mP r m p).getD i qM=mP.getD i qM:=fun i hi=>by
   rw[i3 i fun p' hp' hi'=>by have:=(kR hi hi').2;omega]
   exact hm p i hi
  obtain⟨_,_,o3⟩:=h.one (he p) i1 hag
  refine⟨o3.len.trans i1,fun p' hp' i hi=> ?_,fun i hi=> ?_⟩
  ·by_cases hpp:p'=p
   ·subst hpp
    exact rU S rs pl tot (zE S pl mP r p') (g:=grp S pl r p') rfl i1 hag i hi
   ·have hn:i∉grp S pl r p:=fun hi'=>by have:=(kR hi hi').2;omega
    exact(o3.out i hn).trans (i2 p' (by omega) i hi)
  ·exact(o3.out i (hi p (by omega))).trans (i3 i fun p' hp'=>hi p' (by omega))
theorem zY_get (h:RestHyp S rs pl tot mP)(N R:Nat)(he :∀r:Nat,r<R→(rs.getD r q8).sum=true → ∀p:Nat,EntP S rs pl mP (zE S pl mP r p) r p (rs.getD r q8)) :∀r:Nat,r≤R →
  (zY S rs pl tot mP N r).length=mP.length∧(∀r',r'<r→(rs.getD r' q8).sum=true → ∀p',p'<N → ∀i∈grp S pl (r':Nat) (p':Nat),(zY S rs pl tot mP N r).getD i qM=(yK S rs pl tot mP (zE S pl mP r' p')).getD i qM)∧(∀i,(∀r',r'<r→(rs.getD r' q8).sum=true → ∀p',p'<N→i∉grp S pl (r':Nat) (p':Nat))→(zY S rs pl tot mP N r).getD i qM=mP.getD i qM)
 | 0,_=>⟨rfl,fun r' h=>by omega,fun _ _=>rfl⟩
 |r+1,hr=>by
  obtain⟨i1,i2,i3⟩:=zY_get h N R he r (by omega)
  unfold zY
  by_cases hs:(rs.getD r q8).sum=true
  ·rw[if_pos hs]
   have hm :∀p:Nat,∀i∈grp S pl r p,(zY S rs pl tot mP N r).getD i qM=mP.getD i qM:=fun p i hi=>i3 i fun r' hr' _ p' _ hi'=>by have:=(kR hi hi').1;omega
   obtain⟨j1,j2,j3⟩:=zP_get h (he r (by omega) hs) i1 hm N
   refine⟨j1,fun r' hr' hs' p' hp' i hi=> ?_,fun i hi=> ?_⟩
   ·by_cases hrr:r'=r
    ·subst hrr;exact j2 p' hp' i hi
    ·rw[j3 i fun p2 _ hi'=>by have:=(kR hi hi').1;omega]
     exact i2 r' (by omega) hs' p' hp' i hi
   ·rw[j3 i fun p' hp'=>hi r (by omega) hs p' hp']
    exact i3 i fun r' hr'=>hi r' (by omega)
  ·rw[if_neg hs]
   refine⟨i1,fun r' hr' hs' p' hp' i hi=> ?_,fun i hi=>i3 i fun r' hr'=>hi r' (by omega)⟩
   by_cases hrr:r'=r
   ·subst hrr;exact absurd hs' hs
   ·exact i2 r' (by omega) hs' p' hp' i hi
theorem looks (h:RestHyp S rs pl tot mP)(N R:Nat)(hp:pl.length=S.length)(he :∀r:Nat,r<R→(rs.getD r q8).sum=true → ∀p:Nat,EntP S rs pl mP (zE S pl mP r p) r p (rs.getD r q8)) :
  ∃Kf:Nat→Nat→Nat,∀r p:Nat,r<R→(rs.getD r q8).sum=true→p<N →
   (∀k,k<Kf r p→(rrY S pl r p (rs.getD r q8).lo (rs.getD r q8).hi (kiv tot (.p r p)) (qX (grp S pl r p) mP,zP S rs pl tot mP r (zY S rs pl tot mP N r) p) k).1≠kiv tot (.p r p)) ∧
   rrY S pl r p (rs.getD r q8).lo (rs.getD r q8).hi (kiv tot (.p r p)) (qX (grp S pl r p) mP,zP S rs pl tot mP r (zY S rs pl tot mP N r) p) (Kf r p)=(kiv tot (.p r p),zP S rs pl tot mP r (zY S rs pl tot mP N r) (p+1)):=by
 have hex :∀r p:Nat,∃K:Nat,r<R→(rs.getD r q8).sum=true→p<N →
   (∀k,k<K→(rrY S pl r p (rs.getD r q8).lo (rs.getD r q8).hi (kiv tot (.p r p)) (qX (grp S pl r p) mP,zP S rs pl tot mP r (zY S rs pl tot mP N r) p) k).1≠kiv tot (.p r p)) ∧
   rrY S pl r p (rs.getD r q8).lo (rs.getD r q8).hi (kiv tot (.p r p)) (qX (grp S pl r p) mP,zP S rs pl tot mP r (zY S rs pl tot mP N r) p) K=(kiv tot (.p r p),zP S rs pl tot mP r (zY S rs pl tot mP N r) (p+1)):=by
  intro r p
  by_cases hc:r<R∧(rs.getD r q8).sum=true∧p<N
  ·obtain⟨hr,hs,hpN⟩:=hc
   obtain⟨i1,_,i3⟩:=zY_get h N R he r (by omega)
   have hm :∀p:Nat,∀i∈grp S pl r p,(zY S rs pl tot mP N r).getD i qM=mP.getD i qM:=fun p i hi=>i3 i fun r' hr' _ p' _ hi'=>by have:=(kR hi hi').1;omega
   obtain⟨j1,_,j3⟩:=zP_get h (he r hr hs) i1 hm p
   have hag :∀i∈grp S pl r p,(zP S rs pl tot mP r (zY S rs pl tot mP N r) p).getD i qM=mP.getD i qM:=fun i hi=>by
    rw[j3 i fun p' hp' hi'=>by have:=(kR hi hi').2;omega]
    exact hm p i hi
   obtain⟨K,h1,h2⟩:=rest_hits (Int.natCast_nonneg r) hp h (he r hr hs p) j1 hag
   exact⟨K,fun _ _ _=>⟨fun k hk=>by rw[←rrZ_zero];exact h1 k hk,by rw[←rrZ_zero];exact h2⟩⟩
  ·exact⟨0,fun h1 h2 h3=>absurd ⟨h1,h2,h3⟩ hc⟩
 exact⟨fun r p=>Classical.choose (hex r p),fun r p=>Classical.choose_spec (hex r p)⟩
end
theorem rg_eq {x:Lnt}{s:Lst}(hx:NetOK x)(h:LInv x s)(rw0:List Int) :∃Kf:Nat→Nat→Nat,
  RgOK x.n.S x.rs x.pl (rsL x.n.S x.pl x.m0 x.rs.length x.n.N.length) (rsL x.n.S x.pl (lP x s rw0) x.rs.length x.n.N.length) x.n.N.length Kf (lP x s rw0) ∧
  rgY x.n.S x.rs x.pl (rsL x.n.S x.pl x.m0 x.rs.length x.n.N.length) (rsL x.n.S x.pl (lP x s rw0) x.rs.length x.n.N.length) x.n.N.length Kf (lP x s rw0) x.rs.length=lR x s rw0:=by
 have hR:=h.rest hx rw0
 obtain⟨_,_,hres⟩:=lR_all hx h rw0
 have hb0:=m0_bounds hx
 have hbP :∀i∈zG x.pl,-255≤wAt (lP x s rw0) i∧wAt (lP x s rw0) i≤255:=fun i hi=>by
  have h1:=hR.inb i hi
  have h2:=hR.lo i hi
  have h3:=hR.hi i hi
  omega
 have he :∀r:Nat,r<x.rs.length→(x.rs.getD r q8).sum=true → ∀p:Nat,EntP x.n.S x.rs x.pl (lP x s rw0) (zE x.n.S x.pl (lP x s rw0) r p) r p (x.rs.getD r q8):=fun r hr hs p=>by
  have hg:=hx.rul r hr
  have e:x.rs.getD r q8=x.rs[r]:=by simp[List.getD_eq_getElem?_getD,hr]
  exact⟨rfl,rfl,by rw[Int.toNat_natCast],hs,by rw[e];exact hg.bounds.1,by rw[e];exact hg.bounds.2.1,by rw[e];exact hg.bounds.2.2⟩
 obtain⟨Kf,hK⟩:=looks hR x.n.N.length x.rs.length hx.lpl he
 refine⟨Kf,?_⟩
 have htt :∀r p:Nat,r<x.rs.length→(x.rs.getD r q8).sum=true→p<x.n.N.length→(rsL x.n.S x.pl x.m0 x.rs.length x.n.N.length r).getD p 0=kiv x.tot (.p r p):=fun r p hr hs hp=>by
  rw[rsL_sum hx hb0 hr hp]
  exact(rE x.n.S x.rs x.pl x.m0 r p (by rw[Int.toNat_natCast];exact hs) hb0 (by have:=hx.lpl;have:=hx.S1;omega)).symm
 have hff :∀r p:Nat,r<x.rs.length→p<x.n.N.length→(rsL x.n.S x.pl (lP x s rw0) x.rs.length x.n.N.length r).getD p 0=qX (grp x.n.S x.pl r p) (lP x s rw0):=fun r p hr hp=>rsL_sum hx hbP hr hp
 generalize rsL x.n.S x.pl x.m0 x.rs.length x.n.N.length=tt at htt ⊢
 generalize rsL x.n.S x.pl (lP x s rw0) x.rs.length x.n.N.length=F at hff ⊢
 have hPq :∀r:Nat,r<x.rs.length→(x.rs.getD r q8).sum=true → ∀p,p≤x.n.N.length→rgP x.n.S x.rs x.pl tt F Kf r (zY x.n.S x.rs x.pl x.tot (lP x s rw0) x.n.N.length r) p=zP x.n.S x.rs x.pl x.tot (lP x s rw0) r (zY x.n.S x.rs x.pl x.tot (lP x s rw0) x.n.N.length r) p:=by
  intro r hr hs p
  induction p with
  |zero=>intro _;rfl
  |succ p ih=>
   intro hp
   rw[rgP,ih (by omega)]
   unfold rrM
   rw[htt r p hr hs (by omega),hff r p hr (by omega),(hK r p hr hs (by omega)).2]
 have hYq :∀r:Nat,r≤x.rs.length→rgY x.n.S x.rs x.pl tt F x.n.N.length Kf (lP x s rw0) r=zY x.n.S x.rs x.pl x.tot (lP x s rw0) x.n.N.length r:=by
  intro r
  induction r with
  |zero=>intro _;rfl
  |succ r ih=>
   intro hr
   rw[rgY,zY,ih (by omega)]
   by_cases hs:(x.rs.getD r q8).sum=true
   ·rw[if_pos hs,if_pos hs];exact hPq r (by omega) hs _ (Nat.le_refl _)
   ·rw[if_neg hs,if_neg hs]
 constructor
 ·intro r hr hs p hp
  rw[hYq r (by omega),hPq r hr hs p (by omega),htt r p hr hs hp,hff r p hr hp]
  obtain⟨k1,k2⟩:=hK r p hr hs hp
  refine⟨k1,by rw[k2],fun hk=> ?_⟩
  apply Classical.byContradiction
  intro hS
  have hpl:=hx.lpl
  have hg:grp x.n.S x.pl r p=[]:=by
   have:=grp_len x.n.S x.pl r p
   exact List.eq_nil_of_length_eq_zero (by omega)
  have h0:=k1 0 hk
  have ht:=hR.tot r p (by rw[Int.toNat_natCast];exact hs)
  rw[hg]at h0 ht
  have e1:gcon [] (x.rs.getD ((r:Nat):Int).toNat q8).lo=0:=rfl
  have e2:gcon [] (x.rs.getD ((r:Nat):Int).toNat q8).hi=0:=rfl
  rw[e1,e2]at ht
  apply h0
  show(0:Int)=_
  omega
 ·rw[hYq _ (Nat.le_refl _)]
  obtain⟨y1,y2,y3⟩:=zY_get hR x.n.N.length x.rs.length he x.rs.length (Nat.le_refl _)
  refine getD_ext (y1.trans hres.len.symm) fun i=> ?_
  by_cases hi:i∈zG x.pl∧kJ x.rs x.pl i=true
  ·obtain⟨hi1,hi2⟩:=hi
   have hi3:=plIdx_iff.1 hi1
   have hpl:=hx.lpl
   have hS:i<x.n.S.length:=by omega
   have epl:x.pl.getD i (-1)=x.pl[i]:=by simp[List.getD_eq_getElem?_getD,hi3.1]
   have eS:x.n.S.getD i qY=x.n.S[i]:=by simp[List.getD_eq_getElem?_getD,hS]
   have h1:=hx.p1 i hi3.1
   have h2:=hx.to0 i hS
   have h3:=hx.to1 i hS
   rw[hres.grp i hi1 hi2]
   have er:(((x.pl.getD i (-1)).toNat:Nat):Int)=x.pl.getD i (-1):=by omega
   have ep:(((x.n.S.getD i qY).to.toNat:Nat):Int)=(x.n.S.getD i qY).to:=by rw[eS];omega
   have:=y2 (x.pl.getD i (-1)).toNat (by rw[epl];omega) hi2 (x.n.S.getD i qY).to.toNat (by rw[eS];omega) i (grp_mem.2 ⟨hi1,er.symm,ep.symm⟩)
   rw[this]
   unfold zE
   rw[er,ep]
  ·have hn:i∉zG x.pl∨kJ x.rs x.pl i=false:=by
    by_cases h1:i∈zG x.pl
    ·exact .inr (by cases hq:kJ x.rs x.pl i;rfl;exact absurd ⟨h1,hq⟩ hi)
    ·exact .inl h1
   rw[hres.same i hn]
   refine y3 i fun r' hr' hs' p' _ hg=>hi ⟨(grp_mem.1 hg).1,?_⟩
   unfold kJ
   rw[(grp_mem.1 hg).2.1,Int.toNat_natCast]
   exact hs'
end Go.Proofs.Ytnnlpdgnlccbjaa
namespace Go.Proofs.Ytnnlpdgnlccbjaa
open Go.Sx
set_option maxRecDepth 100000
set_option maxHeartbeats 2000000
def tt0 (x:Lnt):Nat→List Int:=rsL x.n.S x.pl x.m0 x.rs.length x.n.N.length
theorem tt0_len (x:Lnt)(k:Nat):(tt0 x k).length=cN x.rs.length x.n.N.length k:=u1 ..
def rS32 (x:Lnt)(sn:Nat→List Int):List (Nat×SObj):=(9,.rwin 1 (sn 0).length (qB (sn 0)))::(10,.rwin 1 (sn 1).length (qB (sn 1)))::(11,.rwin 1 (sn 2).length (qB (sn 2)))::(12,.rwin 1 (sn 3).length (qB (sn 3)))::(13,.rwin 1 (sn 4).length (qB (sn 4)))::(14,.rwin 1 (sn 5).length (qB (sn 5)))::(15,.rwin 1 (sn 6).length (qB (sn 6)))::(16,.rwin 1 (sn 7).length (qB (sn 7)))::(17,.rwin 1 (sn 8).length (qB (sn 8)))::(18,.rwin 1 (sn 9).length (qB (sn 9)))::(19,.rwin 1 (sn 10).length (qB (sn 10)))::(20,.rwin 1 (sn 11).length (qB (sn 11)))::(21,.rwin 1 (sn 12).length (qB (sn 12)))::(22,.rwin 1 (sn 13).length (qB (sn 13)))::(23,.rwin 1 (sn 14).length (qB (sn 14)))::(24,.rwin 1 (sn 15).length (qB (sn 15)))::(25,.rwin 1 (cN x.rs.length x.n.N.length 0) (qB (tt0 x 0)))::(26,.rwin 1 (cN x.rs.length x.n.N.length 1) (qB (tt0 x 1)))::(27,.rwin 1 (cN x.rs.length x.n.N.length 2) (qB (tt0 x 2)))::(28,.rwin 1 (cN x.rs.length x.n.N.length 3) (qB (tt0 x 3)))::(29,.rwin 1 (cN x.rs.length x.n.N.length 4) (qB (tt0 x 4)))::(30,.rwin 1 (cN x.rs.length x.n.N.length 5) (qB (tt0 x 5)))::(31,.rwin 1 (cN x.rs.length x.n.N.length 6) (qB (tt0 x 6)))::(32,.rwin 1 (cN x.rs.length x.n.N.length 7) (qB (tt0 x 7)))::(33,.rwin 1 (cN x.rs.length x.n.N.length 8) (qB (tt0 x 8)))::(34,.rwin 1 (cN x.rs.length x.n.N.length 9) (qB (tt0 x 9)))::(35,.rwin 1 (cN x.rs.length x.n.N.length 10) (qB (tt0 x 10)))::(36,.rwin 1 (cN x.rs.length x.n.N.length 11) (qB (tt0 x 11)))::(37,.rwin 1 (cN x.rs.length x.n.N.length 12) (qB (tt0 x 12)))::(38,.rwin 1 (cN x.rs.length x.n.N.length 13) (qB (tt0 x 13)))::(39,.rwin 1 (cN x.rs.length x.n.N.length 14) (qB (tt0 x 14)))::(40,.rwin 1 (cN x.rs.length x.n.N.length 15) (qB (tt0 x 15)))::[]
def rM (x:Lnt)(s:Lst)(sn:Nat→List Int)(mid:List (Nat×SObj)):List (Nat×SObj):=
 (0,.cells (z9 (ii s.tick) x.n.inp) 108)::(1,.rwin 8 x.n.N.length (x.n.N.flatMap Prm.vals))::(2,.rwin 4 x.n.S.length (x.n.S.flatMap Syn.vals))::(3,.row 2 x.n.N.length (s.st.flatMap Ste.cells) 139)::(4,.rwin 10 x.rs.length (x.rs.flatMap Rul.vals))::(5,.rwin 1 x.pl.length (qB x.pl))::(6,.row 4 x.n.S.length (s.m.flatMap Mrk.cells) 141)::(7,.row 1 x.rs.length (zO 25 x.rs.length) 27)::(8,.row 1 16 [.opq 9,.opq 10,.opq 11,.opq 12,.opq 13,.opq 14,.opq 15,.opq 16,.opq 17,.opq 18,.opq 19,.opq 20,.opq 21,.opq 22,.opq 23,.opq 24] 27)::(mid++rS32 x sn)
theorem rS32_in (x:Lnt)(sn:Nat→List Int){n:Nat}(hn:43≤n):In n (rS32 x sn):=(by repeat first|exact trivial|refine⟨⟨by omega,Os.h _⟩,?_⟩)
theorem rM_in {x:Lnt}(hR:x.rs.length≤16)(s:Lst)(sn:Nat→List Int){mid:List (Nat×SObj)}{n:Nat}(hn:43≤n)(hm:In n mid):In n (rM x s sn mid):=
 ⟨⟨by omega,by simp[z9,SObj.sc,SV.scs,SV.sc];omega⟩,⟨by omega,Os.h _⟩,⟨by omega,Os.h _⟩,⟨by omega,Os.h _⟩,⟨by omega,Os.h _⟩,⟨by omega,Os.h _⟩,⟨by omega,Os.h _⟩,⟨by omega,qQ (by omega)⟩,⟨by omega,by simp[SObj.sc,SV.scs,SV.sc];omega⟩,xQ hm (rS32_in x sn hn)⟩
def rM1 (x:Lnt)(s:Lst)(out sn0:List Int):List (Nat×SObj):=
 [(43,.row 1 out.length (out.map fun x=>ii x) 3),(44,.row 1 sn0.length (sn0.map fun x=>ii x) 3),(45,.row 1 16 [.opq 44,.opq 9,.opq 10,.opq 11,.opq 12,.opq 13,.opq 14,.opq 15,.opq 16,.opq 17,.opq 18,.opq 19,.opq 20,.opq 21,.opq 22,.opq 23] 27),(0,.cells (kF (ii s.tick) x.n.inp 45) 108),(3,.row 2 x.n.N.length (s.st.flatMap Ste.cells) 139),(6,.row 4 x.n.S.length (s.m.flatMap Mrk.cells) 141),(7,.row 1 x.rs.length (zO 25 x.rs.length) 27)]
structure SnOK (s:Lst) (sn:Nat→List Int):Prop where
 rel:SnRel s sn
 len :∀k,(sn k).length≤100000
theorem SnOK.start (x:Lnt):SnOK x.new fun _=>[]:=⟨SnRel.start x,fun _=>by simp⟩
theorem rgo_spec {x:Lnt}{s:Lst}{sn:Nat→List Int}(hx:NetOK x)(h:LInv x s)(hs:SnOK s sn)(ht:s.tick<4611686018427387904)(ins rw0:List Int)(hin:ins.length≤90000)(hrw:rw0.length=x.rs.length) :
  BSpec Try.prog 56 [.ptr 0 0,.opq 41,.opq 42] (rM x s sn [(41,.rwin 1 ins.length (qB ins)),(42,.rwin 1 rw0.length (qB rw0))]) 43 [0,3,6,7,8] (.opq 43) (rM1 x (lN x s ins rw0) (lOut x s) (snN sn ins (lOut x s) 0)) 46∧SnOK (lN x s ins rw0) (snN sn ins (lOut x s)):=by
 have hA:=hs.rel.ra hx
 obtain⟨Z,hZ⟩ :∃Z,rnL x.n.N (lA x s).2 s.st=Z:=⟨_,rfl⟩
 obtain⟨z1,z2,z3,z4,_⟩:=rnY_eq (sums:=(lA x s).2) h.lst h.vok x.n.N.length (Nat.le_refl _)
 have hZ':rnY j8 yM x.n.N (lA x s).2 s.st x.n.N.length=Z:=hZ
 rw[hZ']at z1 z2 z3
 have z1:Z.1=(lB x s).1:=z1
 have z2:Z.2.2=lOut x s:=z2
 have hP:=rp_eq hx h rw0 Z.2.1 z3
 obtain⟨Kf,k1,k2⟩:=rg_eq hx h rw0
 have hsp:=rGo_spec s.tick x.n.inp x.n.N x.n.S s.st x.rs x.pl s.m sn (tt0 x) ins rw0 hx.N1 hx.N2 hx.S1 hx.rl hx.lpl h.lm h.lst hrw hs.len (by omega) hx.p1 hx.to0 hx.to1 hx.d0 hx.d1 (fun i hi=>(hx.rul i hi).shift) (lA x s) hA Z hZ (lP x s rw0) hP Kf (tt0_len x) k1
 rw[z1,z2]at hsp
 have k2':rgY x.n.S x.rs x.pl (tt0 x) (rsL x.n.S x.pl (lP x s rw0) x.rs.length x.n.N.length) x.n.N.length Kf (lP x s rw0) x.rs.length=lR x s rw0:=k2
 rw[k2']at hsp
 have h0:=h.t0
 refine⟨hsp,⟨hs.rel.next h0 ht ins rw0 (lOut x s) z4,fun k=> ?_⟩⟩
 cases k with
 |zero=>
  have a1:=sL_len ins (lOut x s) ins.length
  have a2:=tV x s
  have a3:=hx.N2
  show(sL ins (lOut x s) ins.length).length≤_
  omega
 |succ k=>exact hs.len k
set_option maxHeartbeats 16000000
theorem rnew_ok (x:Lnt)(h:qZ x.n x.rs x.pl=0) :
  BSpec Try.prog 38 [.agg [.opq 0,ii x.n.inp,.opq 1],.opq 2,.opq 3] [(0,.rwin 8 x.n.N.length (x.n.N.flatMap Prm.vals)),(1,.rwin 4 x.n.S.length (x.n.S.flatMap Syn.vals)),(2,.rwin 10 x.rs.length (x.rs.flatMap Rul.vals)),(3,.rwin 1 x.pl.length (qB x.pl))] 4 [] (.tup [.ptr 4 0,ii 0]) ((4,.cells [.opq 0,ii x.n.inp,.opq 1,.opq 2,.opq 3,.opq 5,.opq 6,ii 0,.opq 7,.opq 8] 108)::(5,.row 4 x.n.S.length (x.m0.flatMap Mrk.cells) 141)::(6,.row 1 x.rs.length (zO 25 x.rs.length) 27)::(7,.row 2 x.n.N.length ((List.replicate x.n.N.length jQ).flatMap Ste.cells) 139)::(8,.row 1 16 [.opq 9,.opq 10,.opq 11,.opq 12,.opq 13,.opq 14,.opq 15,.opq 16,.opq 17,.opq 18,.opq 19,.opq 20,.opq 21,.opq 22,.opq 23,.opq 24] 27)::(9,.row 1 0 [] 3)::(10,.row 1 0 [] 3)::(11,.row 1 0 [] 3)::(12,.row 1 0 [] 3)::(13,.row 1 0 [] 3)::(14,.row 1 0 [] 3)::(15,.row 1 0 [] 3)::(16,.row 1 0 [] 3)::(17,.row 1 0 [] 3)::(18,.row 1 0 [] 3)::(19,.row 1 0 [] 3)::(20,.row 1 0 [] 3)::(21,.row 1 0 [] 3)::(22,.row 1 0 [] 3)::(23,.row 1 0 [] 3)::(24,.row 1 0 [] 3)::(25,.row 1 (cN x.rs.length x.n.N.length 0) ((rsL x.n.S x.pl x.m0 x.rs.length x.n.N.length 0).map fun x=>ii x) 3)::(26,.row 1 (cN x.rs.length x.n.N.length 1) ((rsL x.n.S x.pl x.m0 x.rs.length x.n.N.length 1).map fun x=>ii x) 3)::(27,.row 1 (cN x.rs.length x.n.N.length 2) ((rsL x.n.S x.pl x.m0 x.rs.length x.n.N.length 2).map fun x=>ii x) 3)::(28,.row 1 (cN x.rs.length x.n.N.length 3) ((rsL x.n.S x.pl x.m0 x.rs.length x.n.N.length 3).map fun x=>ii x) 3)::(29,.row 1 (cN x.rs.length x.n.N.length 4) ((rsL x.n.S x.pl x.m0 x.rs.length x.n.N.length 4).map fun x=>ii x) 3)::(30,.row 1 (cN x.rs.length x.n.N.length 5) ((rsL x.n.S x.pl x.m0 x.rs.length x.n.N.length 5).map fun x=>ii x) 3)::(31,.row 1 (cN x.rs.length x.n.N.length 6) ((rsL x.n.S x.pl x.m0 x.rs.length x.n.N.length 6).map fun x=>ii x) 3)::(32,.row 1 (cN x.rs.length x.n.N.length 7) ((rsL x.n.S x.pl x.m0 x.rs.length x.n.N.length 7).map fun x=>ii x) 3)::(33,.row 1 (cN x.rs.length x.n.N.length 8) ((rsL x.n.S x.pl x.m0 x.rs.length x.n.N.length 8).map fun x=>ii x) 3)::(34,.row 1 (cN x.rs.length x.n.N.length 9) ((rsL x.n.S x.pl x.m0 x.rs.length x.n.N.length 9).map fun x=>ii x) 3)::(35,.row 1 (cN x.rs.length x.n.N.length 10) ((rsL x.n.S x.pl x.m0 x.rs.length x.n.N.length 10).map fun x=>ii x) 3)::(36,.row 1 (cN x.rs.length x.n.N.length 11) ((rsL x.n.S x.pl x.m0 x.rs.length x.n.N.length 11).map fun x=>ii x) 3)::(37,.row 1 (cN x.rs.length x.n.N.length 12) ((rsL x.n.S x.pl x.m0 x.rs.length x.n.N.length 12).map fun x=>ii x) 3)::(38,.row 1 (cN x.rs.length x.n.N.length 13) ((rsL x.n.S x.pl x.m0 x.rs.length x.n.N.length 13).map fun x=>ii x) 3)::(39,.row 1 (cN x.rs.length x.n.N.length 14) ((rsL x.n.S x.pl x.m0 x.rs.length x.n.N.length 14).map fun x=>ii x) 3)::(40,.row 1 (cN x.rs.length x.n.N.length 15) ((rsL x.n.S x.pl x.m0 x.rs.length x.n.N.length 15).map fun x=>ii x) 3)::[]) 41:=by
 have hx:NetOK x:=uY h
 have hx1:=hx.N2
 have hx2:=hx.S1
 have hx3:=hx.rl
 have hx4:x.pl.length=x.n.S.length:=hx.lpl
 have hc :∀w L' rd,(∀p,rd=some p→p∈L')→Cx.ok ⟨Try.prog,tab,[],38,Try.f38,[],w,L',rd⟩:=fun w L' rd h=>⟨qI,trivial,Try.func38,mixed,h⟩
 refine BSpec.start (tab:=tab) (pf:=[]) (cuts:=[]) Try.func38 rfl ⟨⟨(show 0<4 by decide),trivial,ltb rfl,trivial⟩,(show 2<4 by decide),ltb rfl,trivial⟩ rfl fun w L0 plp hL' hLB hcov=> ?_
 generalize hRR:SpecR _ _ _ _ _ _=RR
 refine Run.r6 (hc w L0 none nofun) 100 _ ?_
 conv=>whnf
 refine Run.pB (g:=16) (vs:=[.agg [.opq 0,ii x.n.inp,.opq 1],.opq 2,.opq 3]) (caps:=[]) (.v (.int .i64 0)) (fun ρ w1 hW=>by
  have:=gN _ _ x.n _ x.rs _ x.pl w1 ⟨hW.rowsAt (i:=0) rfl,hW.rowsAt (i:=1) rfl⟩ (hW.rowsAt (i:=2) rfl) (hW.rowsAt (i:=3) rfl)
  rw[h]at this
  exact this) (ent _ _ Try.func16 (by kernel_rfl) rfl) rfl rfl rfl rfl rfl rfl rfl trivial ?_
 refine Run.W2 hc ?_
 conv=>whnf
 refine Run.draw (hc w L0 none nofun) 10 ?_
 rw[show qC 0 10=qC 0 7++(qC 7 1++qC 8 2)from rfl]
 simp only[qP]
 conv=>whnf
 rw[opF_make2 (m:=x.n.N.length) rfl rfl rfl rfl rfl rfl (by omega) (by omega)]
 conv=>whnf
 refine⟨by kernel_rfl,?_⟩
 refine Run.r6 (hc w L0 none nofun) 3 _ ?_
 conv=>whnf
 refine Run.r7 (T':=[(3,.ptr 5 0),(9,.ptr 15 0)]) (M':=[(15,.cells [.opq 0,ii x.n.inp,.opq 1,.opq 2,.opq 3,nq,nq,ii 0,.opq 12,.opq 13] 108),(12,.row 2 x.n.N.length ((List.replicate x.n.N.length jQ).flatMap Ste.cells) 139),(13,.row 1 16 [nq,nq,nq,nq,nq,nq,nq,nq,nq,nq,nq,nq,nq,nq,nq,nq] 27),(5,.cells [.opq 0,ii x.n.inp,.opq 1] 25),(0,.rwin 8 x.n.N.length (x.n.N.flatMap Prm.vals)),(1,.rwin 4 x.n.S.length (x.n.S.flatMap Syn.vals)),(2,.rwin 10 x.rs.length (x.rs.flatMap Rul.vals)),(3,.rwin 1 x.pl.length (qB x.pl)),(4,.pin plp)]) 17 ⟨⟨rfl,ltb rfl⟩,⟨rfl,ltb rfl⟩,trivial⟩ (by repeat first|exact trivial|refine⟨⟨rfl,by omega,qE _ rfl⟩,?_⟩|refine⟨⟨rfl,by omega,Os.h _⟩,?_⟩|refine⟨⟨rfl,by omega,pnx hcov rfl⟩,?_⟩|refine⟨⟨by rw[←st_rep];rfl,by omega,Os.h _⟩,?_⟩) (lbx hLB rfl) ?_
 refine Run.pG (T':=[(3,.ptr 5 0),(9,.ptr 15 0)]) (M':=[(17,.row 4 0 [] 141),(15,.cells [.opq 0,ii x.n.inp,.opq 1,.opq 2,.opq 3,.opq 17,nq,ii 0,.opq 12,.opq 13] 108),(12,_),(13,_),(5,_),(0,_),(1,_),(2,_),(3,_),(4,_)]) 4 141 (AllP.mem ⟨⟨_,rfl,.inl rfl⟩,⟨_,rfl,.inl rfl⟩,trivial⟩) (AllP.mem (by repeat first|exact trivial|refine⟨.inl rfl,?_⟩|refine⟨.inr ⟨_,rfl,.inr (.inl ⟨_,_,_,rfl,rfl,⟨.inl rfl,.inl rfl,.inl rfl,.inl rfl,.inl rfl,.inr ⟨rfl,rfl⟩,.inl rfl,.inl rfl,.inl rfl,.inl rfl,trivial⟩⟩)⟩,?_⟩|refine⟨.inr ⟨_,rfl,.inl rfl⟩,?_⟩)) ?_
 refine Run.pG (T':=[(3,.ptr 5 0),(9,.ptr 15 0)]) (M':=[(18,.row 1 0 [] 27),(17,_),(15,.cells [.opq 0,ii x.n.inp,.opq 1,.opq 2,.opq 3,.opq 17,.opq 18,ii 0,.opq 12,.opq 13] 108),(12,_),(13,_),(5,_),(0,_),(1,_),(2,_),(3,_),(4,_)]) 1 27 (AllP.mem ⟨⟨_,rfl,.inl rfl⟩,⟨_,rfl,.inl rfl⟩,trivial⟩) (AllP.mem (by repeat first|exact trivial|refine⟨.inl rfl,?_⟩|refine⟨.inr ⟨_,rfl,.inl rfl⟩,?_⟩|refine⟨.inr ⟨_,rfl,.inr (.inl ⟨_,_,_,rfl,rfl,⟨.inl rfl,.inl rfl,.inl rfl,.inl rfl,.inl rfl,.inl rfl,.inr ⟨rfl,rfl⟩,.inl rfl,.inl rfl,.inl rfl,trivial⟩⟩)⟩,?_⟩)) ?_
 refine Run.pG (T':=[(3,.ptr 5 0),(9,.ptr 15 0)]) (M':=[(19,.row 1 0 [] 3),(18,_),(17,_),(15,_),(12,_),(13,.row 1 16 [.opq 19,nq,nq,nq,nq,nq,nq,nq,nq,nq,nq,nq,nq,nq,nq,nq] 27),(5,_),(0,_),(1,_),(2,_),(3,_),(4,_)]) 1 3 (AllP.mem ⟨⟨_,rfl,.inl rfl⟩,⟨_,rfl,.inl rfl⟩,trivial⟩) (AllP.mem (by repeat first|exact trivial|refine⟨.inl rfl,?_⟩|refine⟨.inr ⟨_,rfl,.inl rfl⟩,?_⟩|refine⟨.inr ⟨_,rfl,.inr (.inr ⟨_,_,_,_,_,rfl,rfl,⟨.inr ⟨rfl,rfl⟩,.inl rfl,.inl rfl,.inl rfl,.inl rfl,.inl rfl,.inl rfl,.inl rfl,.inl rfl,.inl rfl,.inl rfl,.inl rfl,.inl rfl,.inl rfl,.inl rfl,.inl rfl,trivial⟩⟩)⟩,?_⟩)) ?_
 refine Run.pG (T':=[(3,.ptr 5 0),(9,.ptr 15 0)]) (M':=[(20,.row 1 0 [] 3),(19,_),(18,_),(17,_),(15,_),(12,_),(13,.row 1 16 [.opq 19,.opq 20,nq,nq,nq,nq,nq,nq,nq,nq,nq,nq,nq,nq,nq,nq] 27),(5,_),(0,_),(1,_),(2,_),(3,_),(4,_)]) 1 3 (AllP.mem ⟨⟨_,rfl,.inl rfl⟩,⟨_,rfl,.inl rfl⟩,trivial⟩) (AllP.mem (by repeat first|exact trivial|refine⟨.inl rfl,?_⟩|refine⟨.inr ⟨_,rfl,.inl rfl⟩,?_⟩|refine⟨.inr ⟨_,rfl,.inr (.inr ⟨_,_,_,_,_,rfl,rfl,⟨.inl rfl,.inr ⟨rfl,rfl⟩,.inl rfl,.inl rfl,.inl rfl,.inl rfl,.inl rfl,.inl rfl,.inl rfl,.inl rfl,.inl rfl,.inl rfl,.inl rfl,.inl rfl,.inl rfl,.inl rfl,trivial⟩⟩)⟩,?_⟩)) ?_
 refine Run.pG (T':=[(3,.ptr 5 0),(9,.ptr 15 0)]) (M':=[(21,.row 1 0 [] 3),(20,_),(19,_),(18,_),(17,_),(15,_),(12,_),(13,.row 1 16 [.opq 19,.opq 20,.opq 21,nq,nq,nq,nq,nq,nq,nq,nq,nq,nq,nq,nq,nq] 27),(5,_),(0,_),(1,_),(2,_),(3,_),(4,_)]) 1 3 (AllP.mem ⟨⟨_,rfl,.inl rfl⟩,⟨_,rfl,.inl rfl⟩,trivial⟩) (AllP.mem (by repeat first|exact trivial|refine⟨.inl rfl,?_⟩|refine⟨.inr ⟨_,rfl,.inl rfl⟩,?_⟩|refine⟨.inr ⟨_,rfl,.inr (.inr ⟨_,_,_,_,_,rfl,rfl,⟨.inl rfl,.inl rfl,.inr ⟨rfl,rfl⟩,.inl rfl,.inl rfl,.inl rfl,.inl rfl,.inl rfl,.inl rfl,.inl rfl,.inl rfl,.inl rfl,.inl rfl,.inl rfl,.inl rfl,.inl rfl,trivial⟩⟩)⟩,?_⟩)) ?_
 refine Run.pG (T':=[(3,.ptr 5 0),(9,.ptr 15 0)]) (M':=[(22,.row 1 0 [] 3),(21,_),(20,_),(19,_),(18,_),(17,_),(15,_),(12,_),(13,.row 1 16 [.opq 19,.opq 20,.opq 21,.opq 22,nq,nq,nq,nq,nq,nq,nq,nq,nq,nq,nq,nq] 27),(5,_),(0,_),(1,_),(2,_),(3,_),(4,_)]) 1 3 (AllP.mem ⟨⟨_,rfl,.inl rfl⟩,⟨_,rfl,.inl rfl⟩,trivial⟩) (AllP.mem (by repeat first|exact trivial|refine⟨.inl rfl,?_⟩|refine⟨.inr ⟨_,rfl,.inl rfl⟩,?_⟩|refine⟨.inr ⟨_,rfl,.inr (.inr ⟨_,_,_,_,_,rfl,rfl,⟨.inl rfl,.inl rfl,.inl rfl,.inr ⟨rfl,rfl⟩,.inl rfl,.inl rfl,.inl rfl,.inl rfl,.inl rfl,.inl rfl,.inl rfl,.inl rfl,.inl rfl,.inl rfl,.inl rfl,.inl rfl,trivial⟩⟩)⟩,?_⟩)) ?_
 refine Run.pG (T':=[(3,.ptr 5 0),(9,.ptr 15 0)]) (M':=[(23,.row 1 0 [] 3),(22,_),(21,_),(20,_),(19,_),(18,_),(17,_),(15,_),(12,_),(13,.row 1 16 [.opq 19,.opq 20,.opq 21,.opq 22,.opq 23,nq,nq,nq,nq,nq,nq,nq,nq,nq,nq,nq] 27),(5,_),(0,_),(1,_),(2,_),(3,_),(4,_)]) 1 3 (AllP.mem ⟨⟨_,rfl,.inl rfl⟩,⟨_,rfl,.inl rfl⟩,trivial⟩) (AllP.mem (by repeat first|exact trivial|refine⟨.inl rfl,?_⟩|refine⟨.inr ⟨_,rfl,.inl rfl⟩,?_⟩|refine⟨.inr ⟨_,rfl,.inr (.inr ⟨_,_,_,_,_,rfl,rfl,⟨.inl rfl,.inl rfl,.inl rfl,.inl rfl,.inr ⟨rfl,rfl⟩,.inl rfl,.inl rfl,.inl rfl,.inl rfl,.inl rfl,.inl rfl,.inl rfl,.inl rfl,.inl rfl,.inl rfl,.inl rfl,trivial⟩⟩)⟩,?_⟩)) ?_
 refine Run.pG (T':=[(3,.ptr 5 0),(9,.ptr 15 0)]) (M':=[(24,.row 1 0 [] 3),(23,_),(22,_),(21,_),(20,_),(19,_),(18,_),(17,_),(15,_),(12,_),(13,.row 1 16 [.opq 19,.opq 20,.opq 21,.opq 22,.opq 23,.opq 24,nq,nq,nq,nq,nq,nq,nq,nq,nq,nq] 27),(5,_),(0,_),(1,_),(2,_),(3,_),(4,_)]) 1 3 (AllP.mem ⟨⟨_,rfl,.inl rfl⟩,⟨_,rfl,.inl rfl⟩,trivial⟩) (AllP.mem (by repeat first|exact trivial|refine⟨.inl rfl,?_⟩|refine⟨.inr ⟨_,rfl,.inl rfl⟩,?_⟩|refine⟨.inr ⟨_,rfl,.inr (.inr ⟨_,_,_,_,_,rfl,rfl,⟨.inl rfl,.inl rfl,.inl rfl,.inl rfl,.inl rfl,.inr ⟨rfl,rfl⟩,.inl rfl,.inl rfl,.inl rfl,.inl rfl,.inl rfl,.inl rfl,.inl rfl,.inl rfl,.inl rfl,.inl rfl,trivial⟩⟩)⟩,?_⟩)) ?_
 refine Run.pG (T':=[(3,.ptr 5 0),(9,.ptr 15 0)]) (M':=[(25,.row 1 0 [] 3),(24,_),(23,_),(22,_),(21,_),(20,_),(19,_),(18,_),(17,_),(15,_),(12,_),(13,.row 1 16 [.opq 19,.opq 20,.opq 21,.opq 22,.opq 23,.opq 24,.opq 25,nq,nq,nq,nq,nq,nq,nq,nq,nq] 27),(5,_),(0,_),(1,_),(2,_),(3,_),(4,_)]) 1 3 (AllP.mem ⟨⟨_,rfl,.inl rfl⟩,⟨_,rfl,.inl rfl⟩,trivial⟩) (AllP.mem (by repeat first|exact trivial|refine⟨.inl rfl,?_⟩|refine⟨.inr ⟨_,rfl,.inl rfl⟩,?_⟩|refine⟨.inr ⟨_,rfl,.inr (.inr ⟨_,_,_,_,_,rfl,rfl,⟨.inl rfl,.inl rfl,.inl rfl,.inl rfl,.inl rfl,.inl rfl,.inr ⟨rfl,rfl⟩,.inl rfl,.inl rfl,.inl rfl,.inl rfl,.inl rfl,.inl rfl,.inl rfl,.inl rfl,.inl rfl,trivial⟩⟩)⟩,?_⟩)) ?_
 refine Run.pG (T':=[(3,.ptr 5 0),(9,.ptr 15 0)]) (M':=[(26,.row 1 0 [] 3),(25,_),(24,_),(23,_),(22,_),(21,_),(20,_),(19,_),(18,_),(17,_),(15,_),(12,_),(13,.row 1 16 [.opq 19,.opq 20,.opq 21,.opq 22,.opq 23,.opq 24,.opq 25,.opq 26,nq,nq,nq,nq,nq,nq,nq,nq] 27),(5,_),(0,_),(1,_),(2,_),(3,_),(4,_)]) 1 3 (AllP.mem ⟨⟨_,rfl,.inl rfl⟩,⟨_,rfl,.inl rfl⟩,trivial⟩) (AllP.mem (by repeat first|exact trivial|refine⟨.inl rfl,?_⟩|refine⟨.inr ⟨_,rfl,.inl rfl⟩,?_⟩|refine⟨.inr ⟨_,rfl,.inr (.inr ⟨_,_,_,_,_,rfl,rfl,⟨.inl rfl,.inl rfl,.inl rfl,.inl rfl,.inl rfl,.inl rfl,.inl rfl,.inr ⟨rfl,rfl⟩,.inl rfl,.inl rfl,.inl rfl,.inl rfl,.inl rfl,.inl rfl,.inl rfl,.inl rfl,trivial⟩⟩)⟩,?_⟩)) ?_
 refine Run.pG (T':=[(3,.ptr 5 0),(9,.ptr 15 0)]) (M':=[(27,.row 1 0 [] 3),(26,_),(25,_),(24,_),(23,_),(22,_),(21,_),(20,_),(19,_),(18,_),(17,_),(15,_),(12,_),(13,.row 1 16 [.opq 19,.opq 20,.opq 21,.opq 22,.opq 23,.opq 24,.opq 25,.opq 26,.opq 27,nq,nq,nq,nq,nq,nq,nq] 27),(5,_),(0,_),(1,_),(2,_),(3,_),(4,_)]) 1 3 (AllP.mem ⟨⟨_,rfl,.inl rfl⟩,⟨_,rfl,.inl rfl⟩,trivial⟩) (AllP.mem (by repeat first|exact trivial|refine⟨.inl rfl,?_⟩|refine⟨.inr ⟨_,rfl,.inl rfl⟩,?_⟩|refine⟨.inr ⟨_,rfl,.inr (.inr ⟨_,_,_,_,_,rfl,rfl,⟨.inl rfl,.inl rfl,.inl rfl,.inl rfl,.inl rfl,.inl rfl,.inl rfl,.inl rfl,.inr ⟨rfl,rfl⟩,.inl rfl,.inl rfl,.inl rfl,.inl rfl,.inl rfl,.inl rfl,.inl rfl,trivial⟩⟩)⟩,?_⟩)) ?_
 refine Run.pG (T':=[(3,.ptr 5 0),(9,.ptr 15 0)]) (M':=[(28,.row 1 0 [] 3),(27,_),(26,_),(25,_),(24,_),(23,_),(22,_),(21,_),(20,_),(19,_),(18,_),(17,_),(15,_),(12,_),(13,.row 1 16 [.opq 19,.opq 20,.opq 21,.opq 22,.opq 23,.opq 24,.opq 25,.opq 26,.opq 27,.opq 28,nq,nq,nq,nq,nq,nq] 27),(5,_),(0,_),(1,_),(2,_),(3,_),(4,_)]) 1 3 (AllP.mem ⟨⟨_,rfl,.inl rfl⟩,⟨_,rfl,.inl rfl⟩,trivial⟩) (AllP.mem (by repeat first|exact trivial|refine⟨.inl rfl,?_⟩|refine⟨.inr ⟨_,rfl,.inl rfl⟩,?_⟩|refine⟨.inr ⟨_,rfl,.inr (.inr ⟨_,_,_,_,_,rfl,rfl,⟨.inl rfl,.inl rfl,.inl rfl,.inl rfl,.inl rfl,.inl rfl,.inl rfl,.inl rfl,.inl rfl,.inr ⟨rfl,rfl⟩,.inl rfl,.inl rfl,.inl rfl,.inl rfl,.inl rfl,.inl rfl,trivial⟩⟩)⟩,?_⟩)) ?_
 refine Run.pG (T':=[(3,.ptr 5 0),(9,.ptr 15 0)]) (M':=[(29,.row 1 0 [] 3),(28,_),(27,_),(26,_),(25,_),(24,_),(23,_),(22,_),(21,_),(20,_),(19,_),(18,_),(17,_),(15,_),(12,_),(13,.row 1 16 [.opq 19,.opq 20,.opq 21,.opq 22,.opq 23,.opq 24,.opq 25,.opq 26,.opq 27,.opq 28,.opq 29,nq,nq,nq,nq,nq] 27),(5,_),(0,_),(1,_),(2,_),(3,_),(4,_)]) 1 3 (AllP.mem ⟨⟨_,rfl,.inl rfl⟩,⟨_,rfl,.inl rfl⟩,trivial⟩) (AllP.mem (by repeat first|exact trivial|refine⟨.inl rfl,?_⟩|refine⟨.inr ⟨_,rfl,.inl rfl⟩,?_⟩|refine⟨.inr ⟨_,rfl,.inr (.inr ⟨_,_,_,_,_,rfl,rfl,⟨.inl rfl,.inl rfl,.inl rfl,.inl rfl,.inl rfl,.inl rfl,.inl rfl,.inl rfl,.inl rfl,.inl rfl,.inr ⟨rfl,rfl⟩,.inl rfl,.inl rfl,.inl rfl,.inl rfl,.inl rfl,trivial⟩⟩)⟩,?_⟩)) ?_
 refine Run.pG (T':=[(3,.ptr 5 0),(9,.ptr 15 0)]) (M':=[(30,.row 1 0 [] 3),(29,_),(28,_),(27,_),(26,_),(25,_),(24,_),(23,_),(22,_),(21,_),(20,_),(19,_),(18,_),(17,_),(15,_),(12,_),(13,.row 1 16 [.opq 19,.opq 20,.opq 21,.opq 22,.opq 23,.opq 24,.opq 25,.opq 26,.opq 27,.opq 28,.opq 29,.opq 30,nq,nq,nq,nq] 27),(5,_),(0,_),(1,_),(2,_),(3,_),(4,_)]) 1 3 (AllP.mem ⟨⟨_,rfl,.inl rfl⟩,⟨_,rfl,.inl rfl⟩,trivial⟩) (AllP.mem (by repeat first|exact trivial|refine⟨.inl rfl,?_⟩|refine⟨.inr ⟨_,rfl,.inl rfl⟩,?_⟩|refine⟨.inr ⟨_,rfl,.inr (.inr ⟨_,_,_,_,_,rfl,rfl,⟨.inl rfl,.inl rfl,.inl rfl,.inl rfl,.inl rfl,.inl rfl,.inl rfl,.inl rfl,.inl rfl,.inl rfl,.inl rfl,.inr ⟨rfl,rfl⟩,.inl rfl,.inl rfl,.inl rfl,.inl rfl,trivial⟩⟩)⟩,?_⟩)) ?_
 refine Run.pG (T':=[(3,.ptr 5 0),(9,.ptr 15 0)]) (M':=[(31,.row 1 0 [] 3),(30,_),(29,_),(28,_),(27,_),(26,_),(25,_),(24,_),(23,_),(22,_),(21,_),(20,_),(19,_),(18,_),(17,_),(15,_),(12,_),(13,.row 1 16 [.opq 19,.opq 20,.opq 21,.opq 22,.opq 23,.opq 24,.opq 25,.opq 26,.opq 27,.opq 28,.opq 29,.opq 30,.opq 31,nq,nq,nq] 27),(5,_),(0,_),(1,_),(2,_),(3,_),(4,_)]) 1 3 (AllP.mem ⟨⟨_,rfl,.inl rfl⟩,⟨_,rfl,.inl rfl⟩,trivial⟩) (AllP.mem (by repeat first|exact trivial|refine⟨.inl rfl,?_⟩|refine⟨.inr ⟨_,rfl,.inl rfl⟩,?_⟩|refine⟨.inr ⟨_,rfl,.inr (.inr ⟨_,_,_,_,_,rfl,rfl,⟨.inl rfl,.inl rfl,.inl rfl,.inl rfl,.inl rfl,.inl rfl,.inl rfl,.inl rfl,.inl rfl,.inl rfl,.inl rfl,.inl rfl,.inr ⟨rfl,rfl⟩,.inl rfl,.inl rfl,.inl rfl,trivial⟩⟩)⟩,?_⟩)) ?_
 refine Run.pG (T':=[(3,.ptr 5 0),(9,.ptr 15 0)]) (M':=[(32,.row 1 0 [] 3),(31,_),(30,_),(29,_),(28,_),(27,_),(26,_),(25,_),(24,_),(23,_),(22,_),(21,_),(20,_),(19,_),(18,_),(17,_),(15,_),(12,_),(13,.row 1 16 [.opq 19,.opq 20,.opq 21,.opq 22,.opq 23,.opq 24,.opq 25,.opq 26,.opq 27,.opq 28,.opq 29,.opq 30,.opq 31,.opq 32,nq,nq] 27),(5,_),(0,_),(1,_),(2,_),(3,_),(4,_)]) 1 3 (AllP.mem ⟨⟨_,rfl,.inl rfl⟩,⟨_,rfl,.inl rfl⟩,trivial⟩) (AllP.mem (by repeat first|exact trivial|refine⟨.inl rfl,?_⟩|refine⟨.inr ⟨_,rfl,.inl rfl⟩,?_⟩|refine⟨.inr ⟨_,rfl,.inr (.inr ⟨_,_,_,_,_,rfl,rfl,⟨.inl rfl,.inl rfl,.inl rfl,.inl rfl,.inl rfl,.inl rfl,.inl rfl,.inl rfl,.inl rfl,.inl rfl,.inl rfl,.inl rfl,.inl rfl,.inr ⟨rfl,rfl⟩,.inl rfl,.inl rfl,trivial⟩⟩)⟩,?_⟩)) ?_
 refine Run.pG (T':=[(3,.ptr 5 0),(9,.ptr 15 0)]) (M':=[(33,.row 1 0 [] 3),(32,_),(31,_),(30,_),(29,_),(28,_),(27,_),(26,_),(25,_),(24,_),(23,_),(22,_),(21,_),(20,_),(19,_),(18,_),(17,_),(15,_),(12,_),(13,.row 1 16 [.opq 19,.opq 20,.opq 21,.opq 22,.opq 23,.opq 24,.opq 25,.opq 26,.opq 27,.opq 28,.opq 29,.opq 30,.opq 31,.opq 32,.opq 33,nq] 27),(5,_),(0,_),(1,_),(2,_),(3,_),(4,_)]) 1 3 (AllP.mem ⟨⟨_,rfl,.inl rfl⟩,⟨_,rfl,.inl rfl⟩,trivial⟩) (AllP.mem (by repeat first|exact trivial|refine⟨.inl rfl,?_⟩|refine⟨.inr ⟨_,rfl,.inl rfl⟩,?_⟩|refine⟨.inr ⟨_,rfl,.inr (.inr ⟨_,_,_,_,_,rfl,rfl,⟨.inl rfl,.inl rfl,.inl rfl,.inl rfl,.inl rfl,.inl rfl,.inl rfl,.inl rfl,.inl rfl,.inl rfl,.inl rfl,.inl rfl,.inl rfl,.inl rfl,.inr ⟨rfl,rfl⟩,.inl rfl,trivial⟩⟩)⟩,?_⟩)) ?_
 refine Run.pG (T':=[(3,.ptr 5 0),(9,.ptr 15 0)]) (M':=[(34,.row 1 0 [] 3),(33,_),(32,_),(31,_),(30,_),(29,_),(28,_),(27,_),(26,_),(25,_),(24,_),(23,_),(22,_),(21,_),(20,_),(19,_),(18,_),(17,_),(15,_),(12,_),(13,.row 1 16 [.opq 19,.opq 20,.opq 21,.opq 22,.opq 23,.opq 24,.opq 25,.opq 26,.opq 27,.opq 28,.opq 29,.opq 30,.opq 31,.opq 32,.opq 33,.opq 34] 27),(5,_),(0,_),(1,_),(2,_),(3,_),(4,_)]) 1 3 (AllP.mem ⟨⟨_,rfl,.inl rfl⟩,⟨_,rfl,.inl rfl⟩,trivial⟩) (AllP.mem (by repeat first|exact trivial|refine⟨.inl rfl,?_⟩|refine⟨.inr ⟨_,rfl,.inl rfl⟩,?_⟩|refine⟨.inr ⟨_,rfl,.inr (.inr ⟨_,_,_,_,_,rfl,rfl,⟨.inl rfl,.inl rfl,.inl rfl,.inl rfl,.inl rfl,.inl rfl,.inl rfl,.inl rfl,.inl rfl,.inl rfl,.inl rfl,.inl rfl,.inl rfl,.inl rfl,.inl rfl,.inr ⟨rfl,rfl⟩,trivial⟩⟩)⟩,?_⟩)) ?_
 refine Run.W2 hc ?_
 conv=>whnf
 refine Run.lJ (T:=fun i=>[(3,.ptr 5 0),(9,.ptr 15 0),(10,ii ((i:Nat):Int))]) (M:=fun i=>[(17,.row 4 i ((x.m0.take i).flatMap Mrk.cells) 141),(18,.row 1 0 [] 27),(19,.row 1 0 [] 3),(20,.row 1 0 [] 3),(21,.row 1 0 [] 3),(22,.row 1 0 [] 3),(23,.row 1 0 [] 3),(24,.row 1 0 [] 3),(25,.row 1 0 [] 3),(26,.row 1 0 [] 3),(27,.row 1 0 [] 3),(28,.row 1 0 [] 3),(29,.row 1 0 [] 3),(30,.row 1 0 [] 3),(31,.row 1 0 [] 3),(32,.row 1 0 [] 3),(33,.row 1 0 [] 3),(34,.row 1 0 [] 3),(15,.cells [.opq 0,ii x.n.inp,.opq 1,.opq 2,.opq 3,.opq 17,.opq 18,ii 0,.opq 12,.opq 13] 108),(12,.row 2 x.n.N.length ((List.replicate x.n.N.length jQ).flatMap Ste.cells) 139),(13,.row 1 16 [.opq 19,.opq 20,.opq 21,.opq 22,.opq 23,.opq 24,.opq 25,.opq 26,.opq 27,.opq 28,.opq 29,.opq 30,.opq 31,.opq 32,.opq 33,.opq 34] 27),(5,.cells [.opq 0,ii x.n.inp,.opq 1] 25),(0,.rwin 8 x.n.N.length (x.n.N.flatMap Prm.vals)),(1,.rwin 4 x.n.S.length (x.n.S.flatMap Syn.vals)),(2,.rwin 10 x.rs.length (x.rs.flatMap Rul.vals)),(3,.rwin 1 x.pl.length (qB x.pl)),(4,.pin plp)]) 50 (fun _=>True) x.n.S.length ⟨⟨rfl,ltb rfl⟩,⟨rfl,ltb rfl⟩,⟨rfl,trivial⟩,trivial⟩ (by repeat first|exact trivial|refine⟨⟨rfl,by omega,Os.h _⟩,?_⟩|refine⟨⟨rfl,by omega,qE _ rfl⟩,?_⟩|refine⟨⟨rfl,by omega,pnx hcov rfl⟩,?_⟩) (lbx hLB rfl) trivial ?_ ?_
 ·intro u hu _ ih
  have ht:x.m0.take (u+1)=x.m0.take u++[mk0 x.n.S[u]]:=by
   have hl:u<x.m0.length:=by unfold Lnt.m0;rw[List.length_map];exact hu
   rw[←List.take_append_getElem hl]
   congr 1
   simp[Lnt.m0]
  refine Run.W2 hc ?_
  conv=>whnf
  rw[decide_eq_true (show((u:Nat):Int)<(x.n.S.length:Int)by omega)]
  conv=>whnf
  refine Run.pU (hc w L0 none nofun) fun l0 hl0=> ?_
  have hlin:=Lin.ofGo [0,1,2,3,4,5,6,7,8,9,10,11,12,13,14,15,16] hl0 rfl (by decide)
  apply joinA [(35,.ptr 15 0),(3,.ptr 5 0),(9,.ptr 15 0),(10,ii ((u:Nat):Int)),(39,.opq 17),(47,.slc 62 0 1 1)] [(62,.cells [ii x.n.S[u].w,ii 0,ii 0,ii 0] 141),(17,.row 4 u ((x.m0.take u).flatMap Mrk.cells) 141),(18,.row 1 0 [] 27),(19,.row 1 0 [] 3),(20,.row 1 0 [] 3),(21,.row 1 0 [] 3),(22,.row 1 0 [] 3),(23,.row 1 0 [] 3),(24,.row 1 0 [] 3),(25,.row 1 0 [] 3),(26,.row 1 0 [] 3),(27,.row 1 0 [] 3),(28,.row 1 0 [] 3),(29,.row 1 0 [] 3),(30,.row 1 0 [] 3),(31,.row 1 0 [] 3),(32,.row 1 0 [] 3),(33,.row 1 0 [] 3),(34,.row 1 0 [] 3),(15,.cells [.opq 0,ii x.n.inp,.opq 1,.opq 2,.opq 3,.opq 17,.opq 18,ii 0,.opq 12,.opq 13] 108),(12,.row 2 x.n.N.length ((List.replicate x.n.N.length jQ).flatMap Ste.cells) 139),(13,.row 1 16 [.opq 19,.opq 20,.opq 21,.opq 22,.opq 23,.opq 24,.opq 25,.opq 26,.opq 27,.opq 28,.opq 29,.opq 30,.opq 31,.opq 32,.opq 33,.opq 34] 27),(5,.cells [.opq 0,ii x.n.inp,.opq 1] 25),(0,.rwin 8 x.n.N.length (x.n.N.flatMap Prm.vals)),(1,.rwin 4 x.n.S.length (x.n.S.flatMap Syn.vals)),(2,.rwin 10 x.rs.length (x.rs.flatMap Rul.vals)),(3,.rwin 1 x.pl.length (qB x.pl)),(4,.pin plp)] 67 [13,14,15,16]
  ·intro g1
   refine Run.pE (hc w L0 none nofun) [1,2,3,4,5,6,7,8,9,10,11,12] [0] [13,14,15,16] hlin ?_
   conv=>whnf
   refine⟨by omega,?_⟩
   conv=>whnf
   rw[qG (f:=Syn.vals) (l:=x.n.S) u 2 rfl rfl rfl rfl Syn.vlen (by rw[qD]) hu (by decide) rfl]
   conv=>whnf
   refine⟨by kernel_rfl,fun l1 hl1=> ?_,.inr ⟨[(3,.ptr 5 0),(9,.ptr 15 0),(10,ii ((u:Nat):Int)),(39,.opq 17),(47,.slc 62 0 1 1)],[(62,.cells [ii x.n.S[u].w,ii 0,ii 0,ii 0] 141),(17,.row 4 u ((x.m0.take u).flatMap Mrk.cells) 141),(18,.row 1 0 [] 27),(19,.row 1 0 [] 3),(20,.row 1 0 [] 3),(21,.row 1 0 [] 3),(22,.row 1 0 [] 3),(23,.row 1 0 [] 3),(24,.row 1 0 [] 3),(25,.row 1 0 [] 3),(26,.row 1 0 [] 3),(27,.row 1 0 [] 3),(28,.row 1 0 [] 3),(29,.row 1 0 [] 3),(30,.row 1 0 [] 3),(31,.row 1 0 [] 3),(32,.row 1 0 [] 3),(33,.row 1 0 [] 3),(34,.row 1 0 [] 3),(15,.cells [.opq 0,ii x.n.inp,.opq 1,.opq 2,.opq 3,.opq 17,.opq 18,ii 0,.opq 12,.opq 13] 108),(12,.row 2 x.n.N.length ((List.replicate x.n.N.length jQ).flatMap Ste.cells) 139),(13,.row 1 16 [.opq 19,.opq 20,.opq 21,.opq 22,.opq 23,.opq 24,.opq 25,.opq 26,.opq 27,.opq 28,.opq 29,.opq 30,.opq 31,.opq 32,.opq 33,.opq 34] 27),(5,.cells [.opq 0,ii x.n.inp,.opq 1] 25),(0,.rwin 8 x.n.N.length (x.n.N.flatMap Prm.vals)),(1,.rwin 4 x.n.S.length (x.n.S.flatMap Syn.vals)),(2,.rwin 10 x.rs.length (x.rs.flatMap Rul.vals)),(3,.rwin 1 x.pl.length (qB x.pl)),(4,.pin plp)],by kernel_rfl,⟨rfl,rfl,rfl,rfl,rfl,trivial⟩,(by repeat first|exact trivial|refine⟨rfl,?_⟩),fun l1 hl1=> ?_⟩⟩
   ·exact Run.tH (g1 l1 hl1) ⟨⟨rfl,ltb rfl⟩,⟨rfl,ltb rfl⟩,⟨rfl,ltb rfl⟩,⟨rfl,trivial⟩,⟨rfl,ltb rfl⟩,⟨rfl,ltb rfl⟩,trivial⟩ (by repeat first|exact trivial|refine⟨⟨rfl,by omega,qE _ rfl⟩,?_⟩|refine⟨⟨rfl,by omega,Os.h _⟩,?_⟩|refine⟨⟨rfl,by omega,pnx hcov rfl⟩,?_⟩) (lbx hLB rfl)
   ·obtain⟨i,l2,rfl,hi,_,hl2⟩:=hl1.next [13,0] rfl rfl rfl
    have hi2:i=13∨i=0:=by simpa using hi
    rcases hi2 with rfl|rfl
    ·refine Run.append (hc w L0 none nofun) rfl rfl rfl rfl rfl rfl rfl rfl rfl rfl rfl rfl rfl rfl rfl (by decide) ⟨by omega,by omega⟩ [(18,_),(19,_),(20,_),(21,_),(22,_),(23,_),(24,_),(25,_),(26,_),(27,_),(28,_),(29,_),(30,_),(31,_),(32,_),(33,_),(34,_),(15,_),(12,_),(13,_),(5,_),(0,_),(1,_),(2,_),(3,_),(4,_)] (AllP.mem (by repeat first|exact trivial|refine⟨⟨rfl,(neb rfl)⟩,?_⟩)) ?_
     refine Run.pE (hc w L0 none nofun) [0,14,15,16] [] [] hl2 ?_
     conv=>whnf
     refine⟨by kernel_rfl,fun l3 hl3=> ?_,.inl rfl⟩
     obtain rfl:=hl3.nil
     refine Run.W2 hc ?_
     conv=>whnf
     rw[ht]at ih
     refine Run.p6 (ih trivial) (rq [(17,67),(67,17)]) ?_ ?_ ?_ ?_
     ·intro i hi j hj hne he
      have inv :∀i,i<50→rq [(17,67),(67,17)] (rq [(17,67),(67,17)] i)=i:=by decide
      exact hne (by rw[←inv i hi,he,inv j hj])
     ·exact⟨⟨rfl,ltb rfl⟩,⟨rfl,ltb rfl⟩,⟨wsx (by omega),trivial⟩,trivial⟩
     ·exact(by repeat first|exact trivial|refine⟨⟨rfl,by omega,Os.h _⟩,?_⟩|refine⟨⟨rfl,by omega,qE _ rfl⟩,?_⟩|refine⟨⟨congrArg some (show _=SObj.ren _ (.row 4 (u+1) ((x.m0.take u++[mk0 x.n.S[u]]).flatMap Mrk.cells) 141)by rw[ofx (o:=.row 4 (u+1) ((x.m0.take u++[mk0 x.n.S[u]]).flatMap Mrk.cells) 141) (qL _ _),List.flatMap_append];rfl),by omega,Os.h _⟩,?_⟩|refine⟨⟨congrArg some (ofx (o:=.row 2 x.n.N.length ((List.replicate x.n.N.length jQ).flatMap Ste.cells) 139) (zJ _ _)).symm,by omega,Os.h _⟩,?_⟩|refine⟨⟨congrArg some (jO hcov (fun i hi=>zA (qS (B:=4) rfl hi))).symm,by omega,pnx hcov rfl⟩,?_⟩)
     ·intro p hp
      have:=hLB p hp;exact⟨zA (qS (B:=4) rfl this),by omega⟩
    ·refine Run.r6 (hc w L0 none nofun) 1 _ ?_
     conv=>whnf
     exact Run.tH (g1 l2 hl2) ⟨⟨rfl,ltb rfl⟩,⟨rfl,ltb rfl⟩,⟨rfl,ltb rfl⟩,⟨rfl,trivial⟩,⟨rfl,ltb rfl⟩,⟨rfl,ltb rfl⟩,trivial⟩ (by repeat first|exact trivial|refine⟨⟨rfl,by omega,qE _ rfl⟩,?_⟩|refine⟨⟨rfl,by omega,Os.h _⟩,?_⟩|refine⟨⟨rfl,by omega,pnx hcov rfl⟩,?_⟩) (lbx hLB rfl)
  ·intro l1 hl1
   obtain⟨i,l2,rfl,hi,_,hl2⟩:=hl1.next [13] rfl rfl rfl
   obtain rfl:i=13:=by simpa using hi
   refine Run.append (hc w L0 none nofun) rfl rfl rfl rfl rfl rfl rfl rfl rfl rfl rfl rfl rfl rfl rfl (by decide) ⟨by omega,by omega⟩ [(18,_),(19,_),(20,_),(21,_),(22,_),(23,_),(24,_),(25,_),(26,_),(27,_),(28,_),(29,_),(30,_),(31,_),(32,_),(33,_),(34,_),(15,_),(12,_),(13,_),(5,_),(0,_),(1,_),(2,_),(3,_),(4,_)] (AllP.mem (by repeat first|exact trivial|refine⟨⟨rfl,(neb rfl)⟩,?_⟩)) ?_
   refine Run.pE (hc w L0 none nofun) [14,15,16] [] [] hl2 ?_
   conv=>whnf
   refine⟨by kernel_rfl,fun l3 hl3=> ?_,.inl rfl⟩
   obtain rfl:=hl3.nil
   refine Run.W2 hc ?_
   conv=>whnf
   rw[ht]at ih
   refine Run.p6 (ih trivial) (rq [(17,67),(67,17)]) ?_ ?_ ?_ ?_
   ·intro i hi j hj hne he
    have inv :∀i,i<50→rq [(17,67),(67,17)] (rq [(17,67),(67,17)] i)=i:=by decide
    exact hne (by rw[←inv i hi,he,inv j hj])
   ·exact⟨⟨rfl,ltb rfl⟩,⟨rfl,ltb rfl⟩,⟨wsx (by omega),trivial⟩,trivial⟩
   ·exact(by repeat first|exact trivial|refine⟨⟨rfl,by omega,Os.h _⟩,?_⟩|refine⟨⟨rfl,by omega,qE _ rfl⟩,?_⟩|refine⟨⟨congrArg some (show _=SObj.ren _ (.row 4 (u+1) ((x.m0.take u++[mk0 x.n.S[u]]).flatMap Mrk.cells) 141)by rw[ofx (o:=.row 4 (u+1) ((x.m0.take u++[mk0 x.n.S[u]]).flatMap Mrk.cells) 141) (qL _ _),List.flatMap_append];rfl),by omega,Os.h _⟩,?_⟩|refine⟨⟨congrArg some (ofx (o:=.row 2 x.n.N.length ((List.replicate x.n.N.length jQ).flatMap Ste.cells) 139) (zJ _ _)).symm,by omega,Os.h _⟩,?_⟩|refine⟨⟨congrArg some (jO hcov (fun i hi=>zA (qS (B:=4) rfl hi))).symm,by omega,pnx hcov rfl⟩,?_⟩)
   ·intro p hp
    have:=hLB p hp;exact⟨zA (qS (B:=4) rfl this),by omega⟩
 ·intro _
  refine Run.W2 hc ?_
  conv=>whnf
  rw[decide_eq_false (show ¬((x.n.S.length:Nat):Int)<(x.n.S.length:Int)by omega)]
  conv=>whnf
  have hm0l:x.m0.length=x.n.S.length:=by simp[Lnt.m0]
  have hsm:=rsums_spec 0 x.n.inp x.n.N x.n.S x.rs x.pl x.m0 hx1 hx2 hx3 hx4 hm0l hx.p1 hx.to0 hx.to1
  rw[hm0l]at hsm
  rw[show x.m0.take x.n.S.length=x.m0 from List.take_of_length_le (by omega)]
  refine Run.r7 (T':=[(9,.ptr 15 0),(51,.ptr 15 0),(52,.ptr 15 0)]) (M':=[(17,.row 4 x.n.S.length (x.m0.flatMap Mrk.cells) 141),(18,.row 1 0 [] 27),(19,.row 1 0 [] 3),(20,.row 1 0 [] 3),(21,.row 1 0 [] 3),(22,.row 1 0 [] 3),(23,.row 1 0 [] 3),(24,.row 1 0 [] 3),(25,.row 1 0 [] 3),(26,.row 1 0 [] 3),(27,.row 1 0 [] 3),(28,.row 1 0 [] 3),(29,.row 1 0 [] 3),(30,.row 1 0 [] 3),(31,.row 1 0 [] 3),(32,.row 1 0 [] 3),(33,.row 1 0 [] 3),(34,.row 1 0 [] 3),(15,.cells [.opq 0,ii x.n.inp,.opq 1,.opq 2,.opq 3,.opq 17,.opq 18,ii 0,.opq 12,.opq 13] 108),(12,.row 2 x.n.N.length ((List.replicate x.n.N.length jQ).flatMap Ste.cells) 139),(13,.row 1 16 [.opq 19,.opq 20,.opq 21,.opq 22,.opq 23,.opq 24,.opq 25,.opq 26,.opq 27,.opq 28,.opq 29,.opq 30,.opq 31,.opq 32,.opq 33,.opq 34] 27),(5,.cells [.opq 0,ii x.n.inp,.opq 1] 25),(0,.rwin 8 x.n.N.length (x.n.N.flatMap Prm.vals)),(1,.rwin 4 x.n.S.length (x.n.S.flatMap Syn.vals)),(2,.rwin 10 x.rs.length (x.rs.flatMap Rul.vals)),(3,.rwin 1 x.pl.length (qB x.pl)),(4,.pin plp)]) 100 ⟨⟨rfl,ltb rfl⟩,⟨rfl,ltb rfl⟩,⟨rfl,ltb rfl⟩,trivial⟩ (by repeat first|exact trivial|refine⟨⟨rfl,by omega,Os.h _⟩,?_⟩|refine⟨⟨rfl,by omega,qE _ rfl⟩,?_⟩|refine⟨⟨rfl,by omega,pnx hcov rfl⟩,?_⟩) (lbx hLB rfl) ?_
  refine Run.pO (vs:=[.ptr 0 0]) (caps:=[]) (caps2:=[]) hsm (ent _ _ Try.func72 (by kernel_rfl) rfl) rfl rfl rfl rfl rfl rfl [.ptr 15 0] rfl (fun q=>if q=0 then 15 else if q=1 then 0 else if q=2 then 1 else if q=3 then 12 else if q=4 then 2 else if q=5 then 3 else if q=6 then 17 else if q=7 then 18 else if q=8 then 13 else q+50) rfl (fun q hq=>by have inv :∀q,q<41→(fun q=>if q=0 then 15 else if q=1 then 0 else if q=2 then 1 else if q=3 then 12 else if q=4 then 2 else if q=5 then 3 else if q=6 then 17 else if q=7 then 18 else if q=8 then 13 else q+50) q<100:=(by decide);exact inv q hq) (fun q hq j hj hne=>by have inj :∀i,i<41 → ∀j,j<41→i≠j→(fun q=>if q=0 then 15 else if q=1 then 0 else if q=2 then 1 else if q=3 then 12 else if q=4 then 2 else if q=5 then 3 else if q=6 then 17 else if q=7 then 18 else if q=8 then 13 else q+50) i≠(fun q=>if q=0 then 15 else if q=1 then 0 else if q=2 then 1 else if q=3 then 12 else if q=4 then 2 else if q=5 then 3 else if q=6 then 17 else if q=7 then 18 else if q=8 then 13 else q+50) j:=(by decide);exact inj q hq j hj hne) (by decide) (by repeat first|exact trivial|refine⟨⟨by omega,trivial,⟨_,rfl,Conv.refl _⟩,.inl rfl,fun _=>by simp⟩,?_⟩|refine⟨⟨by omega,trivial,⟨_,rfl,Conv.row (by decide) (kD _)⟩,.inl rfl,fun _=>by simp⟩,?_⟩|refine⟨⟨by omega,by simp[z9,SObj.sc,SV.scs,SV.sc],⟨_,rfl,Conv.refl _⟩,.inr (by simp),fun h=>by cases h⟩,?_⟩) (fun q hq=>by simp at hq;subst hq;exact⟨by omega,_,rfl⟩) (.opq 100) ((100,.row 1 x.rs.length (zO 101 x.rs.length) 27)::(101,.row 1 (cN x.rs.length x.n.N.length 0) ((rsL x.n.S x.pl x.m0 x.rs.length x.n.N.length 0).map fun x=>ii x) 3)::(102,.row 1 (cN x.rs.length x.n.N.length 1) ((rsL x.n.S x.pl x.m0 x.rs.length x.n.N.length 1).map fun x=>ii x) 3)::(103,.row 1 (cN x.rs.length x.n.N.length 2) ((rsL x.n.S x.pl x.m0 x.rs.length x.n.N.length 2).map fun x=>ii x) 3)::(104,.row 1 (cN x.rs.length x.n.N.length 3) ((rsL x.n.S x.pl x.m0 x.rs.length x.n.N.length 3).map fun x=>ii x) 3)::(105,.row 1 (cN x.rs.length x.n.N.length 4) ((rsL x.n.S x.pl x.m0 x.rs.length x.n.N.length 4).map fun x=>ii x) 3)::(106,.row 1 (cN x.rs.length x.n.N.length 5) ((rsL x.n.S x.pl x.m0 x.rs.length x.n.N.length 5).map fun x=>ii x) 3)::(107,.row 1 (cN x.rs.length x.n.N.length 6) ((rsL x.n.S x.pl x.m0 x.rs.length x.n.N.length 6).map fun x=>ii x) 3)::(108,.row 1 (cN x.rs.length x.n.N.length 7) ((rsL x.n.S x.pl x.m0 x.rs.length x.n.N.length 7).map fun x=>ii x) 3)::(109,.row 1 (cN x.rs.length x.n.N.length 8) ((rsL x.n.S x.pl x.m0 x.rs.length x.n.N.length 8).map fun x=>ii x) 3)::(110,.row 1 (cN x.rs.length x.n.N.length 9) ((rsL x.n.S x.pl x.m0 x.rs.length x.n.N.length 9).map fun x=>ii x) 3)::(111,.row 1 (cN x.rs.length x.n.N.length 10) ((rsL x.n.S x.pl x.m0 x.rs.length x.n.N.length 10).map fun x=>ii x) 3)::(112,.row 1 (cN x.rs.length x.n.N.length 11) ((rsL x.n.S x.pl x.m0 x.rs.length x.n.N.length 11).map fun x=>ii x) 3)::(113,.row 1 (cN x.rs.length x.n.N.length 12) ((rsL x.n.S x.pl x.m0 x.rs.length x.n.N.length 12).map fun x=>ii x) 3)::(114,.row 1 (cN x.rs.length x.n.N.length 13) ((rsL x.n.S x.pl x.m0 x.rs.length x.n.N.length 13).map fun x=>ii x) 3)::(115,.row 1 (cN x.rs.length x.n.N.length 14) ((rsL x.n.S x.pl x.m0 x.rs.length x.n.N.length 14).map fun x=>ii x) 3)::(116,.row 1 (cN x.rs.length x.n.N.length 15) ((rsL x.n.S x.pl x.m0 x.rs.length x.n.N.length 15).map fun x=>ii x) 3)::(15,.cells [.opq 0,ii x.n.inp,.opq 1,.opq 2,.opq 3,.opq 17,.opq 18,ii 0,.opq 12,.opq 13] 108)::(17,.row 4 x.n.S.length (x.m0.flatMap Mrk.cells) 141)::(19,.row 1 0 [] 3)::(20,.row 1 0 [] 3)::(21,.row 1 0 [] 3)::(22,.row 1 0 [] 3)::(23,.row 1 0 [] 3)::(24,.row 1 0 [] 3)::(25,.row 1 0 [] 3)::(26,.row 1 0 [] 3)::(27,.row 1 0 [] 3)::(28,.row 1 0 [] 3)::(29,.row 1 0 [] 3)::(30,.row 1 0 [] 3)::(31,.row 1 0 [] 3)::(32,.row 1 0 [] 3)::(33,.row 1 0 [] 3)::(34,.row 1 0 [] 3)::(12,.row 2 x.n.N.length ((List.replicate x.n.N.length jQ).flatMap Ste.cells) 139)::(13,.row 1 16 [.opq 19,.opq 20,.opq 21,.opq 22,.opq 23,.opq 24,.opq 25,.opq 26,.opq 27,.opq 28,.opq 29,.opq 30,.opq 31,.opq 32,.opq 33,.opq 34] 27)::(0,.rwin 8 x.n.N.length (x.n.N.flatMap Prm.vals))::(1,.rwin 4 x.n.S.length (x.n.S.flatMap Syn.vals))::(2,.rwin 10 x.rs.length (x.rs.flatMap Rul.vals))::(3,.rwin 1 x.pl.length (qB x.pl))::(4,.pin plp)::[]) 117 rfl rfl
   ⟨.inr ⟨41,_,rfl,rfl,(yV (b:=42) (b':=101) (fun j hj=>by have inv :∀j,j<16→shR (fun q=>if q=0 then 15 else if q=1 then 0 else if q=2 then 1 else if q=3 then 12 else if q=4 then 2 else if q=5 then 3 else if q=6 then 17 else if q=7 then 18 else if q=8 then 13 else q+50) 41 100 (42+j)=101+j:=(by decide);exact inv j (by omega))).symm,rfl⟩,.inr ⟨42,_,rfl,rfl,(ofx (o:=.row _ _ (List.map _ _) _) (qK _ _)).symm,rfl⟩,.inr ⟨43,_,rfl,rfl,(ofx (o:=.row _ _ (List.map _ _) _) (qK _ _)).symm,rfl⟩,.inr ⟨44,_,rfl,rfl,(ofx (o:=.row _ _ (List.map _ _) _) (qK _ _)).symm,rfl⟩,.inr ⟨45,_,rfl,rfl,(ofx (o:=.row _ _ (List.map _ _) _) (qK _ _)).symm,rfl⟩,.inr ⟨46,_,rfl,rfl,(ofx (o:=.row _ _ (List.map _ _) _) (qK _ _)).symm,rfl⟩,.inr ⟨47,_,rfl,rfl,(ofx (o:=.row _ _ (List.map _ _) _) (qK _ _)).symm,rfl⟩,.inr ⟨48,_,rfl,rfl,(ofx (o:=.row _ _ (List.map _ _) _) (qK _ _)).symm,rfl⟩,.inr ⟨49,_,rfl,rfl,(ofx (o:=.row _ _ (List.map _ _) _) (qK _ _)).symm,rfl⟩,.inr ⟨50,_,rfl,rfl,(ofx (o:=.row _ _ (List.map _ _) _) (qK _ _)).symm,rfl⟩,.inr ⟨51,_,rfl,rfl,(ofx (o:=.row _ _ (List.map _ _) _) (qK _ _)).symm,rfl⟩,.inr ⟨52,_,rfl,rfl,(ofx (o:=.row _ _ (List.map _ _) _) (qK _ _)).symm,rfl⟩,.inr ⟨53,_,rfl,rfl,(ofx (o:=.row _ _ (List.map _ _) _) (qK _ _)).symm,rfl⟩,.inr ⟨54,_,rfl,rfl,(ofx (o:=.row _ _ (List.map _ _) _) (qK _ _)).symm,rfl⟩,.inr ⟨55,_,rfl,rfl,(ofx (o:=.row _ _ (List.map _ _) _) (qK _ _)).symm,rfl⟩,.inr ⟨56,_,rfl,rfl,(ofx (o:=.row _ _ (List.map _ _) _) (qK _ _)).symm,rfl⟩,.inr ⟨57,_,rfl,rfl,(ofx (o:=.row _ _ (List.map _ _) _) (qK _ _)).symm,rfl⟩,.inr ⟨0,_,rfl,rfl,rfl,rfl⟩,.inl ⟨rfl,fun q hq=>by simp at hq;subst hq;exact(show 15≠17 by decide)⟩,.inl ⟨rfl,fun q hq=>by simp at hq;subst hq;exact(show 15≠19 by decide)⟩,.inl ⟨rfl,fun q hq=>by simp at hq;subst hq;exact(show 15≠20 by decide)⟩,.inl ⟨rfl,fun q hq=>by simp at hq;subst hq;exact(show 15≠21 by decide)⟩,.inl ⟨rfl,fun q hq=>by simp at hq;subst hq;exact(show 15≠22 by decide)⟩,.inl ⟨rfl,fun q hq=>by simp at hq;subst hq;exact(show 15≠23 by decide)⟩,.inl ⟨rfl,fun q hq=>by simp at hq;subst hq;exact(show 15≠24 by decide)⟩,.inl ⟨rfl,fun q hq=>by simp at hq;subst hq;exact(show 15≠25 by decide)⟩,.inl ⟨rfl,fun q hq=>by simp at hq;subst hq;exact(show 15≠26 by decide)⟩,.inl ⟨rfl,fun q hq=>by simp at hq;subst hq;exact(show 15≠27 by decide)⟩,.inl ⟨rfl,fun q hq=>by simp at hq;subst hq;exact(show 15≠28 by decide)⟩,.inl ⟨rfl,fun q hq=>by simp at hq;subst hq;exact(show 15≠29 by decide)⟩,.inl ⟨rfl,fun q hq=>by simp at hq;subst hq;exact(show 15≠30 by decide)⟩,.inl ⟨rfl,fun q hq=>by simp at hq;subst hq;exact(show 15≠31 by decide)⟩,.inl ⟨rfl,fun q hq=>by simp at hq;subst hq;exact(show 15≠32 by decide)⟩,.inl ⟨rfl,fun q hq=>by simp at hq;subst hq;exact(show 15≠33 by decide)⟩,.inl ⟨rfl,fun q hq=>by simp at hq;subst hq;exact(show 15≠34 by decide)⟩,.inl ⟨rfl,fun q hq=>by simp at hq;subst hq;exact(show 15≠12 by decide)⟩,.inl ⟨rfl,fun q hq=>by simp at hq;subst hq;exact(show 15≠13 by decide)⟩,.inl ⟨rfl,fun q hq=>by simp at hq;subst hq;exact(show 15≠0 by decide)⟩,.inl ⟨rfl,fun q hq=>by simp at hq;subst hq;exact(show 15≠1 by decide)⟩,.inl ⟨rfl,fun q hq=>by simp at hq;subst hq;exact(show 15≠2 by decide)⟩,.inl ⟨rfl,fun q hq=>by simp at hq;subst hq;exact(show 15≠3 by decide)⟩,.inl ⟨rfl,fun q hq=>by simp at hq;subst hq;exact(show 15≠4 by decide)⟩,trivial⟩ ?_
  refine Run.W2 hc ?_
  conv=>whnf
  rw[←hRR]
  refine SpecR.pS (fun q=>if q<4 then q else if q=4 then 15 else if q=5 then 17 else if q=6 then 100 else if q=7 then 12 else if q=8 then 13 else if q<25 then q+10 else q+76) (fun i hi=>if_pos hi) ?_ (Widens.refl _ _) hLB (by decide) hcov rfl rfl ⟨(show 4<41 by decide),trivial,trivial⟩ (by repeat first|exact trivial|refine⟨⟨rfl,by omega,qE _ rfl⟩,?_⟩|refine⟨⟨rfl,by omega,Os.h _⟩,?_⟩|refine⟨⟨congrArg some (ofx (o:=.row _ _ (List.flatMap Mrk.cells _) _) (qL _ _)).symm,by omega,Os.h _⟩,?_⟩|refine⟨⟨congrArg some (yV (r:=(fun q=>if q<4 then q else if q=4 then 15 else if q=5 then 17 else if q=6 then 100 else if q=7 then 12 else if q=8 then 13 else if q<25 then q+10 else q+76)) (b:=25) (b':=101) (fun j hj=>by have inv :∀j,j<16→(fun q=>if q<4 then q else if q=4 then 15 else if q=5 then 17 else if q=6 then 100 else if q=7 then 12 else if q=8 then 13 else if q<25 then q+10 else q+76) (25+j)=101+j:=(by decide);exact inv j (by omega))).symm,by omega,qQ (by omega)⟩,?_⟩|refine⟨⟨congrArg some (ofx (o:=.row _ _ (List.flatMap Ste.cells _) _) (zJ _ _)).symm,by omega,Os.h _⟩,?_⟩|refine⟨⟨congrArg some (ofx (o:=.row _ _ (List.map _ _) _) (qK _ _)).symm,by omega,Os.h _⟩,?_⟩)
  intro i hi j hj hne
  have inj :∀i,i<41 → ∀j,j<41→i≠j→(fun q=>if q<4 then q else if q=4 then 15 else if q=5 then 17 else if q=6 then 100 else if q=7 then 12 else if q=8 then 13 else if q<25 then q+10 else q+76) i≠(fun q=>if q<4 then q else if q=4 then 15 else if q=5 then 17 else if q=6 then 100 else if q=7 then 12 else if q=8 then 13 else if q<25 then q+10 else q+76) j:=by decide
  exact inj i hi j hj hne
set_option maxHeartbeats 8000000
theorem rNet_spec (tk inp:Int)(S:List Syn)(m:List Mrk)(hS:S.length≤8192)(hm:m.length=S.length) :
  BSpec Try.prog 57 [.ptr 0 0] [(0,.cells (z9 (ii tk) inp) 108),(2,.rwin 4 S.length (S.flatMap Syn.vals)),(6,.rwin 4 S.length (m.flatMap Mrk.vals))] 41 [0] (.agg [.opq 1,ii inp,.opq 41]) [(41,.row 4 S.length ((jT S m).flatMap Syn.cells) 55),(0,.cells (z9 (ii tk) inp) 108)] 42:=by
 have hc :∀w L' rd,(∀p,rd=some p→p∈L')→Cx.ok ⟨Try.prog,tab,[],57,Try.f57,[],w,L',rd⟩:=fun w L' rd h=>⟨qI,trivial,Try.func57,mixed,h⟩
 refine BSpec.start (tab:=tab) (pf:=[]) (cuts:=[]) Try.func57 rfl ⟨ltb rfl,trivial⟩ rfl fun w L0 plp hL' hLB hcov=>Run.r6 (hc w L0 none nofun) 100 _ ?_
 conv=>whnf
 refine Run.appendC (hc w L0 none nofun) (j:=44) (e:=4) (te:=55) rfl rfl rfl rfl rfl rfl rfl (fun ρ w1 hW=>hW.rowsAt rfl) (one_syn S) rfl rfl rfl rfl (by decide) ⟨by omega,by omega⟩ [(42,.cells [nq,ii 0,nq] 25),(43,.cells [.opq 1,ii inp,.opq 2] 25),(0,.cells (z9 (ii tk) inp) 108),(2,.rwin 4 S.length (S.flatMap Syn.vals)),(6,.rwin 4 S.length (m.flatMap Mrk.vals)),(41,.pin plp)] (by repeat first|exact trivial|refine⟨⟨rfl,(neb rfl)⟩,?_⟩) ?_
 refine Run.W2 hc ?_
 conv=>whnf
 refine Run.lJ (T:=fun i=>[(0,.ptr 0 0),(2,.ptr 42 0),(3,.ptr 43 0),(4,ii ((i:Nat):Int))]) (M:=fun i=>[(45,.row 4 S.length ((nowY S m i).flatMap Syn.cells) 55),(42,.cells [nq,ii 0,nq] 25),(43,.cells [.opq 1,ii inp,.opq 45] 25),(0,.cells (z9 (ii tk) inp) 108),(2,.rwin 4 S.length (S.flatMap Syn.vals)),(6,.rwin 4 S.length (m.flatMap Mrk.vals)),(41,.pin plp)]) 46 (fun _=>True) S.length ⟨⟨rfl,ltb rfl⟩,⟨rfl,ltb rfl⟩,⟨rfl,ltb rfl⟩,⟨rfl,trivial⟩,trivial⟩ ⟨⟨by rw[show nowY S m 0=S from rfl,syns_v];rfl,by omega,Os.h _⟩,⟨rfl,by omega,qE _ rfl⟩,⟨rfl,by omega,qE _ rfl⟩,⟨rfl,by omega,qE _ rfl⟩,⟨rfl,by omega,Os.h _⟩,⟨rfl,by omega,Os.h _⟩,⟨rfl,by omega,pnx hcov rfl⟩,trivial⟩ (lbx hLB rfl) trivial ?_ ?_
 ·intro u hu _ ih
  refine Run.W2 hc ?_
  conv=>whnf
  rw[decide_eq_true (show((u:Nat):Int)<(S.length:Int)by omega)]
  conv=>whnf
  have e:=s0 S m u
  have hl:=gA S m u
  obtain⟨Y,hY⟩ :∃Y,nowY S m u=Y:=⟨_,rfl⟩
  rw[hY]at e hl ⊢
  unfold nowSt at e
  have huY:u<Y.length:=by omega
  have hum:u<m.length:=by omega
  have hyd:Y.getD u qY=Y[u]:=by simp[List.getD_eq_getElem?_getD,huY]
  have hmd:m.getD u qM=m[u]:=by simp[List.getD_eq_getElem?_getD,hum]
  rw[hyd,hmd]at e
  rw[e]at ih
  refine Run.draw (hc w L0 none nofun) 14 ?_
  rw[show qC 0 14=qC 0 9++(qC 9 2++(qC 11 1++qC 12 2))from rfl]
  simp only[qP]
  conv=>whnf
  refine⟨by omega,?_⟩
  conv=>whnf
  rw[qG (f:=Mrk.vals) (l:=m) u 0 rfl rfl rfl rfl Mrk.vlen (by rw[qD]) hum (by decide) rfl]
  conv=>whnf
  refine⟨by omega,?_⟩
  conv=>whnf
  rw[yY (f:=Syn.cells) (l:=Y) u 2 { Y[u]with w:=m[u].w } rfl rfl rfl rfl rfl (fun _=>rfl) (by rw[qD]) huY (by decide) rfl rfl rfl]
  conv=>whnf
  refine⟨by kernel_rfl,?_⟩
  refine Run.W2 hc ?_
  conv=>whnf
  exact Run.tH (ih trivial) ⟨⟨rfl,ltb rfl⟩,⟨rfl,ltb rfl⟩,⟨rfl,ltb rfl⟩,⟨wsx (by omega),trivial⟩,trivial⟩ (by repeat first|exact trivial|refine⟨⟨rfl,by omega,Os.h _⟩,?_⟩|refine⟨⟨rfl,by omega,qE _ rfl⟩,?_⟩|refine⟨⟨rfl,by omega,pnx hcov rfl⟩,?_⟩) (lbx hLB rfl)
 ·intro _
  refine Run.W2 hc ?_
  conv=>whnf
  rw[decide_eq_false (show ¬((S.length:Nat):Int)<(S.length:Int)by omega),show nowY S m S.length=jT S m by unfold jT;rw[hm]]
  conv=>whnf
  refine SpecR.pS (rq [(41,45),(45,41)]) (fun i hi=>zA (qS (B:=41) rfl hi)) ?_ (Widens.refl _ _) hLB (by decide) hcov rfl rfl ⟨(show 1<42 by decide),trivial,ltb rfl,trivial⟩ ⟨⟨congrArg some (ofx (o:=.row _ _ (List.flatMap Syn.cells _) _) (jC _ _)).symm,by omega,Os.h _⟩,⟨rfl,by omega,qE _ rfl⟩,trivial⟩
  intro i hi j hj hne
  have inj :∀i,i<42 → ∀j,j<42→i≠j→rq [(41,45),(45,41)] i≠rq [(41,45),(45,41)] j:=by decide
  exact inj i hi j hj hne
set_option maxHeartbeats 4000000
theorem rnew_bad (vN vS:Value)(n:Net)(vR:Value)(rs:List Rul)(vP:Value)(pl:List Int)(w:World)(h:qZ n rs pl≠0)(hn:x4 w vN vS n)(hr:RowsAt w vR 10 rs.length (rs.flatMap Rul.vals))(hpl:RowsAt w vP 1 pl.length (qB pl)) :
  Calls Try.prog 38 #[xC vN vS n,vR,vP] w fun e w'=>e = .returned (.tuple #[.pointer none,.int .i64 (qZ n rs pl)])∧Ext w w':=by
 have hc :∀L,Cx.ok ⟨Try.prog,tab,[],38,Try.f38,[],w,L,none⟩:=fun L=>⟨qI,trivial,Try.func38,mixed,fun _ h=>by cases h⟩
 obtain⟨h1,h2⟩:=hn
 obtain⟨N,inp,S⟩:=n
 simp only at h1 h2
 have hrows:AllP (fun x:Value×Nat×Nat×List Value=>RowsAt w x.1 x.2.1 x.2.2.1 x.2.2.2) [(vN,8,N.length,N.flatMap Prm.vals),(vS,4,S.length,S.flatMap Syn.vals),(vR,10,rs.length,rs.flatMap Rul.vals),(vP,1,pl.length,qB pl)]:=⟨h1,h2,hr,hpl,trivial⟩
 refine Run.pH Try.func38 rfl _ hrows [.agg [.opq 0,ii inp,.opq 1],.opq 2,.opq 3] [xC vN vS ⟨N,inp,S⟩,vR,vP] [(0,.rwin 8 N.length (N.flatMap Prm.vals)),(1,.rwin 4 S.length (S.flatMap Syn.vals)),(2,.rwin 10 rs.length (rs.flatMap Rul.vals)),(3,.rwin 1 pl.length (qB pl))] 4 rfl rfl
  (by show [Value.agg [(SV.opq 0).conc _,.int .i64 inp,(SV.opq 1).conc _].toArray,(SV.opq 2).conc _,(SV.opq 3).conc _]=_;rw[qN hrows (k:=0) rfl,qN hrows (k:=1) rfl,qN hrows (k:=2) rfl,qN hrows (k:=3) rfl];rfl) (by simp[SV.scs,SV.sc]) rfl (Run.r6 (hc _) 1000 _ ?_)
 conv=>whnf
 obtain⟨ck,hck⟩ :∃ck,qZ ⟨N,inp,S⟩ rs pl=ck:=⟨_,rfl⟩
 refine Run.pB (g:=16) (vs:=[.agg [.opq 0,ii inp,.opq 1],.opq 2,.opq 3]) (caps:=[]) (ii ck) (fun ρ w1 hW=>by
  have:=gN ((SV.opq 0).conc ρ) ((SV.opq 1).conc ρ) ⟨N,inp,S⟩ ((SV.opq 2).conc ρ) rs ((SV.opq 3).conc ρ) pl w1 ⟨hW.rowsAt rfl,hW.rowsAt rfl⟩ (hW.rowsAt rfl) (hW.rowsAt rfl)
  rw[hck]at this
  exact this) (ent _ _ Try.func16 (by kernel_rfl) rfl) rfl rfl rfl rfl rfl rfl rfl trivial ?_
 refine Run.W1 (hc _) ?_
 conv=>whnf
 rw[show(ck != 0)=true by rw[←hck];simpa using h]
 conv=>whnf
 exact⟨fun ρ w' hW _=>⟨by rw[hck];rfl,hW.toExt⟩⟩
set_option maxHeartbeats 16000000
def kP (p:List Prz):Nat→Nat
 | 0=>0
 |i+1=>kP p i+nPz i (pzR p i)
theorem uD (p:List Prz) :∀i,pzR p i=p.drop (kP p i)
 | 0=>rfl
 |i+1=>by
  show(pzR p i).drop (nPz i (pzR p i))=p.drop (kP p i+nPz i (pzR p i))
  rw[←List.drop_drop,←uD p i]
theorem kP_le (p:List Prz) :∀i,kP p i≤p.length
 | 0=>Nat.zero_le _
 |i+1=>by
  have h:=nPz_le i (pzR p i)
  have:=kP_le p i
  rw[uD p i,List.length_drop]at h
  show kP p i+nPz i (pzR p i)≤_
  rw[uD p i]
  omega
theorem kP_lt {R:Nat}{p:List Prz}{i j:Nat}(h:j<nPz i (pzR p i)) :∃h:kP p i+j<p.length,p[kP p i+j].tick=i∧rwY R (pzR p i) (j+1)=(rwY R (pzR p i) j).set p[kP p i+j].id.toNat p[kP p i+j].val:=by
 obtain⟨h1,h2⟩:=nPz_lt h
 have h3:=rwY_succ (R:=R) h1
 have hl:kP p i+j<p.length:=by rw[uD p i,List.length_drop]at h1;omega
 have e:(pzR p i)[j]=p[kP p i+j]:=by
  have :∀(L:List Prz) (hL:j<L.length),L=p.drop (kP p i)→L[j]=p[kP p i+j]:=fun L hL e=>by subst e;simp
  exact this _ h1 (uD p i)
 rw[e]at h2 h3
 exact⟨hl,h2,h3⟩
theorem kP_end {p:List Prz}{i:Nat}(h:kP p i+nPz i (pzR p i)<p.length):p[kP p i+nPz i (pzR p i)].tick≠i:=by
 have h1:nPz i (pzR p i)<(pzR p i).length:=by
  have :∀L:List Prz,L=p.drop (kP p i)→kP p i+nPz i (pzR p i)<p.length→nPz i (pzR p i)<L.length:=fun L e hh=>by subst e;rw[List.length_drop];omega
  exact this _ (uD p i) h
 have h2:=nPz_end h1
 have e:(pzR p i)[nPz i (pzR p i)]=p[kP p i+nPz i (pzR p i)]:=by
  have :∀(q:Nat) (L:List Prz) (hL:q<L.length) (hq:kP p i+q<p.length),L=p.drop (kP p i)→L[q]=p[kP p i+q]:=fun q L hL hq e=>by subst e;simp
  exact this _ _ h1 h (uD p i)
 rwa [e]at h2
def trNs (x:Lnt)(l:List Evt)(p:List Prz):Nat→Nat→List Int
 | 0=>fun _=>[]
 |i+1=>snN (trNs x l p i) (trIn l i) (lOut x (trS x l p i))
def InS (S:Nat→Prop)(M:List (Nat×SObj)):Prop:=AllP (fun x=>S x.1∧x.2.sc S) M
def rtH (x:Lnt)(s:Lst):List (Nat×SObj):=((40,.cells [.opq 0,ii x.n.inp,.opq 1,.opq 2,.opq 3,.opq 41,.opq 42,ii s.tick,.opq 43,.opq 44] 108)::(44,.row 1 16 [.opq 45,.opq 46,.opq 47,.opq 48,.opq 49,.opq 50,.opq 51,.opq 52,.opq 53,.opq 54,.opq 55,.opq 56,.opq 57,.opq 58,.opq 59,.opq 60] 27)::[])
def rtS (sn:Nat→List Int):List (Nat×SObj):=((45,.row 1 (sn 0).length ((sn 0).map fun x=>ii x) 3)::(46,.row 1 (sn 1).length ((sn 1).map fun x=>ii x) 3)::(47,.row 1 (sn 2).length ((sn 2).map fun x=>ii x) 3)::(48,.row 1 (sn 3).length ((sn 3).map fun x=>ii x) 3)::(49,.row 1 (sn 4).length ((sn 4).map fun x=>ii x) 3)::(50,.row 1 (sn 5).length ((sn 5).map fun x=>ii x) 3)::(51,.row 1 (sn 6).length ((sn 6).map fun x=>ii x) 3)::(52,.row 1 (sn 7).length ((sn 7).map fun x=>ii x) 3)::(53,.row 1 (sn 8).length ((sn 8).map fun x=>ii x) 3)::(54,.row 1 (sn 9).length ((sn 9).map fun x=>ii x) 3)::(55,.row 1 (sn 10).length ((sn 10).map fun x=>ii x) 3)::(56,.row 1 (sn 11).length ((sn 11).map fun x=>ii x) 3)::(57,.row 1 (sn 12).length ((sn 12).map fun x=>ii x) 3)::(58,.row 1 (sn 13).length ((sn 13).map fun x=>ii x) 3)::(59,.row 1 (sn 14).length ((sn 14).map fun x=>ii x) 3)::(60,.row 1 (sn 15).length ((sn 15).map fun x=>ii x) 3)::[])
def rtB (x:Lnt)(s:Lst):List (Nat×SObj):=((41,.row 4 x.n.S.length (s.m.flatMap Mrk.cells) 141)::(42,.row 1 x.rs.length (zO 61 x.rs.length) 27)::(43,.row 2 x.n.N.length (s.st.flatMap Ste.cells) 139)::[])
def rtC (x:Lnt):List (Nat×SObj):=((61,.row 1 (cN x.rs.length x.n.N.length 0) ((tt0 x 0).map fun x=>ii x) 3)::(62,.row 1 (cN x.rs.length x.n.N.length 1) ((tt0 x 1).map fun x=>ii x) 3)::(63,.row 1 (cN x.rs.length x.n.N.length 2) ((tt0 x 2).map fun x=>ii x) 3)::(64,.row 1 (cN x.rs.length x.n.N.length 3) ((tt0 x 3).map fun x=>ii x) 3)::(65,.row 1 (cN x.rs.length x.n.N.length 4) ((tt0 x 4).map fun x=>ii x) 3)::(66,.row 1 (cN x.rs.length x.n.N.length 5) ((tt0 x 5).map fun x=>ii x) 3)::(67,.row 1 (cN x.rs.length x.n.N.length 6) ((tt0 x 6).map fun x=>ii x) 3)::(68,.row 1 (cN x.rs.length x.n.N.length 7) ((tt0 x 7).map fun x=>ii x) 3)::(69,.row 1 (cN x.rs.length x.n.N.length 8) ((tt0 x 8).map fun x=>ii x) 3)::(70,.row 1 (cN x.rs.length x.n.N.length 9) ((tt0 x 9).map fun x=>ii x) 3)::(71,.row 1 (cN x.rs.length x.n.N.length 10) ((tt0 x 10).map fun x=>ii x) 3)::(72,.row 1 (cN x.rs.length x.n.N.length 11) ((tt0 x 11).map fun x=>ii x) 3)::(73,.row 1 (cN x.rs.length x.n.N.length 12) ((tt0 x 12).map fun x=>ii x) 3)::(74,.row 1 (cN x.rs.length x.n.N.length 13) ((tt0 x 13).map fun x=>ii x) 3)::(75,.row 1 (cN x.rs.length x.n.N.length 14) ((tt0 x 14).map fun x=>ii x) 3)::(76,.row 1 (cN x.rs.length x.n.N.length 15) ((tt0 x 15).map fun x=>ii x) 3)::[])
def rtA (x:Lnt)(l:List Evt)(p:List Prz):List (Nat×SObj):=((0,.rwin 8 x.n.N.length (x.n.N.flatMap Prm.vals))::(1,.rwin 4 x.n.S.length (x.n.S.flatMap Syn.vals))::(2,.rwin 10 x.rs.length (x.rs.flatMap Rul.vals))::(3,.rwin 1 x.pl.length (qB x.pl))::(4,.rwin 2 l.length (l.flatMap Evt.vals))::(5,.rwin 3 p.length (p.flatMap Prz.vals))::(8,.cells [.v (.slice none 0 0),ii 0,.v (.slice none 0 0)] 25)::[])
theorem rtH_in {S:Nat→Prop}(hS :∀i,i<5∨40≤i∧i<77→S i)(x:Lnt)(s:Lst):InS S (rtH x s):=⟨⟨hS 40 (by decide),⟨hS 0 (by decide),trivial,hS 1 (by decide),hS 2 (by decide),hS 3 (by decide),hS 41 (by decide),hS 42 (by decide),trivial,hS 43 (by decide),hS 44 (by decide),trivial⟩⟩,⟨hS 44 (by decide),⟨hS 45 (by decide),hS 46 (by decide),hS 47 (by decide),hS 48 (by decide),hS 49 (by decide),hS 50 (by decide),hS 51 (by decide),hS 52 (by decide),hS 53 (by decide),hS 54 (by decide),hS 55 (by decide),hS 56 (by decide),hS 57 (by decide),hS 58 (by decide),hS 59 (by decide),hS 60 (by decide),trivial⟩⟩,trivial⟩
theorem rtS_in {S:Nat→Prop}(hS :∀i,40≤i∧i<77→S i)(sn:Nat→List Int):InS S (rtS sn):=⟨⟨hS 45 (by decide),qK _ _⟩,⟨hS 46 (by decide),qK _ _⟩,⟨hS 47 (by decide),qK _ _⟩,⟨hS 48 (by decide),qK _ _⟩,⟨hS 49 (by decide),qK _ _⟩,⟨hS 50 (by decide),qK _ _⟩,⟨hS 51 (by decide),qK _ _⟩,⟨hS 52 (by decide),qK _ _⟩,⟨hS 53 (by decide),qK _ _⟩,⟨hS 54 (by decide),qK _ _⟩,⟨hS 55 (by decide),qK _ _⟩,⟨hS 56 (by decide),qK _ _⟩,⟨hS 57 (by decide),qK _ _⟩,⟨hS 58 (by decide),qK _ _⟩,⟨hS 59 (by decide),qK _ _⟩,⟨hS 60 (by decide),qK _ _⟩,trivial⟩
theorem ttab_in {S:Nat→Prop}(m:Nat)(hS :∀i,i<m→S (61+i)):SV.scs S (zO 61 m):=(uK _ _).2 fun a ha=>by
 obtain⟨r,hr,rfl⟩:=List.mem_map.1 ha
 exact hS r (List.mem_range.1 hr)
theorem rtB_in {S:Nat→Prop}(x:Lnt)(hR:x.rs.length≤16)(hS :∀i,(41≤i∧i≤43)∨(61≤i∧i<77)→S i)(s:Lst):InS S (rtB x s):=by
 have htab:SV.scs S (zO 61 x.rs.length):=ttab_in _ fun i hi=>hS _ (by omega)
 exact⟨⟨hS 41 (by decide),qL _ _⟩,⟨hS 42 (by decide),htab⟩,⟨hS 43 (by decide),zJ _ _⟩,trivial⟩
theorem rtC_in {S:Nat→Prop}(hS :∀i,(41≤i∧i≤43)∨(61≤i∧i<77)→S i)(x:Lnt):InS S (rtC x):=⟨⟨hS 61 (by decide),qK _ _⟩,⟨hS 62 (by decide),qK _ _⟩,⟨hS 63 (by decide),qK _ _⟩,⟨hS 64 (by decide),qK _ _⟩,⟨hS 65 (by decide),qK _ _⟩,⟨hS 66 (by decide),qK _ _⟩,⟨hS 67 (by decide),qK _ _⟩,⟨hS 68 (by decide),qK _ _⟩,⟨hS 69 (by decide),qK _ _⟩,⟨hS 70 (by decide),qK _ _⟩,⟨hS 71 (by decide),qK _ _⟩,⟨hS 72 (by decide),qK _ _⟩,⟨hS 73 (by decide),qK _ _⟩,⟨hS 74 (by decide),qK _ _⟩,⟨hS 75 (by decide),qK _ _⟩,⟨hS 76 (by decide),qK _ _⟩,trivial⟩
theorem rtA_in {S:Nat→Prop}(hS :∀i,i<6∨i=8→S i)(x:Lnt)(l:List Evt)(p:List Prz):InS S (rtA x l p):=⟨⟨hS 0 (by decide),trivial⟩,⟨hS 1 (by decide),trivial⟩,⟨hS 2 (by decide),trivial⟩,⟨hS 3 (by decide),trivial⟩,⟨hS 4 (by decide),trivial⟩,⟨hS 5 (by decide),trivial⟩,⟨hS 8 (by decide),⟨trivial,trivial,trivial,trivial⟩⟩,trivial⟩
def rtK (x:Lnt)(l:List Evt)(p:List Prz)(plp:List (Nat×Nat×Nat×(Option Addr×Nat×Nat))):List (Nat×SObj):=(6,.pin plp)::(rtA x l p++rtC x)
theorem rtK_in {x:Lnt}{l:List Evt}{p:List Prz}{plp:List (Nat×Nat×Nat×(Option Addr×Nat×Nat))}(hcov:yC 6 plp){S:Nat→Prop}(h1 :∀i,i<9→S i)(h3 :∀i,61≤i∧i<77∨41≤i∧i≤43→S i):InS S (rtK x l p plp):=
 ⟨⟨h1 6 (by decide),fun p hp=>h1 _ (Nat.lt_of_lt_of_le (hcov.1 p hp) (by decide))⟩,xQ (rtA_in (fun i hi=>h1 i (by omega)) x l p) (rtC_in (fun i hi=>h3 i (by omega)) x)⟩
def rtL (x:Lnt)(l:List Evt)(p:List Prz)(plp:List (Nat×Nat×Nat×(Option Addr×Nat×Nat)))(s:Lst)(sn:Nat→List Int):List (Nat×SObj):=rtH x s++(rtS sn++(rtB x s++rtK x l p plp))
theorem rtL_in {x:Lnt}{l:List Evt}{p:List Prz}{plp:List (Nat×Nat×Nat×(Option Addr×Nat×Nat))}(hcov:yC 6 plp)(hR:x.rs.length≤16)(s:Lst)(sn:Nat→List Int){n:Nat}(hn:77≤n):In n (rtL x l p plp s sn):=
 xQ (rtH_in (S:=(· < n)) (fun i hi=>by omega) x s) (xQ (rtS_in (S:=(· < n)) (fun i hi=>by omega) sn) (xQ (rtB_in (S:=(· < n)) x hR (fun i hi=>by omega) s) (rtK_in (S:=(· < n)) hcov (fun i hi=>by omega) (fun i hi=>by omega))))
theorem rtL_inS {x:Lnt}{l:List Evt}{p:List Prz}{plp:List (Nat×Nat×Nat×(Option Addr×Nat×Nat))}(hcov:yC 6 plp)(hR:x.rs.length≤16)(s:Lst)(sn:Nat→List Int){S:Nat→Prop}(hS :∀i,i<77→S i):InS S (rtL x l p plp s sn):=
 tN (fun _ h=>⟨hS _ h.1,SObj.sc_mono hS h.2⟩) (rtL_in hcov hR s sn (Nat.le_refl _))
theorem Run.trimT2 {c:Cx}{T T':List (Nat×SV)}{M Ch Kp:List (Nat×SObj)}{n n':Nat}{D:List Deferred}{todo:List Item}{R:Ending→World→Prop}(r:Nat→Nat)(h:Run c ⟨T',Ch++Kp,n',D,todo⟩ R)(hinj :∀i,i<n' → ∀j,j<n'→i≠j→r i≠r j)
  (hT:T'.map (fun x=>Sx.look T x.1)=T'.map fun x=>some (x.2.ren r)) (hTs:(T'.all fun x=>scb n' x.2)=true) (hCh:AllP (fun x=>Sx.look M (r x.1)=some (x.2.ren r)) Ch) (hChs:In n' Ch)
  (S:Nat→Prop) (hS :∀i,S i→r i=i∧i<n') (hKp:Kp.map (fun x=>Sx.look M x.1)=Kp.map fun x=>some x.2) (hKps:InS S Kp) (hL :∀p∈c.L,r p.1=p.1∧p.1<n'):Run c ⟨T,M,n,D,todo⟩ R:=by
 have hK:=kK hKp
 refine Run.pN r h hinj hT hTs (xQ hCh (uE fun x hx=> ?_)) (xQ hChs (uE fun x hx=> ?_)) hL
 ·obtain⟨h1,h2⟩:=AllP.mem hKps x hx
  rw[(hS _ h1).1,oren_fix (fun i hi=>(hS i hi).1) h2]
  exact hK.mem x hx
 ·obtain⟨h1,h2⟩:=AllP.mem hKps x hx
  exact⟨(hS _ h1).2,SObj.sc_mono (fun i hi=>(hS i hi).2) h2⟩
theorem keepNe {M M':List (Nat×SObj)}{j:Nat}(h:M'.map (fun x=>Sx.look M x.1)=M'.map fun x=>some x.2)(hn:In j M') :∀q∈M',Sx.look M q.1=some q.2∧q.1≠j:=fun q hq=>⟨(kK h).mem q hq,Nat.ne_of_lt (AllP.mem hn q hq).1⟩
theorem keepNil {M M':List (Nat×SObj)}{p n:Nat}{kd:Nat→SObj}(h:M'.map (fun x=>Sx.look M x.1)=M'.map fun x=>some x.2):AllP (fun x=>(∃k,k<p∧x=(n+k,kd k)) ∨ ∃o,Sx.look M x.1=some o∧NilOs n p kd o x.2) M':=uE fun x hx=>.inr ⟨_,(kK h).mem x hx,.inl rfl⟩
def nmT (q:Nat):Nat:=if 8<q∧q<41 then q+36 else rq [(0,40),(1,0),(2,1),(3,43),(4,2),(5,3),(6,41),(7,42),(8,44),(41,78),(42,79)] q
theorem nmT_lt {q n:Nat}(h:q<43)(hn:80≤n):nmT q<n:=by have inv :∀q,q<43→nmT q<80:=(by decide);have:=inv q h;omega
theorem nmT_inj :∀i∈[0,1,2,3,4,5,6,7,8,41,42,9,10,11,12,13,14,15,16,17,18,19,20,21,22,23,24,25,26,27,28,29,30,31,32,33,34,35,36,37,38,39,40],∀j∈[0,1,2,3,4,5,6,7,8,41,42,9,10,11,12,13,14,15,16,17,18,19,20,21,22,23,24,25,26,27,28,29,30,31,32,33,34,35,36,37,38,39,40],i≠j→nmT i≠nmT j:=by decide
theorem nmT_tab {j R:Nat}(hj:j<R)(hR:R≤16):nmT (25+j)=61+j:=by unfold nmT;rw[if_pos (by omega)];omega
theorem gX (x:Lnt)(l:List Evt)(p:List Prz)(K:Int)(v:SV)(M1:List (Nat×SObj))(n1:Nat)
  (hbad:yQ x.n x.rs x.pl l p K≠0→v = .tup [nq,.agg [nq,ii 0,nq],ii (yQ x.n x.rs x.pl l p K)]∧M1=[]∧n1=6)
  (hok:yQ x.n x.rs x.pl l p K=0 → ∃N:Nat,K=(N:Int)∧N*x.n.N.length≤65536∧v = .tup [.opq 6,.agg [.opq 0,ii x.n.inp,.opq 7],ii 0] ∧
   M1=[(6,.row 2 (trO x l p N).length ((trO x l p N).flatMap Evt.cells) 62),(7,.row 4 x.n.S.length ((jT x.n.S (trS x l p N).m).flatMap Syn.cells) 55)]∧n1=8) :
  BSpec Try.prog 21 [.agg [.opq 0,ii x.n.inp,.opq 1],.opq 2,.opq 3,.opq 4,.opq 5,ii K] (trainM x l p) 6 [] v M1 n1:=by
 have hc :∀w L' rd,(∀p,rd=some p→p∈L')→Cx.ok ⟨Try.prog,tab,[],21,Try.f21,[],w,L',rd⟩:=fun w L' rd h=>⟨qI,trivial,Try.func21,mixed,h⟩
 refine BSpec.start (tab:=tab) (pf:=[]) (cuts:=[]) Try.func21 rfl ⟨⟨(show 0<6 by decide),trivial,ltb rfl,trivial⟩,(show 2<6 by decide),(show 3<6 by decide),(show 4<6 by decide),(show 5<6 by decide),trivial,trivial⟩ rfl fun w L0 plp hL hLB hcov=>Run.r6 (hc w L0 none nofun) 100 _ ?_
 generalize hRR:SpecR _ _ _ _ _ _=RR
 have bad :∀e:Int,yQ x.n x.rs x.pl l p K=e→e≠0 → ∀{M:List (Nat×SObj)} {n:Nat},Sx.look M 6=some (.pin plp)→RetOk ⟨Try.prog,tab,[],21,Try.f21,[],w,L0,none⟩ M n (.tup [nq,.agg [nq,ii 0,nq],ii e]) RR:=fun e he h0 M n hM=>by
  subst he
  obtain⟨h1,h2,h3⟩:=hbad h0
  rw[←hRR,h1,h2,h3]
  exact SpecR.intro 6 (Nat.le_refl _) hLB (Nat.le_refl _) hcov hM rfl ⟨trivial,⟨trivial,trivial,trivial,trivial⟩,trivial,trivial⟩ trivial
 clear hbad
 conv=>whnf
 by_cases h1:qZ x.n x.rs x.pl=0
 case neg=>
  have ht:yQ x.n x.rs x.pl l p K=qZ x.n x.rs x.pl:=by unfold yQ;rw[if_pos h1]
  refine Run.pB (g:=38) (vs:=[.agg [.opq 0,ii x.n.inp,.opq 1],.opq 2,.opq 3]) (caps:=[]) (.tup [.v (.pointer none),ii (qZ x.n x.rs x.pl)]) (fun ρ w1 hW=>rnew_bad _ _ x.n _ x.rs _ x.pl w1 h1 ⟨hW.rowsAt (i:=0) rfl,hW.rowsAt (i:=1) rfl⟩ (hW.rowsAt (i:=2) rfl) (hW.rowsAt (i:=3) rfl)) (ent _ _ Try.func38 (by kernel_rfl) rfl) rfl rfl rfl rfl rfl rfl rfl ⟨trivial,trivial,trivial⟩ ?_
  refine Run.W2 hc ?_
  conv=>whnf
  rw[show(qZ x.n x.rs x.pl != 0)=true by simpa using h1]
  conv=>whnf
  exact bad _ ht h1 rfl
 have hx:NetOK x:=uY h1
 have hR:=hx.rl
 have hpl2:=hx.lpl
 have hx1:=hx.N2
 have hx2:=hx.S1
 refine Run.r8 (n':=40) (T':=[(26,.agg [.opq 0,ii x.n.inp,.opq 1]),(27,.opq 2),(28,.opq 3),(1,.opq 2),(3,.opq 4),(4,.opq 5),(5,ii K),(6,.ptr 7 0),(13,.ptr 8 0)]) (M':=((7,.cells [.opq 0,ii x.n.inp,.opq 1] 25)::(8,.cells [nq,ii 0,nq] 25)::(0,.rwin 8 x.n.N.length (x.n.N.flatMap Prm.vals))::(1,.rwin 4 x.n.S.length (x.n.S.flatMap Syn.vals))::(2,.rwin 10 x.rs.length (x.rs.flatMap Rul.vals))::(3,.rwin 1 x.pl.length (qB x.pl))::(4,.rwin 2 l.length (l.flatMap Evt.vals))::(5,.rwin 3 p.length (p.flatMap Prz.vals))::(6,.pin plp)::[])) ?_ rfl rfl rfl (by repeat first|exact trivial|refine⟨⟨by omega,Os.h _⟩,?_⟩|refine⟨⟨by omega,zU _ rfl⟩,?_⟩|refine⟨⟨by omega,pnx hcov rfl⟩,?_⟩) (lbx hLB rfl)
 refine Run.pQ (rnew_ok x h1) (ent _ _ Try.func38 (by kernel_rfl) rfl) rfl rfl rfl rfl rfl rfl rfl [.agg [.opq 0,ii x.n.inp,.opq 1],.opq 2,.opq 3] rfl id rfl (fun q hq=>by show q<40;omega) _ rfl (fun q _ j _ hne=>hne) rfl (by repeat first|exact trivial|refine⟨⟨by omega,Os.h _⟩,?_⟩) rfl (by repeat first|exact trivial|refine⟨⟨_,rfl,Conv.refl _⟩,?_⟩) (fun q hq=>by cases hq)
  (.tup [.ptr 40 0,ii 0]) (rtH x x.new++(rtS (fun _=>[])++(rtB x x.new++rtC x))) ((7,.cells [.opq 0,ii x.n.inp,.opq 1] 25)::(6,.pin plp)::rtA x l p) 77 rfl rfl ⟨⟨4,_,rfl,rfl,rfl,rfl⟩,⟨8,_,rfl,rfl,rfl,rfl⟩,⟨9,_,rfl,rfl,rfl,rfl⟩,⟨10,_,rfl,rfl,rfl,rfl⟩,⟨11,_,rfl,rfl,rfl,rfl⟩,⟨12,_,rfl,rfl,rfl,rfl⟩,⟨13,_,rfl,rfl,rfl,rfl⟩,⟨14,_,rfl,rfl,rfl,rfl⟩,⟨15,_,rfl,rfl,rfl,rfl⟩,⟨16,_,rfl,rfl,rfl,rfl⟩,⟨17,_,rfl,rfl,rfl,rfl⟩,⟨18,_,rfl,rfl,rfl,rfl⟩,⟨19,_,rfl,rfl,rfl,rfl⟩,⟨20,_,rfl,rfl,rfl,rfl⟩,⟨21,_,rfl,rfl,rfl,rfl⟩,⟨22,_,rfl,rfl,rfl,rfl⟩,⟨23,_,rfl,rfl,rfl,rfl⟩,⟨24,_,rfl,rfl,rfl,rfl⟩,⟨5,_,rfl,rfl,(ofx (o:=.row 4 x.n.S.length (x.new.m.flatMap Mrk.cells) 141) (qL _ _)).symm,rfl⟩,⟨6,_,rfl,rfl,(yV (b:=25) (b':=61) fun j hj=>by rw[shR_ge (by omega)];show 40+(25+j-4)=61+j;omega).symm,rfl⟩,⟨7,_,rfl,rfl,(ofx (o:=.row 2 x.n.N.length (x.new.st.flatMap Ste.cells) 139) (zJ _ _)).symm,rfl⟩,⟨25,_,rfl,rfl,(ofx (o:=.row 1 (cN x.rs.length x.n.N.length 0) ((tt0 x 0).map fun x=>ii x) 3) (qK _ _)).symm,rfl⟩,⟨26,_,rfl,rfl,(ofx (o:=.row 1 (cN x.rs.length x.n.N.length 1) ((tt0 x 1).map fun x=>ii x) 3) (qK _ _)).symm,rfl⟩,⟨27,_,rfl,rfl,(ofx (o:=.row 1 (cN x.rs.length x.n.N.length 2) ((tt0 x 2).map fun x=>ii x) 3) (qK _ _)).symm,rfl⟩,⟨28,_,rfl,rfl,(ofx (o:=.row 1 (cN x.rs.length x.n.N.length 3) ((tt0 x 3).map fun x=>ii x) 3) (qK _ _)).symm,rfl⟩,⟨29,_,rfl,rfl,(ofx (o:=.row 1 (cN x.rs.length x.n.N.length 4) ((tt0 x 4).map fun x=>ii x) 3) (qK _ _)).symm,rfl⟩,⟨30,_,rfl,rfl,(ofx (o:=.row 1 (cN x.rs.length x.n.N.length 5) ((tt0 x 5).map fun x=>ii x) 3) (qK _ _)).symm,rfl⟩,⟨31,_,rfl,rfl,(ofx (o:=.row 1 (cN x.rs.length x.n.N.length 6) ((tt0 x 6).map fun x=>ii x) 3) (qK _ _)).symm,rfl⟩,⟨32,_,rfl,rfl,(ofx (o:=.row 1 (cN x.rs.length x.n.N.length 7) ((tt0 x 7).map fun x=>ii x) 3) (qK _ _)).symm,rfl⟩,⟨33,_,rfl,rfl,(ofx (o:=.row 1 (cN x.rs.length x.n.N.length 8) ((tt0 x 8).map fun x=>ii x) 3) (qK _ _)).symm,rfl⟩,⟨34,_,rfl,rfl,(ofx (o:=.row 1 (cN x.rs.length x.n.N.length 9) ((tt0 x 9).map fun x=>ii x) 3) (qK _ _)).symm,rfl⟩,⟨35,_,rfl,rfl,(ofx (o:=.row 1 (cN x.rs.length x.n.N.length 10) ((tt0 x 10).map fun x=>ii x) 3) (qK _ _)).symm,rfl⟩,⟨36,_,rfl,rfl,(ofx (o:=.row 1 (cN x.rs.length x.n.N.length 11) ((tt0 x 11).map fun x=>ii x) 3) (qK _ _)).symm,rfl⟩,⟨37,_,rfl,rfl,(ofx (o:=.row 1 (cN x.rs.length x.n.N.length 12) ((tt0 x 12).map fun x=>ii x) 3) (qK _ _)).symm,rfl⟩,⟨38,_,rfl,rfl,(ofx (o:=.row 1 (cN x.rs.length x.n.N.length 13) ((tt0 x 13).map fun x=>ii x) 3) (qK _ _)).symm,rfl⟩,⟨39,_,rfl,rfl,(ofx (o:=.row 1 (cN x.rs.length x.n.N.length 14) ((tt0 x 14).map fun x=>ii x) 3) (qK _ _)).symm,rfl⟩,⟨40,_,rfl,rfl,(ofx (o:=.row 1 (cN x.rs.length x.n.N.length 15) ((tt0 x 15).map fun x=>ii x) 3) (qK _ _)).symm,rfl⟩,trivial⟩ rfl rfl ?_
 refine Run.r6 (hc w L0 none nofun) 18 _ ?_
 conv=>whnf
 refine Run.pJ (T':=[(38,.opq 78),(1,.opq 2),(3,.opq 4),(4,.opq 5),(5,ii K),(6,.ptr 7 0),(13,.ptr 8 0),(15,.ptr 40 0)]) (M':=((7,.cells [.opq 0,ii x.n.inp,.opq 1] 25)::rtL x l p plp x.new (fun _=>[]))) 77 8 1 [ii 0,ii 0,ii 0,ii 1,ii 0,ii 0,ii 0,ii 0] 60 rfl rfl (by decide) (AllP.mem ⟨.inr ⟨rfl,rfl⟩,.inl rfl,.inl rfl,.inl rfl,.inl rfl,.inl rfl,.inl rfl,.inl rfl,trivial⟩) (keepNe rfl ⟨⟨by omega,zU _ rfl⟩,rtL_in hcov hR _ _ (Nat.le_refl _)⟩) ?_
 refine Run.W2 hc ?_
 conv=>whnf
 obtain⟨pc,hpc⟩ :∃pc,zS ⟨[qW],x.n.inp,[]⟩ l K 10000=pc:=⟨_,rfl⟩
 have hrn:=rrun_spec x.n.inp l K
 rw[hpc]at hrn
 refine Run.pQ hrn (ent _ _ Try.func54 (by kernel_rfl) rfl) rfl rfl rfl rfl rfl rfl rfl [.agg [.opq 78,ii x.n.inp,nq],.opq 4,ii K] rfl (rq [(0,78),(1,4)]) rfl (fun q hq=>by have inv :∀q,q<2→rq [(0,78),(1,4)] q<79:=(by decide);exact inv q hq) _ rfl (fun q hq j hj hne=>by have inj :∀q∈[0,1],∀j∈[0,1],q≠j→rq [(0,78),(1,4)] q≠rq [(0,78),(1,4)] j:=(by decide);exact inj q hq j hj hne) rfl
  ⟨⟨by omega,Os.h _⟩,⟨by omega,Os.h _⟩,trivial⟩ rfl ⟨⟨_,rfl,Conv.row (by decide) rfl⟩,⟨_,rfl,Conv.refl _⟩,trivial⟩ (fun q hq=>by cases hq) (.tup [nq,ii pc]) [] ((7,.cells [.opq 0,ii x.n.inp,.opq 1] 25)::rtL x l p plp x.new (fun _=>[])) 79 rfl rfl trivial rfl rfl ?_
 refine Run.W2 hc ?_
 conv=>whnf
 cases e1:pc==0
 case false=>
  have e1':pc≠0:=by simpa using e1
  conv=>whnf
  rw[show(pc != 0)=true by simpa using e1']
  conv=>whnf
  exact bad pc (by unfold yQ;rw[if_neg (by simpa using h1),hpc,if_pos e1']) e1' rfl
 have e1':pc=0:=by simpa using e1
 subst e1'
 conv=>whnf
 obtain⟨zc,hzc⟩ :∃zc,jP (x.rs.length:Int) p=zc:=⟨_,rfl⟩
 refine Run.pB (g:=55) (vs:=[.opq 2,.opq 5]) (caps:=[]) (ii zc) (fun ρ w1 hW=>by
  have:=rprizes_run ((SV.opq 2).conc ρ) x.rs ((SV.opq 5).conc ρ) p w1 (hW.rowsAt rfl) (hW.rowsAt rfl)
  rw[hzc]at this
  exact this) (ent _ _ Try.func55 (by kernel_rfl) rfl) rfl rfl rfl rfl rfl rfl rfl trivial ?_
 have ht:yQ x.n x.rs x.pl l p K=zc:=by unfold yQ;rw[if_neg (by simpa using h1),if_neg (by rw[hpc];simp),hzc]
 refine Run.W2 hc ?_
 conv=>whnf
 cases e2:zc != 0
 case true=>
  conv=>whnf
  exact bad zc ht (by simpa using e2) rfl
 have e2':zc=0:=by simpa using e2
 subst e2'
 clear bad
 obtain⟨N,hKN,hN,hv,hM1,hn1⟩:=hok ht
 subst hKN hv hM1 hn1
 clear hok
 have hpz:=pzs_rule hzc ⟨by omega,by omega⟩
 have hll:l.length≤65536:=by
  unfold zS at hpc
  split at hpc
  ·rename_i h1;exact absurd hpc h1
  split at hpc
  ·cases hpc
  unfold j6 at hpc
  split at hpc
  ·cases hpc
  ·omega
 have hpl:p.length≤65536:=by
  unfold jP at hzc
  split at hzc
  ·cases hzc
  ·omega
 have hK2:N≤10000:=by
  unfold zS at hpc
  split at hpc
  ·rename_i h1;exact absurd hpc h1
  split at hpc
  ·cases hpc
  rename_i h2
  have:=wi_iff.1 (show wi (N:Int) 0 10000=true by simpa using h2)
  omega
 conv=>whnf
 have hL77 :∀p∈L0,p.1<77:=fun p hp=>by have:=hLB p hp;omega
 refine Run.r8 (n':=77) (T':=[(1,.opq 2),(3,.opq 4),(4,.opq 5),(5,ii ((N:Nat):Int)),(13,.ptr 8 0),(15,.ptr 40 0),(17,nq),(18,ii 0),(19,ii 0),(20,ii 0)]) (M':=rtL x l p plp x.new (fun _=>[])) ?_ rfl rfl rfl (rtL_in hcov hR _ _ (Nat.le_refl _)) hL77
 refine Run.nils (T':=[(1,.opq 2),(3,.opq 4),(4,.opq 5),(5,ii ((N:Nat):Int)),(13,.ptr 8 0),(15,.ptr 40 0),(17,.opq 77),(18,ii ((kE l 0:Nat):Int)),(19,ii ((kP p 0:Nat):Int)),(20,ii ((0:Nat):Int))]) (M':=(77,.row 2 0 [] 62)::rtL x l p plp x.new (fun _=>[])) 1 (fun _=>.row 2 0 [] 62) (fun _ _=>.inl ⟨_,_,rfl⟩) (by repeat first|exact trivial|refine⟨⟨_,rfl,.inl rfl⟩,?_⟩|refine⟨⟨_,rfl,.inr (.inl ⟨rfl,0,by decide,rfl⟩)⟩,?_⟩) ⟨.inl ⟨0,by decide,rfl⟩,keepNil rfl⟩ ?_
 have hInL :∀(O:List Evt) (s:Lst) (sn:Nat→List Int) n,78≤n→In n ((77,.row 2 O.length (O.flatMap Evt.cells) 62)::rtL x l p plp s sn):=fun O s sn n hn=>⟨⟨by omega,Os.h _⟩,rtL_in hcov hR _ _ (by omega)⟩
 refine Run.pR (T:=fun i=>[(1,.opq 2),(3,.opq 4),(4,.opq 5),(5,ii ((N:Nat):Int)),(13,.ptr 8 0),(15,.ptr 40 0),(17,.opq 77),(18,ii ((kE l i:Nat):Int)),(19,ii ((kP p i:Nat):Int)),(20,ii ((i:Nat):Int))]) (M:=fun i=>(77,.row 2 (trO x l p i).length ((trO x l p i).flatMap Evt.cells) 62)::rtL x l p plp (trS x l p i) (trNs x l p i)) 78 (fun i=>SnOK (trS x l p i) (trNs x l p i)) N rfl rfl rfl (hInL _ _ _ 78 (by decide)) (lbx hLB rfl) (SnOK.start x) ?_ ?_
 ·intro i hi hJ ih
  obtain⟨X,hX⟩ :∃X,evR l i=X:=⟨_,rfl⟩
  obtain⟨Y,hY⟩ :∃Y,pzR p i=Y:=⟨_,rfl⟩
  obtain⟨O,hO⟩ :∃O,trO x l p i=O:=⟨_,rfl⟩
  obtain⟨s,hs⟩ :∃s,trS x l p i=s:=⟨_,rfl⟩
  obtain⟨sn,hsn⟩ :∃sn,trNs x l p i=sn:=⟨_,rfl⟩
  have hkE:=kE_le l (i+1)
  have hkP:=kP_le p (i+1)
  have hkE1:kE l (i+1)=kE l i+nAt i X:=by subst hX;rfl
  have hkP1:kP p (i+1)=kP p i+nPz i Y:=by subst hY;rfl
  have hEl :∀j,j<nAt i X → ∃h:kE l i+j<l.length,l[kE l i+j].tick=i∧q9 X (j+1)=q9 X j++[l[kE l i+j].id]:=fun j hj=>by subst hX;exact kE_lt hj
  have hEe :∀h:kE l i+nAt i X<l.length,l[kE l i+nAt i X].tick≠i:=fun h=>by subst hX;exact kE_end h
  have hPl :∀j,j<nPz i Y → ∃h:kP p i+j<p.length,p[kP p i+j].tick=i∧rwY x.rs.length Y (j+1)=(rwY x.rs.length Y j).set p[kP p i+j].id.toNat p[kP p i+j].val:=fun j hj=>by subst hY;exact kP_lt hj
  have hPe :∀h:kP p i+nPz i Y<p.length,p[kP p i+nPz i Y].tick≠i:=fun h=>by subst hY;exact kP_end h
  have hXl:nAt i X≤X.length:=nAt_le _ _
  have hst:s.tick=(i:Int):=by rw[←hs];exact gF x l p i (by omega)
  have hinv:LInv x s:=by rw[←hs];exact tM hx l p i (by omega)
  rw[hs,hsn]at hJ
  rw[hO,hs,hsn]
  refine Run.W2 hc ?_
  conv=>whnf
  rw[decide_eq_true (show((i:Nat):Int)<(N:Int)by omega)]
  conv=>whnf
  refine Run.nils (T':=[(1,.opq 2),(3,.opq 4),(4,.opq 5),(5,ii ((N:Nat):Int)),(13,.ptr 8 0),(15,.ptr 40 0),(17,.opq 77),(18,ii ((kE l i+0:Nat):Int)),(19,ii ((kP p i:Nat):Int)),(20,ii ((i:Nat):Int)),(21,.opq 78)]) (M':=(78,.row 1 (q9 X 0).length ((q9 X 0).map fun x=>ii x) 3)::(77,.row 2 O.length (O.flatMap Evt.cells) 62)::rtL x l p plp s sn) 1 (fun _=>.row 1 0 [] 3) (fun _ _=>.inl ⟨_,_,rfl⟩) (by repeat first|exact trivial|refine⟨⟨_,rfl,.inl rfl⟩,?_⟩|refine⟨⟨_,rfl,.inr (.inl ⟨rfl,0,by decide,rfl⟩)⟩,?_⟩) ⟨.inl ⟨0,by decide,rfl⟩,keepNil rfl⟩ ?_
  have hInA :∀j,In 79 ((78,.row 1 (q9 X j).length ((q9 X j).map fun x=>ii x) 3)::(77,.row 2 O.length (O.flatMap Evt.cells) 62)::rtL x l p plp s sn):=fun j=>⟨⟨by omega,Os.h _⟩,hInL _ _ _ 79 (by decide)⟩
  refine Run.pD (T:=fun j=>[(1,.opq 2),(3,.opq 4),(4,.opq 5),(5,ii ((N:Nat):Int)),(13,.ptr 8 0),(15,.ptr 40 0),(17,.opq 77),(18,ii ((kE l i+j:Nat):Int)),(19,ii ((kP p i:Nat):Int)),(20,ii ((i:Nat):Int)),(21,.opq 78)]) (M:=fun j=>(78,.row 1 (q9 X j).length ((q9 X j).map fun x=>ii x) 3)::(77,.row 2 O.length (O.flatMap Evt.cells) 62)::rtL x l p plp s sn) (fun _=>True) (nAt i X) trivial ?_ ?_
  ·intro j hj _ ih2
   obtain⟨hj1,hj2,hj3⟩:=hEl j hj
   have hsj:IntKind.i64.wrap (((kE l i+j:Nat):Int)+1)=((kE l i+(j+1):Nat):Int):=zC (by omega)
   have hil:=kS (show j≤X.length by omega)
   refine Run.W2 hc ?_
   conv=>whnf
   rw[decide_eq_true (show((kE l i+j:Nat):Int)<(l.length:Int)by omega)]
   conv=>whnf
   refine⟨by omega,?_⟩
   conv=>whnf
   rw[qG (f:=Evt.vals) (l:=l) (kE l i+j) 0 rfl rfl rfl rfl Evt.vlen (by rw[qD]) hj1 (by decide) rfl]
   conv=>whnf
   rw[hj2,show(((i:Nat):Int)==((i:Nat):Int))=true by simp]
   conv=>whnf
   refine⟨by omega,?_⟩
   conv=>whnf
   rw[qG (f:=Evt.vals) (l:=l) (kE l i+j) 1 rfl rfl rfl rfl Evt.vlen (by rw[qD]) hj1 (by decide) rfl]
   conv=>whnf
   refine Run.append (hc w L0 none nofun) rfl rfl rfl rfl rfl rfl rfl rfl rfl rfl rfl rfl rfl rfl rfl (by decide) ⟨by omega,by omega⟩ ((77,.row 2 O.length (O.flatMap Evt.cells) 62)::rtL x l p plp s sn) (keepNe rfl (hInL _ _ _ 78 (by decide))) ?_
   refine Run.W2 hc ?_
   conv=>whnf
   refine Run.trimT2 (T':=[(1,.opq 2),(3,.opq 4),(4,.opq 5),(5,ii ((N:Nat):Int)),(13,.ptr 8 0),(15,.ptr 40 0),(17,.opq 77),(18,ii ((kE l i+(j+1):Nat):Int)),(19,ii ((kP p i:Nat):Int)),(20,ii ((i:Nat):Int)),(21,.opq 78)]) (Ch:=[(78,.row 1 (q9 X (j+1)).length ((q9 X (j+1)).map fun x=>ii x) 3)]) (Kp:=(77,.row 2 O.length (O.flatMap Evt.cells) 62)::rtL x l p plp s sn) (n':=79) (rq [(78,80),(80,78)]) (ih2 trivial) (by
    have inv :∀i,i<79→rq [(78,80),(80,78)] (rq [(78,80),(80,78)] i)=i:=by decide
    exact fun i hi j hj hne he=>hne (by rw[←inv i hi,he,inv j hj])) (by rw[hsj];rfl) rfl
    ⟨by show Sx.look _ _=some (SObj.ren _ (.row 1 (q9 X (j+1)).length ((q9 X (j+1)).map fun x=>ii x) 3));rw[ofx (o:=.row _ _ (List.map _ _) _) (qK _ _),hj3,List.length_append,List.map_append];rfl,trivial⟩ ⟨⟨by omega,Os.h _⟩,trivial⟩
    (· < 78) (fun i hi=>⟨zA (qS (B:=78) rfl hi),Nat.lt_succ_of_lt hi⟩) rfl (hInL _ _ _ 78 (by decide)) (fun p hp=>by have:=hLB p hp;exact⟨zA (qS (B:=78) rfl (by omega)),by omega⟩)
  ·intro _
   apply vT [(1,.opq 2),(3,.opq 4),(4,.opq 5),(5,ii ((N:Nat):Int)),(13,.ptr 8 0),(15,.ptr 40 0),(17,.opq 77),(18,ii ((kE l i+nAt i X:Nat):Int)),(19,ii ((kP p i:Nat):Int)),(20,ii ((i:Nat):Int)),(21,.opq 78)] ((78,.row 1 (q9 X (nAt i X)).length ((q9 X (nAt i X)).map fun x=>ii x) 3)::(77,.row 2 O.length (O.flatMap Evt.cells) 62)::rtL x l p plp s sn) 79
   ·intro tail
    refine Run.r6 (hc w L0 none nofun) 18 _ ?_
    conv=>whnf
    by_cases hz:kE l i+nAt i X<l.length
    ·rw[decide_eq_true (show((kE l i+nAt i X:Nat):Int)<(l.length:Int)by omega)]
     conv=>whnf
     refine⟨by omega,?_⟩
     conv=>whnf
     rw[qG (f:=Evt.vals) (l:=l) (kE l i+nAt i X) 0 rfl rfl rfl rfl Evt.vlen (by rw[qD]) hz (by decide) rfl]
     conv=>whnf
     rw[show(l[kE l i+nAt i X].tick==((i:Nat):Int))=false by simpa using hEe hz]
     conv=>whnf
     exact Run.r8 tail rfl rfl rfl (hInA _) (lbx hLB rfl)
    ·rw[decide_eq_false (show ¬((kE l i+nAt i X:Nat):Int)<(l.length:Int)by omega)]
     conv=>whnf
     exact Run.r8 tail rfl rfl rfl (hInA _) (lbx hLB rfl)
   refine Run.W2 hc ?_
   conv=>whnf
   rw[kW (m:=x.rs.length) rfl rfl rfl rfl rfl rfl (by omega) (by omega),show List.replicate x.rs.length (SV.v (.int .i64 0))=(rwY x.rs.length Y 0).map fun x=>ii x by simp[rwY,ii]]
   conv=>whnf
   have hInB :∀j,In 80 ((79,.row 1 x.rs.length ((rwY x.rs.length Y j).map fun x=>ii x) 3)::(78,.row 1 (q9 X (nAt i X)).length ((q9 X (nAt i X)).map fun x=>ii x) 3)::(77,.row 2 O.length (O.flatMap Evt.cells) 62)::rtL x l p plp s sn):=fun j=>⟨⟨by omega,Os.h _⟩,⟨by omega,Os.h _⟩,hInL _ _ _ 80 (by decide)⟩
   refine Run.pR (T:=fun j=>[(1,.opq 2),(3,.opq 4),(4,.opq 5),(5,ii ((N:Nat):Int)),(13,.ptr 8 0),(15,.ptr 40 0),(17,.opq 77),(18,ii ((kE l i+nAt i X:Nat):Int)),(19,ii ((kP p i+j:Nat):Int)),(20,ii ((i:Nat):Int)),(21,.opq 78),(22,.opq 79)]) (M:=fun j=>(79,.row 1 x.rs.length ((rwY x.rs.length Y j).map fun x=>ii x) 3)::(78,.row 1 (q9 X (nAt i X)).length ((q9 X (nAt i X)).map fun x=>ii x) 3)::(77,.row 2 O.length (O.flatMap Evt.cells) 62)::rtL x l p plp s sn) 80 (fun _=>True) (nPz i Y) rfl rfl rfl (hInB 0) (lbx hLB rfl) trivial ?_ ?_
   ·intro j hj _ ih2
    obtain⟨hj1,hj2,hj3⟩:=hPl j hj
    obtain⟨hr0,hr1,hv0,hv1⟩:=hpz p[kP p i+j] (List.getElem_mem hj1)
    have hrl:=tL x.rs.length Y j
    have hsj:IntKind.i64.wrap (((kP p i+j:Nat):Int)+1)=((kP p i+(j+1):Nat):Int):=zC (by omega)
    refine Run.W2 hc ?_
    conv=>whnf
    rw[decide_eq_true (show((kP p i+j:Nat):Int)<(p.length:Int)by omega)]
    conv=>whnf
    refine⟨by omega,?_⟩
    conv=>whnf
    rw[qG (f:=Prz.vals) (l:=p) (kP p i+j) 0 rfl rfl rfl rfl Prz.vlen (by rw[qD]) hj1 (by decide) rfl]
    conv=>whnf
    rw[hj2,show(((i:Nat):Int)==((i:Nat):Int))=true by simp]
    conv=>whnf
    refine Run.draw (hc w L0 none nofun) 11 ?_
    rw[show qC 0 11=qC 0 4++(qC 4 2++(qC 6 3++qC 9 2))from rfl]
    simp only[qP]
    conv=>whnf
    refine⟨by omega,?_⟩
    conv=>whnf
    rw[qG (f:=Prz.vals) (l:=p) (kP p i+j) 1 rfl rfl rfl rfl Prz.vlen (by rw[qD]) hj1 (by decide) rfl]
    conv=>whnf
    refine⟨by omega,?_⟩
    conv=>whnf
    rw[qG (f:=Prz.vals) (l:=p) (kP p i+j) 2 rfl rfl rfl rfl Prz.vlen (by rw[qD]) hj1 (by decide) rfl]
    conv=>whnf
    refine⟨by kernel_rfl,?_⟩
    refine Run.W2 hc ?_
    conv=>whnf
    refine⟨by omega,?_⟩
    conv=>whnf
    rw[zK (v:=ii p[kP p i+j].val) p[kP p i+j].id.toNat rfl rfl rfl rfl rfl (by rw[yR,Nat.mul_one]) (by rw[List.length_map];omega) rfl rfl,show((rwY x.rs.length Y j).map fun x=>ii x).set p[kP p i+j].id.toNat (ii p[kP p i+j].val)=(rwY x.rs.length Y (j+1)).map fun x=>ii x by rw[hj3,List.map_set]]
    conv=>whnf
    exact Run.r8 (ih2 trivial) (by rw[hsj];rfl) rfl rfl (hInB (j+1)) (lbx hLB rfl)
   ·intro _
    apply vT [(1,.opq 2),(3,.opq 4),(4,.opq 5),(5,ii ((N:Nat):Int)),(13,.ptr 8 0),(15,.ptr 40 0),(17,.opq 77),(18,ii ((kE l i+nAt i X:Nat):Int)),(19,ii ((kP p i+nPz i Y:Nat):Int)),(20,ii ((i:Nat):Int)),(21,.opq 78),(22,.opq 79)] ((79,.row 1 x.rs.length ((rwY x.rs.length Y (nPz i Y)).map fun x=>ii x) 3)::(78,.row 1 (q9 X (nAt i X)).length ((q9 X (nAt i X)).map fun x=>ii x) 3)::(77,.row 2 O.length (O.flatMap Evt.cells) 62)::rtL x l p plp s sn) 80
    ·intro tail
     refine Run.r6 (hc w L0 none nofun) 18 _ ?_
     conv=>whnf
     by_cases hz:kP p i+nPz i Y<p.length
     ·rw[decide_eq_true (show((kP p i+nPz i Y:Nat):Int)<(p.length:Int)by omega)]
      conv=>whnf
      refine⟨by omega,?_⟩
      conv=>whnf
      rw[qG (f:=Prz.vals) (l:=p) (kP p i+nPz i Y) 0 rfl rfl rfl rfl Prz.vlen (by rw[qD]) hz (by decide) rfl]
      conv=>whnf
      rw[show(p[kP p i+nPz i Y].tick==((i:Nat):Int))=false by simpa using hPe hz]
      conv=>whnf
      exact Run.r8 tail rfl rfl rfl (hInB _) (lbx hLB rfl)
     ·rw[decide_eq_false (show ¬((kP p i+nPz i Y:Nat):Int)<(p.length:Int)by omega)]
      conv=>whnf
      exact Run.r8 tail rfl rfl rfl (hInB _) (lbx hLB rfl)
    refine Run.W2 hc ?_
    conv=>whnf
    have hrl:=tL x.rs.length Y (nPz i Y)
    have hgo:=rgo_spec hx hinv hJ (by rw[hst];omega) (q9 X (nAt i X)) (rwY x.rs.length Y (nPz i Y)) (by rw[kS hXl];omega) hrl
    have es:trS x l p (i+1)=lN x s (q9 X (nAt i X)) (rwY x.rs.length Y (nPz i Y)):=by
     show lN x (trS x l p i) (trIn l i) (trRw x.rs.length p i)=_
     unfold trIn trRw
     rw[hX,hY,hs]
    have en:trNs x l p (i+1)=snN sn (q9 X (nAt i X)) (lOut x s):=by
     show snN (trNs x l p i) (trIn l i) (lOut x (trS x l p i))=_
     unfold trIn
     rw[hX,hs,hsn]
    have eO:trO x l p (i+1)=O++spk ((i:Nat):Int) ((lOut x s).take (lOut x s).length):=by
     show trO x l p i++spk i (lOut x (trS x l p i))=_
     rw[hO,hs,List.take_length]
    have hOl:O.length≤65536:=by
     rw[←hO]
     exact Nat.le_trans (wT x l p i) (Nat.le_trans (Nat.mul_le_mul_right _ (by omega)) hN)
    have hOl2:(trO x l p (i+1)).length≤65536:=Nat.le_trans (wT x l p (i+1)) (Nat.le_trans (Nat.mul_le_mul_right _ (by omega)) hN)
    obtain⟨s2,hs2⟩ :∃s2,trS x l p (i+1)=s2:=⟨_,rfl⟩
    obtain⟨sn2,hsn2⟩ :∃sn2,trNs x l p (i+1)=sn2:=⟨_,rfl⟩
    obtain⟨o,ho⟩ :∃o,lOut x s=o:=⟨_,rfl⟩
    have hol0:=tV x s
    have hst2:s2.tick=((i+1:Nat):Int):=by rw[←hs2];exact gF x l p (i+1) (by omega)
    have hsnk :∀j,sn2 (j+1)=sn j:=fun j=>by rw[←hsn2,en];rfl
    rw[←es,←en,ho,hs2,hsn2]at hgo
    rw[ho]at eO hol0
    obtain⟨sz,hsz⟩ :∃sz,sn2 0=sz:=⟨_,rfl⟩
    obtain⟨hgo,hJ2⟩:=hgo
    rw[en,ho]at hsn2
    have hsn0:snN sn (q9 X (nAt i X)) o 0=sz:=by rw[hsn2,hsz]
    try rw[hsz]at hgo
    refine Run.pQ hgo (ent _ _ Try.func56 (by kernel_rfl) rfl) rfl rfl rfl rfl rfl rfl rfl [.ptr 40 0,.opq 78,.opq 79] rfl nmT rfl (fun q hq=>nmT_lt hq (by decide)) _ rfl nmT_inj rfl (rM_in hR s sn (by omega) ⟨⟨by omega,Os.h _⟩,⟨by omega,Os.h _⟩,trivial⟩) rfl
     (by repeat first|exact trivial|refine⟨⟨_,rfl,Conv.refl _⟩,?_⟩|refine⟨⟨_,rfl,Conv.row (by decide) (tD _)⟩,?_⟩|refine⟨⟨_,rfl,Conv.row (by decide) rfl⟩,?_⟩|refine⟨⟨_,rfl,by rw[ofx (o:=.row 2 x.n.N.length (s.st.flatMap Ste.cells) 139) (zJ _ _)];exact Conv.refl _⟩,?_⟩|refine⟨⟨_,rfl,by rw[ofx (o:=.row 4 x.n.S.length (s.m.flatMap Mrk.cells) 141) (qL _ _)];exact Conv.refl _⟩,?_⟩|refine⟨⟨_,rfl,by rw[hrl];exact Conv.row (by decide) (tD _)⟩,?_⟩|refine⟨⟨_,rfl,by rw[yV (b:=25) (b':=61) fun j hj=>nmT_tab hj hR];exact Conv.refl _⟩,?_⟩) (fun q hq=>by simp at hq;rcases hq with rfl|rfl|rfl|rfl|rfl<;>simp[rM])
     (.opq 80) ((80,.row 1 o.length (o.map fun x=>ii x) 3)::(81,.row 1 sz.length (sz.map fun x=>ii x) 3)::(82,.row 1 16 [.opq 81,.opq 45,.opq 46,.opq 47,.opq 48,.opq 49,.opq 50,.opq 51,.opq 52,.opq 53,.opq 54,.opq 55,.opq 56,.opq 57,.opq 58,.opq 59] 27)::(40,.cells [.opq 0,ii x.n.inp,.opq 1,.opq 2,.opq 3,.opq 41,.opq 42,ii s2.tick,.opq 43,.opq 82] 108)::rtB x s2) ((77,.row 2 O.length (O.flatMap Evt.cells) 62)::(rtS sn++rtK x l p plp)) 83 rfl rfl ⟨⟨43,_,rfl,rfl,(ofx (o:=.row _ _ (List.map _ _) _) (qK _ _)).symm,rfl⟩,⟨44,_,rfl,rfl,(ofx (o:=.row _ _ (List.map _ _) _) (qK _ _)).symm,rfl⟩,⟨45,_,rfl,rfl,rfl,rfl⟩,⟨0,_,rfl,rfl,rfl,rfl⟩,⟨6,_,rfl,rfl,(ofx (o:=.row 4 x.n.S.length (s2.m.flatMap Mrk.cells) 141) (qL _ _)).symm,rfl⟩,⟨7,_,rfl,rfl,(yV (b:=25) (b':=61) fun j hj=>by rw[shR_lt (show 25+j<43 by omega)];exact nmT_tab hj hR).symm,rfl⟩,⟨3,_,rfl,rfl,(ofx (o:=.row 2 x.n.N.length (s2.st.flatMap Ste.cells) 139) (zJ _ _)).symm,rfl⟩,trivial⟩ rfl rfl ?_
    refine Run.W2 hc ?_
    conv=>whnf
    rw[hkE1.symm,hkP1.symm]
    refine Run.trimT2 (n':=79) (T':=[(1,.opq 2),(3,.opq 4),(4,.opq 5),(5,ii ((N:Nat):Int)),(13,.ptr 8 0),(15,.ptr 40 0),(17,.opq 77),(18,ii ((kE l (i+1):Nat):Int)),(19,ii ((kP p (i+1):Nat):Int)),(20,ii ((i:Nat):Int)),(23,.opq 78),(24,ii ((0:Nat):Int))]) (Ch:=(78,.row 1 o.length (o.map fun x=>ii x) 3)::(77,.row 2 O.length (O.flatMap Evt.cells) 62)::(rtH x s2++rtS sn2)) (Kp:=rtB x s2++rtK x l p plp) (rq [(44,82),(82,44),(45,81),(46,45),(47,46),(48,47),(49,48),(50,49),(51,50),(52,51),(53,52),(54,53),(55,54),(56,55),(57,56),(58,57),(59,58),(60,59),(81,60),(78,80),(80,78)]) ?_ ?_ rfl rfl ?_ ?_ (fun i=>i<9∨41≤i∧i≤43∨61≤i∧i<77) ?_ rfl ?_ ?_
    rotate_left
    ·have inv :∀i,i<79→rq [(82,44),(44,82),(81,45),(45,46),(46,47),(47,48),(48,49),(49,50),(50,51),(51,52),(52,53),(53,54),(54,55),(55,56),(56,57),(57,58),(58,59),(59,60),(60,81),(80,78),(78,80)] (rq [(44,82),(82,44),(45,81),(46,45),(47,46),(48,47),(49,48),(50,49),(51,50),(52,51),(53,52),(54,53),(55,54),(56,55),(57,56),(58,57),(59,58),(60,59),(81,60),(78,80),(80,78)] i)=i:=by decide
     exact fun i hi j hj hne he=>hne (by rw[←inv i hi,he,inv j hj])
    ·refine⟨congrArg some (ofx (o:=.row _ _ (List.map _ _) _) (qK _ _)).symm,congrArg some (ofx (o:=.row _ _ (List.flatMap Evt.cells _) _) (z5 _ _)).symm,?_⟩
     refine⟨rfl,rfl,by rw[hsz];exact congrArg some (ofx (o:=.row _ _ (List.map _ _) _) (qK _ _)).symm,?_⟩
     repeat first|exact trivial|refine⟨by rw[hsnk];exact congrArg some (ofx (o:=.row _ _ (List.map _ _) _) (qK _ _)).symm,?_⟩
    ·exact⟨⟨by omega,Os.h _⟩,⟨by omega,Os.h _⟩,xQ (rtH_in (S:=(· < 79)) (fun i hi=>by omega) x s2) (rtS_in (S:=(· < 79)) (fun i hi=>by omega) sn2)⟩
    ·have fix :∀i,i<77→i<9∨41≤i∧i≤43∨61≤i∧i<77→rq [(44,82),(82,44),(45,81),(46,45),(47,46),(48,47),(49,48),(50,49),(51,50),(52,51),(53,52),(54,53),(55,54),(56,55),(57,56),(58,57),(59,58),(60,59),(81,60),(78,80),(80,78)] i=i:=by decide
     exact fun i hi=>⟨fix i (by omega) hi,by omega⟩
    ·exact xQ (rtB_in (S:=fun i=>i<9∨41≤i∧i≤43∨61≤i∧i<77) x hR (fun i hi=>by omega) s2) (rtK_in (S:=fun i=>i<9∨41≤i∧i≤43∨61≤i∧i<77) hcov (fun i hi=>by omega) (fun i hi=>by omega))
    ·exact fun p hp=>by have:=hLB p hp;exact⟨zA (qS (B:=6) rfl (by omega)),by omega⟩
    have hInC :∀j,In 79 ((77,.row 2 (O++spk ((i:Nat):Int) (o.take j)).length ((O++spk ((i:Nat):Int) (o.take j)).flatMap Evt.cells) 62)::(78,.row 1 o.length (o.map fun x=>ii x) 3)::rtL x l p plp s2 sn2):=fun j=>⟨⟨by omega,Os.h _⟩,⟨by omega,Os.h _⟩,rtL_in hcov hR _ _ (by omega)⟩
    refine Run.pR (T:=fun j=>[(1,.opq 2),(3,.opq 4),(4,.opq 5),(5,ii ((N:Nat):Int)),(13,.ptr 8 0),(15,.ptr 40 0),(17,.opq 77),(18,ii ((kE l (i+1):Nat):Int)),(19,ii ((kP p (i+1):Nat):Int)),(20,ii ((i:Nat):Int)),(23,.opq 78),(24,ii ((j:Nat):Int))]) (M:=fun j=>(77,.row 2 (O++spk ((i:Nat):Int) (o.take j)).length ((O++spk ((i:Nat):Int) (o.take j)).flatMap Evt.cells) 62)::(78,.row 1 o.length (o.map fun x=>ii x) 3)::rtL x l p plp s2 sn2) 79 (fun _=>True) o.length rfl rfl ?_ (hInC 0) (lbx hLB rfl) trivial ?_ ?_
    ·rw[show(O++spk ((i:Nat):Int) (o.take 0))=O from List.append_nil O];rfl
    ·intro j hj _ ih2
     have hol:(O++spk ((i:Nat):Int) (o.take j)).length≤131072:=by
      simp only[spk,List.length_append,List.length_map,List.length_take]
      omega
     have hsj:IntKind.i64.wrap (((j:Nat):Int)+1)=((j+1:Nat):Int):=zC (by omega)
     have hsp:(O++spk ((i:Nat):Int) (o.take (j+1)))=(O++spk ((i:Nat):Int) (o.take j))++[⟨((i:Nat):Int),o[j]⟩]:=by rw[spk_take hj,List.append_assoc]
     generalize(O++spk ((i:Nat):Int) (o.take j))=Z at hol hsp ⊢
     refine Run.W2 hc ?_
     conv=>whnf
     rw[decide_eq_true (show((j:Nat):Int)<(o.length:Int)by omega)]
     conv=>whnf
     refine⟨by omega,?_⟩
     conv=>whnf
     rw[s7 j rfl rfl rfl rfl (by rw[qD,Nat.mul_one]) hj]
     conv=>whnf
     refine Run.append (hc w L0 none nofun) rfl rfl rfl rfl rfl rfl rfl rfl rfl rfl rfl rfl rfl rfl rfl (by decide) ⟨by omega,by omega⟩ ((78,.row 1 o.length (o.map fun x=>ii x) 3)::rtL x l p plp s2 sn2) (AllP.mem (uE fun q hq=> ?_)) ?_
     ·rcases List.mem_cons.1 hq with rfl|hq
      ·exact⟨rfl,(show(78:Nat)≠77 by decide)⟩
      ·exact keepNe rfl (rtL_in hcov hR _ _ (Nat.le_refl _)) q hq
     refine Run.W2 hc ?_
     conv=>whnf
     refine Run.trimT2 (T':=[(1,.opq 2),(3,.opq 4),(4,.opq 5),(5,ii ((N:Nat):Int)),(13,.ptr 8 0),(15,.ptr 40 0),(17,.opq 77),(18,ii ((kE l (i+1):Nat):Int)),(19,ii ((kP p (i+1):Nat):Int)),(20,ii ((i:Nat):Int)),(23,.opq 78),(24,ii (((j+1):Nat):Int))]) (Ch:=[(77,.row 2 (O++spk ((i:Nat):Int) (o.take (j+1))).length ((O++spk ((i:Nat):Int) (o.take (j+1))).flatMap Evt.cells) 62)]) (Kp:=(78,.row 1 o.length (o.map fun x=>ii x) 3)::rtL x l p plp s2 sn2) (n':=79) (rq [(77,80),(80,77)]) (ih2 trivial) (by
      have inv :∀i,i<79→rq [(77,80),(80,77)] (rq [(77,80),(80,77)] i)=i:=by decide
      exact fun i hi j hj hne he=>hne (by rw[←inv i hi,he,inv j hj])) (by rw[hsj];rfl) rfl
      ⟨by show Sx.look _ _=some (SObj.ren _ (.row 2 (O++spk ((i:Nat):Int) (o.take (j+1))).length ((O++spk ((i:Nat):Int) (o.take (j+1))).flatMap Evt.cells) 62));rw[ofx (o:=.row _ _ (List.flatMap Evt.cells _) _) (z5 _ _),hsp,List.length_append,List.flatMap_append];rfl,trivial⟩ ⟨⟨by omega,Os.h _⟩,trivial⟩
      (fun i=>i<77∨i=78) (fun i hi=> ?_) rfl ⟨⟨.inr rfl,qK _ _⟩,rtL_inS (S:=fun i=>i<77∨i=78) hcov hR s2 sn2 fun i hi=>.inl hi⟩ (fun p hp=>by have:=hLB p hp;exact⟨zA (qS (B:=6) rfl (by omega)),by omega⟩)
     have fix :∀i,i<79→i<77∨i=78→rq [(77,80),(80,77)] i=i:=by decide
     exact⟨fix i (by omega) hi,by omega⟩
    ·intro _
     rw[←eO]
     have hsu:IntKind.i64.wrap (((i:Nat):Int)+1)=((i+1:Nat):Int):=zC (by omega)
     refine Run.W2 hc ?_
     conv=>whnf
     rw[decide_eq_false (show ¬((o.length:Nat):Int)<(o.length:Int)by omega)]
     conv=>whnf
     rw[decide_eq_false (show ¬(65536:Int)<((trO x l p (i+1)).length:Int)by omega)]
     conv=>whnf
     rw[hs2,en,ho,hsn2]at ih
     exact Run.r8 (ih hJ2) (by rw[hsu];rfl) rfl rfl (hInL _ _ _ 78 (by decide)) (lbx hLB rfl)
 ·intro hJ
  refine Run.W2 hc ?_
  conv=>whnf
  rw[decide_eq_false (show ¬((N:Nat):Int)<(N:Int)by omega)]
  conv=>whnf
  have hinvK:=tM hx l p N hK2
  obtain⟨s,hsK⟩ :∃s,trS x l p N=s:=⟨_,rfl⟩
  obtain⟨sn,hsn⟩ :∃sn,trNs x l p N=sn:=⟨_,rfl⟩
  obtain⟨O,hO⟩ :∃O,trO x l p N=O:=⟨_,rfl⟩
  rw[hsK]at hinvK
  rw[hsK,hO]at hRR
  rw[hsK,hsn,hO]
  refine Run.pQ (rNet_spec s.tick x.n.inp x.n.S s.m hx2 hinvK.lm) (ent _ _ Try.func57 (by kernel_rfl) rfl) rfl rfl rfl rfl rfl rfl rfl [.ptr 40 0] rfl nmT rfl (fun q hq=>by have inv :∀q,q<41→nmT q<78:=(by decide);exact inv q hq) _ rfl (fun q hq j hj hne=>by have inj :∀q∈[0,2,6],∀j∈[0,2,6],q≠j→nmT q≠nmT j:=(by decide);exact inj q hq j hj hne) rfl
   ⟨⟨by omega,qE _ rfl⟩,⟨by omega,Os.h _⟩,⟨by omega,Os.h _⟩,trivial⟩ rfl ⟨⟨_,rfl,Conv.refl _⟩,⟨_,rfl,Conv.refl _⟩,⟨_,rfl,Conv.row (by decide) (kD _)⟩,trivial⟩ (fun q hq=>by simp at hq;subst hq;simp)
   (.agg [.opq 0,ii x.n.inp,.opq 78]) [(78,.row 4 x.n.S.length ((jT x.n.S s.m).flatMap Syn.cells) 55)] ((77,.row 2 O.length (O.flatMap Evt.cells) 62)::rtK x l p plp) 79 rfl rfl ⟨⟨41,_,rfl,rfl,(ofx (o:=.row _ _ (List.flatMap Syn.cells _) _) (jC _ _)).symm,rfl⟩,trivial⟩ rfl rfl ?_
  refine Run.W2 hc ?_
  conv=>whnf
  rw[←hRR]
  exact SpecR.intro 77 (by decide) hLB (by decide) hcov rfl rfl ⟨(show 6<8 by decide),⟨(show 0<8 by decide),trivial,ltb rfl,trivial⟩,trivial,trivial⟩ ⟨⟨congrArg some (ofx (o:=.row _ _ (List.flatMap Evt.cells _) _) (z5 _ _)).symm,by omega,Os.h _⟩,⟨congrArg some (ofx (o:=.row _ _ (List.flatMap Syn.cells _) _) (jC _ _)).symm,by omega,Os.h _⟩,trivial⟩
theorem joinF {G P:Prop}{c:Cx}{R:Ending→World→Prop}{q:List Item}(T:List (Nat×SV))(M:List (Nat×SObj))(n:Nat)(h1:(P→Run c ⟨T,M,n,[],q⟩ R)→G)(h2:P→Run c ⟨T,M,n,[],q⟩ R):G:=h1 h2
abbrev pfLT:PF:=[(14,z8 FTrue_v),(17+1000,FRef)]
theorem pfLT_ok:PF.oks Try.prog pfLT:=⟨works_pure,mk_ref,trivial⟩
theorem learnTrains_walk (w:World)(vN vS:Value)(n:Net)(hn:x4 w vN vS n)(vR:Value)(rs:List Rul)(hr:RowsAt w vR 10 rs.length (rs.flatMap Rul.vals))(vP:Value)(pl:List Int)(hpl:RowsAt w vP 1 pl.length (qB pl))(vE:Value)(l:List Evt)(hE:RowsAt w vE 2 l.length (l.flatMap Evt.vals))(vZ:Value)(p:List Prz)(hZ:RowsAt w vZ 3 p.length (p.flatMap Prz.vals))(K:Int)(_:rs.length*80≤140737488355328) :
  Calls Try.prog 5 #[caseV vN vS vR vP vE vZ n K] w fun e w'=>e = .returned (.bool true)∧Ext w w':=by
 have hc :∀L,Cx.ok ⟨Try.prog,tab,pfLT,5,Try.f5,[],w,L,none⟩:=fun L=>⟨qI,pfLT_ok,Try.func5,mixed,fun _ h=>by cases h⟩
 obtain⟨hn1,hn2⟩:=hn
 obtain⟨x,rfl,rfl,rfl⟩ :∃x:Lnt,x.n=n∧x.rs=rs∧x.pl=pl:=⟨⟨n,rs,pl⟩,rfl,rfl,rfl⟩
 have hrows:AllP (fun x:Value×Nat×Nat×List Value=>RowsAt w x.1 x.2.1 x.2.2.1 x.2.2.2) [(vN,8,x.n.N.length,x.n.N.flatMap Prm.vals),(vS,4,x.n.S.length,x.n.S.flatMap Syn.vals),(vR,10,x.rs.length,x.rs.flatMap Rul.vals),(vP,1,x.pl.length,qB x.pl),(vE,2,l.length,l.flatMap Evt.vals),(vZ,3,p.length,p.flatMap Prz.vals)]:=⟨hn1,hn2,hr,hpl,hE,hZ,trivial⟩
 refine Run.pH Try.func5 rfl _ hrows [.agg [.opq 0,ii x.n.inp,.opq 1,.opq 2,.opq 3,.opq 4,.opq 5,ii K]] [caseV vN vS vR vP vE vZ x.n K] [(0,.rwin 8 x.n.N.length (x.n.N.flatMap Prm.vals)),(1,.rwin 4 x.n.S.length (x.n.S.flatMap Syn.vals)),(2,.rwin 10 x.rs.length (x.rs.flatMap Rul.vals)),(3,.rwin 1 x.pl.length (qB x.pl)),(4,.rwin 2 l.length (l.flatMap Evt.vals)),(5,.rwin 3 p.length (p.flatMap Prz.vals))] 6 rfl rfl
  (by show [Value.agg [(SV.opq 0).conc _,.int .i64 x.n.inp,(SV.opq 1).conc _,(SV.opq 2).conc _,(SV.opq 3).conc _,(SV.opq 4).conc _,(SV.opq 5).conc _,.int .i64 K].toArray]=_;rw[qN hrows (k:=0) rfl,qN hrows (k:=1) rfl,qN hrows (k:=2) rfl,qN hrows (k:=3) rfl,qN hrows (k:=4) rfl,qN hrows (k:=5) rfl];rfl) (by simp[SV.scs,SV.sc]) rfl (Run.r6 (hc _) 1000 _ ?_)
 conv=>whnf
 refine Run.draw (hc _) 7 ?_
 conv=>whnf
 refine⟨by kernel_rfl,?_⟩
 refine Run.W1 (hc _) ?_
 conv=>whnf
 refine Run.pB (g:=13) (vs:=[.agg [.opq 0,ii x.n.inp,.opq 1],.opq 2,.opq 3]) (caps:=[]) (.v (.bool (fewB x.n x.rs x.pl))) (fun ρ w1 hW=>few_run _ _ x.n _ x.rs _ x.pl w1 ⟨hW.rowsAt (i:=0) rfl,hW.rowsAt (i:=1) rfl⟩ (hW.rowsAt (i:=2) rfl) (hW.rowsAt (i:=3) rfl)) (ent _ _ Try.func13 (by kernel_rfl) rfl) rfl rfl rfl rfl rfl rfl rfl trivial ?_
 apply joinF (c:=⟨Try.prog,tab,pfLT,5,Try.f5,[],w,[],none⟩) (R:=fun e w'=>e = .returned (.bool true)∧Ext w w') (P:=fewB x.n x.rs x.pl=true∧l.length≤65546∧p.length≤65546∧(K≤200∨10000<K)) [(1,.ptr 6 0),(4,ii (p.length:Int)),(61,.v (.bool false))] ((6,.cells [.opq 0,ii x.n.inp,.opq 1,.opq 2,.opq 3,.opq 4,.opq 5,ii K] 45)::(0,.rwin 8 x.n.N.length (x.n.N.flatMap Prm.vals))::(1,.rwin 4 x.n.S.length (x.n.S.flatMap Syn.vals))::(2,.rwin 10 x.rs.length (x.rs.flatMap Rul.vals))::(3,.rwin 1 x.pl.length (qB x.pl))::(4,.rwin 2 l.length (l.flatMap Evt.vals))::(5,.rwin 3 p.length (p.flatMap Prz.vals))::[]) 7
 ·intro tF
  apply vT (c:=⟨Try.prog,tab,pfLT,5,Try.f5,[],w,[],none⟩) (R:=fun e w'=>e = .returned (.bool true)∧Ext w w') [(1,.ptr 6 0),(4,ii (p.length:Int)),(61,.v (.bool true))] ((6,.cells [.opq 0,ii x.n.inp,.opq 1,.opq 2,.opq 3,.opq 4,.opq 5,ii K] 45)::(0,.rwin 8 x.n.N.length (x.n.N.flatMap Prm.vals))::(1,.rwin 4 x.n.S.length (x.n.S.flatMap Syn.vals))::(2,.rwin 10 x.rs.length (x.rs.flatMap Rul.vals))::(3,.rwin 1 x.pl.length (qB x.pl))::(4,.rwin 2 l.length (l.flatMap Evt.vals))::(5,.rwin 3 p.length (p.flatMap Prz.vals))::[]) 7
  ·intro tT
   have hIn:In 7 ((6,.cells [.opq 0,ii x.n.inp,.opq 1,.opq 2,.opq 3,.opq 4,.opq 5,ii K] 45)::(0,.rwin 8 x.n.N.length (x.n.N.flatMap Prm.vals))::(1,.rwin 4 x.n.S.length (x.n.S.flatMap Syn.vals))::(2,.rwin 10 x.rs.length (x.rs.flatMap Rul.vals))::(3,.rwin 1 x.pl.length (qB x.pl))::(4,.rwin 2 l.length (l.flatMap Evt.vals))::(5,.rwin 3 p.length (p.flatMap Prz.vals))::[]):=(by repeat first|exact trivial|refine⟨⟨by omega,zU _ rfl⟩,?_⟩|refine⟨⟨by omega,Os.h _⟩,?_⟩)
   refine Run.r6 (hc _) 35 _ ?_
   cases bf:fewB x.n x.rs x.pl
   ·conv=>whnf
    exact Run.r8 tT rfl rfl rfl hIn (fun p hp=>by cases hp)
   conv=>whnf
   cases e1:decide ((300:Int)<(l.length:Int))
   case true=>
    have e1':=of_decide_eq_true e1
    conv=>whnf
    cases e2:decide ((l.length:Int)≤65536)
    case true=>
     have e2':=of_decide_eq_true e2
     conv=>whnf
     exact Run.r8 tT rfl rfl rfl hIn (fun p hp=>by cases hp)
    have e2':=of_decide_eq_false e2
    conv=>whnf
    cases e3:decide ((65546:Int)<(l.length:Int))
    case true=>
     have e3':=of_decide_eq_true e3
     conv=>whnf
     exact Run.r8 tT rfl rfl rfl hIn (fun p hp=>by cases hp)
    have e3':=of_decide_eq_false e3
    conv=>whnf
    cases p1:decide ((300:Int)<(p.length:Int))
    case true=>
     have p1':=of_decide_eq_true p1
     conv=>whnf
     cases p2:decide ((p.length:Int)≤65536)
     case true=>
      have p2':=of_decide_eq_true p2
      conv=>whnf
      exact Run.r8 tT rfl rfl rfl hIn (fun p hp=>by cases hp)
     have p2':=of_decide_eq_false p2
     conv=>whnf
     cases p3:decide ((65546:Int)<(p.length:Int))
     case true=>
      have p3':=of_decide_eq_true p3
      conv=>whnf
      exact Run.r8 tT rfl rfl rfl hIn (fun p hp=>by cases hp)
     have p3':=of_decide_eq_false p3
     conv=>whnf
     cases k1:decide ((200:Int)<K)
     case true=>
      have k1':=of_decide_eq_true k1
      conv=>whnf
      cases k2:decide (K≤(10000:Int))
      case true=>
       have k2':=of_decide_eq_true k2
       conv=>whnf
       exact Run.r8 tT rfl rfl rfl hIn (fun p hp=>by cases hp)
      have k2':=of_decide_eq_false k2
      conv=>whnf
      exact Run.r8 (tF ⟨bf,by omega,by omega,by omega⟩) rfl rfl rfl hIn (fun p hp=>by cases hp)
     have k1':=of_decide_eq_false k1
     conv=>whnf
     exact Run.r8 (tF ⟨bf,by omega,by omega,by omega⟩) rfl rfl rfl hIn (fun p hp=>by cases hp)
    have p1':=of_decide_eq_false p1
    conv=>whnf
    cases k1:decide ((200:Int)<K)
    case true=>
     have k1':=of_decide_eq_true k1
     conv=>whnf
     cases k2:decide (K≤(10000:Int))
     case true=>
      have k2':=of_decide_eq_true k2
      conv=>whnf
      exact Run.r8 tT rfl rfl rfl hIn (fun p hp=>by cases hp)
     have k2':=of_decide_eq_false k2
     conv=>whnf
     exact Run.r8 (tF ⟨bf,by omega,by omega,by omega⟩) rfl rfl rfl hIn (fun p hp=>by cases hp)
    have k1':=of_decide_eq_false k1
    conv=>whnf
    exact Run.r8 (tF ⟨bf,by omega,by omega,by omega⟩) rfl rfl rfl hIn (fun p hp=>by cases hp)
   have e1':=of_decide_eq_false e1
   conv=>whnf
   cases p1:decide ((300:Int)<(p.length:Int))
   case true=>
    have p1':=of_decide_eq_true p1
    conv=>whnf
    cases p2:decide ((p.length:Int)≤65536)
    case true=>
     have p2':=of_decide_eq_true p2
     conv=>whnf
     exact Run.r8 tT rfl rfl rfl hIn (fun p hp=>by cases hp)
    have p2':=of_decide_eq_false p2
    conv=>whnf
    cases p3:decide ((65546:Int)<(p.length:Int))
    case true=>
     have p3':=of_decide_eq_true p3
     conv=>whnf
     exact Run.r8 tT rfl rfl rfl hIn (fun p hp=>by cases hp)
    have p3':=of_decide_eq_false p3
    conv=>whnf
    cases k1:decide ((200:Int)<K)
    case true=>
     have k1':=of_decide_eq_true k1
     conv=>whnf
     cases k2:decide (K≤(10000:Int))
     case true=>
      have k2':=of_decide_eq_true k2
      conv=>whnf
      exact Run.r8 tT rfl rfl rfl hIn (fun p hp=>by cases hp)
     have k2':=of_decide_eq_false k2
     conv=>whnf
     exact Run.r8 (tF ⟨bf,by omega,by omega,by omega⟩) rfl rfl rfl hIn (fun p hp=>by cases hp)
    have k1':=of_decide_eq_false k1
    conv=>whnf
    exact Run.r8 (tF ⟨bf,by omega,by omega,by omega⟩) rfl rfl rfl hIn (fun p hp=>by cases hp)
   have p1':=of_decide_eq_false p1
   conv=>whnf
   cases k1:decide ((200:Int)<K)
   case true=>
    have k1':=of_decide_eq_true k1
    conv=>whnf
    cases k2:decide (K≤(10000:Int))
    case true=>
     have k2':=of_decide_eq_true k2
     conv=>whnf
     exact Run.r8 tT rfl rfl rfl hIn (fun p hp=>by cases hp)
    have k2':=of_decide_eq_false k2
    conv=>whnf
    exact Run.r8 (tF ⟨bf,by omega,by omega,by omega⟩) rfl rfl rfl hIn (fun p hp=>by cases hp)
   have k1':=of_decide_eq_false k1
   conv=>whnf
   exact Run.r8 (tF ⟨bf,by omega,by omega,by omega⟩) rfl rfl rfl hIn (fun p hp=>by cases hp)
  ·refine Run.W1 (hc _) ?_
   conv=>whnf
   exact⟨fun ρ w' hW _=>⟨rfl,hW.toExt⟩⟩
 ·intro hP
  obtain⟨bf,hl,hp,hK⟩:=hP
  unfold fewB at bf
  simp only[Bool.and_eq_true,decide_eq_true_eq]at bf
  obtain⟨f1,f2,f3,f4⟩:=bf
  refine Run.W1 (hc _) ?_
  conv=>whnf
  refine Run.nils (T':=[(1,.ptr 6 0),(4,ii (p.length:Int)),(5,.opq 7),(6,ii ((0:Nat):Int))]) (M':=(7,.row 3 0 [] 48)::((6,.cells [.opq 0,ii x.n.inp,.opq 1,.opq 2,.opq 3,.opq 4,.opq 5,ii K] 45)::(0,.rwin 8 x.n.N.length (x.n.N.flatMap Prm.vals))::(1,.rwin 4 x.n.S.length (x.n.S.flatMap Syn.vals))::(2,.rwin 10 x.rs.length (x.rs.flatMap Rul.vals))::(3,.rwin 1 x.pl.length (qB x.pl))::(4,.rwin 2 l.length (l.flatMap Evt.vals))::(5,.rwin 3 p.length (p.flatMap Prz.vals))::[])) 1 (fun _=>.row 3 0 [] 48) (fun _ _=>.inl ⟨_,_,rfl⟩) ⟨⟨_,rfl,.inl rfl⟩,⟨_,rfl,.inl rfl⟩,⟨_,rfl,.inr (.inl ⟨rfl,0,by decide,rfl⟩)⟩,⟨_,rfl,.inl rfl⟩,trivial⟩ (by repeat first|exact trivial|refine⟨.inl ⟨0,by decide,rfl⟩,?_⟩|refine⟨.inr ⟨_,rfl,.inl rfl⟩,?_⟩) ?_
  have hInJ :∀j,In 8 ((7,.row 3 j (((p.take j).flatMap Prz.vals).map .v) 48)::(6,.cells [.opq 0,ii x.n.inp,.opq 1,.opq 2,.opq 3,.opq 4,.opq 5,ii K] 45)::(0,.rwin 8 x.n.N.length (x.n.N.flatMap Prm.vals))::(1,.rwin 4 x.n.S.length (x.n.S.flatMap Syn.vals))::(2,.rwin 10 x.rs.length (x.rs.flatMap Rul.vals))::(3,.rwin 1 x.pl.length (qB x.pl))::(4,.rwin 2 l.length (l.flatMap Evt.vals))::(5,.rwin 3 p.length (p.flatMap Prz.vals))::[]):=fun j=>(by repeat first|exact trivial|refine⟨⟨by omega,Os.h _⟩,?_⟩|refine⟨⟨by omega,zU _ rfl⟩,?_⟩)
  have hIn7:In 7 ((6,.cells [.opq 0,ii x.n.inp,.opq 1,.opq 2,.opq 3,.opq 4,.opq 5,ii K] 45)::(0,.rwin 8 x.n.N.length (x.n.N.flatMap Prm.vals))::(1,.rwin 4 x.n.S.length (x.n.S.flatMap Syn.vals))::(2,.rwin 10 x.rs.length (x.rs.flatMap Rul.vals))::(3,.rwin 1 x.pl.length (qB x.pl))::(4,.rwin 2 l.length (l.flatMap Evt.vals))::(5,.rwin 3 p.length (p.flatMap Prz.vals))::[]):=(by repeat first|exact trivial|refine⟨⟨by omega,zU _ rfl⟩,?_⟩|refine⟨⟨by omega,Os.h _⟩,?_⟩)
  refine Run.pD (T:=fun j=>[(1,.ptr 6 0),(4,ii (p.length:Int)),(5,.opq 7),(6,ii ((j:Nat):Int))]) (M:=fun j=>((7,.row 3 j (((p.take j).flatMap Prz.vals).map .v) 48)::(6,.cells [.opq 0,ii x.n.inp,.opq 1,.opq 2,.opq 3,.opq 4,.opq 5,ii K] 45)::(0,.rwin 8 x.n.N.length (x.n.N.flatMap Prm.vals))::(1,.rwin 4 x.n.S.length (x.n.S.flatMap Syn.vals))::(2,.rwin 10 x.rs.length (x.rs.flatMap Rul.vals))::(3,.rwin 1 x.pl.length (qB x.pl))::(4,.rwin 2 l.length (l.flatMap Evt.vals))::(5,.rwin 3 p.length (p.flatMap Prz.vals))::[])) (fun _=>True) p.length trivial ?_ ?_
  ·intro j hj _ ih
   have hsj:IntKind.i64.wrap (((j:Nat):Int)+1)=((j+1:Nat):Int):=zC (by omega)
   refine Run.W1 (hc _) ?_
   conv=>whnf
   rw[decide_eq_true (show((j:Nat):Int)<(p.length:Int)by omega)]
   conv=>whnf
   refine⟨by omega,?_⟩
   conv=>whnf
   rw[jF (f:=Prz.vals) (l:=p) j rfl rfl rfl rfl rfl Prz.vlen (by rw[qD]) hj]
   conv=>whnf
   refine Run.append (hc _) rfl rfl rfl rfl rfl rfl rfl rfl rfl rfl rfl rfl rfl rfl rfl (by decide) ⟨by omega,by omega⟩ ((6,.cells [.opq 0,ii x.n.inp,.opq 1,.opq 2,.opq 3,.opq 4,.opq 5,ii K] 45)::(0,.rwin 8 x.n.N.length (x.n.N.flatMap Prm.vals))::(1,.rwin 4 x.n.S.length (x.n.S.flatMap Syn.vals))::(2,.rwin 10 x.rs.length (x.rs.flatMap Rul.vals))::(3,.rwin 1 x.pl.length (qB x.pl))::(4,.rwin 2 l.length (l.flatMap Evt.vals))::(5,.rwin 3 p.length (p.flatMap Prz.vals))::[]) (keepNe rfl hIn7) ?_
   refine Run.W1 (hc _) ?_
   conv=>whnf
   refine Run.pN (rq [(7,9),(9,7)]) (ih trivial) (by
    have inv :∀i,i<8→rq [(7,9),(9,7)] (rq [(7,9),(9,7)] i)=i:=by decide
    exact fun i hi j hj hne he=>hne (by rw[←inv i hi,he,inv j hj])) (by rw[hsj];rfl) rfl (by
    refine⟨by show Sx.look _ _=some (SObj.ren _ (.row 3 (j+1) (((p.take (j+1)).flatMap Prz.vals).map .v) 48));rw[ofx (o:=.row _ _ (List.map SV.v _) _) (qR _ _),←List.take_append_getElem hj,List.flatMap_append,List.map_append];rfl,?_⟩
    repeat first|exact trivial|refine⟨rfl,?_⟩) (hInJ (j+1)) (fun p hp=>by cases hp)
  ·intro _
   refine Run.W1 (hc _) ?_
   conv=>whnf
   rw[decide_eq_false (show ¬((p.length:Nat):Int)<(p.length:Int)by omega)]
   conv=>whnf
   rw[List.take_length]
   by_cases he:yQ x.n x.rs x.pl l p K=0
   ·have h1:qZ x.n x.rs x.pl=0:=by
     unfold yQ at he
     split at he
     ·rename_i hh;exact absurd he hh
     ·rename_i hh;simpa using hh
    have h2:zS ⟨[qW],x.n.inp,[]⟩ l K 10000=0:=by
     unfold yQ at he
     rw[if_neg (by simpa using h1)]at he
     split at he
     ·rename_i hh;exact absurd he hh
     ·rename_i hh;simpa using hh
    have h3:jP (x.rs.length:Int) p=0:=by
     unfold yQ at he
     rwa [if_neg (by simpa using h1),if_neg (by simpa using h2)]at he
    have hK3:0≤K∧K≤200:=by
     have h2':=h2
     unfold zS at h2'
     split at h2'
     ·rename_i hh;exact absurd h2' hh
     split at h2'
     ·cases h2'
     rename_i hh
     have:=wi_iff.1 (show wi K 0 10000=true by simpa using hh)
     omega
    obtain⟨N,rfl⟩:=Int.eq_ofNat_of_zero_le hK3.1
    have hN:N*x.n.N.length≤65536:=Nat.le_trans (Nat.mul_le_mul (show N≤200 by omega) (show x.n.N.length≤24 by omega)) (by decide)
    have hOl:(trO x l p N).length≤65536:=Nat.le_trans (wT x l p N) hN
    have hx:NetOK x:=uY h1
    refine Run.pQ (sE x l p N h1 h2 h3 hN) (ent _ _ Try.func20 (by kernel_rfl) rfl) rfl rfl rfl rfl rfl rfl rfl [.agg [.opq 0,ii x.n.inp,.opq 1],.opq 2,.opq 3,.opq 4,.opq 5,ii ((N:Nat):Int)] rfl id rfl (fun q hq=>by show q<8;omega) _ rfl (fun q _ j _ hne=>hne) rfl (by repeat first|exact trivial|refine⟨⟨by omega,Os.h _⟩,?_⟩) rfl (by repeat first|exact trivial|refine⟨⟨_,rfl,Conv.refl _⟩,?_⟩) (fun q hq=>by cases hq)
     (.tup [.opq 8,.agg [.opq 9,ii x.n.inp,.opq 10],ii 0]) [(8,.row 2 (trO x l p N).length ((trO x l p N).flatMap Evt.cells) 62),(9,.row 8 x.n.N.length ((x.n.N.flatMap Prm.vals).map .v) 60),(10,.row 4 x.n.S.length ((jT x.n.S (trS x l p N).m).flatMap Syn.cells) 55)] ((7,.row 3 p.length ((p.flatMap Prz.vals).map .v) 48)::((6,.cells [.opq 0,ii x.n.inp,.opq 1,.opq 2,.opq 3,.opq 4,.opq 5,ii ((N:Nat):Int)] 45)::(0,.rwin 8 x.n.N.length (x.n.N.flatMap Prm.vals))::(1,.rwin 4 x.n.S.length (x.n.S.flatMap Syn.vals))::(2,.rwin 10 x.rs.length (x.rs.flatMap Rul.vals))::(3,.rwin 1 x.pl.length (qB x.pl))::(4,.rwin 2 l.length (l.flatMap Evt.vals))::(5,.rwin 3 p.length (p.flatMap Prz.vals))::[])) 11 rfl rfl ⟨⟨6,_,rfl,rfl,(ofx (o:=.row _ _ (List.flatMap Evt.cells _) _) (z5 _ _)).symm,rfl⟩,⟨7,_,rfl,rfl,(ofx (o:=.row _ _ (List.map SV.v _) _) (qR _ _)).symm,rfl⟩,⟨8,_,rfl,rfl,(ofx (o:=.row _ _ (List.flatMap Syn.cells _) _) (jC _ _)).symm,rfl⟩,trivial⟩ rfl rfl ?_
    refine Run.W1 (hc _) ?_
    conv=>whnf
    refine Run.r8 (n':=12) (T':=[(1,.ptr 6 0),(5,.opq 7),(7,.opq 8),(8,.ptr 11 0),(9,ii 0)]) (M':=((11,.cells [.opq 9,ii x.n.inp,.opq 10] 25)::(8,.row 2 (trO x l p N).length ((trO x l p N).flatMap Evt.cells) 62)::(9,.row 8 x.n.N.length ((x.n.N.flatMap Prm.vals).map .v) 60)::(10,.row 4 x.n.S.length ((jT x.n.S (trS x l p N).m).flatMap Syn.cells) 55)::(7,.row 3 p.length ((p.flatMap Prz.vals).map .v) 48)::(6,.cells [.opq 0,ii x.n.inp,.opq 1,.opq 2,.opq 3,.opq 4,.opq 5,ii ((N:Nat):Int)] 45)::(0,.rwin 8 x.n.N.length (x.n.N.flatMap Prm.vals))::(1,.rwin 4 x.n.S.length (x.n.S.flatMap Syn.vals))::(2,.rwin 10 x.rs.length (x.rs.flatMap Rul.vals))::(3,.rwin 1 x.pl.length (qB x.pl))::(4,.rwin 2 l.length (l.flatMap Evt.vals))::(5,.rwin 3 p.length (p.flatMap Prz.vals))::[])) ?_ rfl rfl rfl (by repeat first|exact trivial|refine⟨⟨by omega,Os.h _⟩,?_⟩|refine⟨⟨by omega,Os.h _⟩,?_⟩|refine⟨⟨by omega,Os.h _⟩,?_⟩|refine⟨⟨by omega,Os.h _⟩,?_⟩|refine⟨⟨by omega,zU _ rfl⟩,?_⟩) (fun p hp=>by cases hp)
    refine Run.pU (hc _) fun l0 hl0=> ?_
    have hlin:=Lin.ofGo [0,1,2,3,4,5,6,7,8,9,10,11,12,13,14,15,16,17,18,19,20] hl0 rfl (by decide)
    apply joinA (k:=_) [(7,.opq 8),(8,.ptr 11 0),(9,ii 0),(10,.opq 12),(11,.ptr 13 0),(12,ii 0)] ((8,.row 2 (trO x l p N).length ((trO x l p N).flatMap Evt.cells) 62)::(11,.cells [.opq 9,ii x.n.inp,.opq 10] 25)::(9,.row 8 x.n.N.length ((x.n.N.flatMap Prm.vals).map .v) 60)::(10,.row 4 x.n.S.length ((jT x.n.S (trS x l p N).m).flatMap Syn.cells) 55)::(12,.row 2 (trO x l p N).length ((trO x l p N).flatMap Evt.cells) 62)::(13,.cells [.opq 0,ii x.n.inp,.opq 14] 25)::(14,.row 4 x.n.S.length ((jT x.n.S (trS x l p N).m).flatMap Syn.cells) 55)::(0,.rwin 8 x.n.N.length (x.n.N.flatMap Prm.vals))::[]) 15 []
    ·intro g1
     apply joinA (k:=_) [(11,.ptr 29 0),(95,.agg [.opq 0,ii x.n.inp,.opq 1]),(98,.opq 16),(100,.opq 3),(102,.opq 4),(103,.opq 7),(105,ii ((N:Nat):Int)),(7,.opq 8),(8,.ptr 11 0),(9,ii 0)] ((29,.cells [nq,ii 0,nq] 25)::(16,.row 10 x.rs.length ((x.rs.flatMap Rul.vals).map .v) 40)::(11,.cells [.opq 9,ii x.n.inp,.opq 10] 25)::(8,.row 2 (trO x l p N).length ((trO x l p N).flatMap Evt.cells) 62)::(9,.row 8 x.n.N.length ((x.n.N.flatMap Prm.vals).map .v) 60)::(10,.row 4 x.n.S.length ((jT x.n.S (trS x l p N).m).flatMap Syn.cells) 55)::(7,.row 3 p.length ((p.flatMap Prz.vals).map .v) 48)::(6,.cells [.opq 0,ii x.n.inp,.opq 1,.opq 2,.opq 3,.opq 4,.opq 5,ii ((N:Nat):Int)] 45)::(0,.rwin 8 x.n.N.length (x.n.N.flatMap Prm.vals))::(1,.rwin 4 x.n.S.length (x.n.S.flatMap Syn.vals))::(2,.rwin 10 x.rs.length (x.rs.flatMap Rul.vals))::(3,.rwin 1 x.pl.length (qB x.pl))::(4,.rwin 2 l.length (l.flatMap Evt.vals))::(5,.rwin 3 p.length (p.flatMap Prz.vals))::[]) 33 [12,13,14,15,16,18,19,20]
     ·intro g2
      refine Run.pE (hc _) [0,1,2,3,4,5,6,7,8,9,10,11] [17] [12,13,14,15,16,18,19,20] hlin ?_
      conv=>whnf
      rw[xW (F:=FRef) rfl rfl rfl rfl rfl (FRef_eq (rowOf_win rfl) (by omega))]
      conv=>whnf
      refine⟨by kernel_rfl,fun l1 hl1=> ?_,.inr ⟨[(95,.agg [.opq 0,ii x.n.inp,.opq 1]),(98,.opq 16),(100,.opq 3),(102,.opq 4),(103,.opq 7),(105,ii ((N:Nat):Int)),(7,.opq 8),(8,.ptr 11 0),(9,ii 0)],((16,.row 10 x.rs.length ((x.rs.flatMap Rul.vals).map .v) 40)::(11,.cells [.opq 9,ii x.n.inp,.opq 10] 25)::(8,.row 2 (trO x l p N).length ((trO x l p N).flatMap Evt.cells) 62)::(9,.row 8 x.n.N.length ((x.n.N.flatMap Prm.vals).map .v) 60)::(10,.row 4 x.n.S.length ((jT x.n.S (trS x l p N).m).flatMap Syn.cells) 55)::(7,.row 3 p.length ((p.flatMap Prz.vals).map .v) 48)::(6,.cells [.opq 0,ii x.n.inp,.opq 1,.opq 2,.opq 3,.opq 4,.opq 5,ii ((N:Nat):Int)] 45)::(0,.rwin 8 x.n.N.length (x.n.N.flatMap Prm.vals))::(1,.rwin 4 x.n.S.length (x.n.S.flatMap Syn.vals))::(2,.rwin 10 x.rs.length (x.rs.flatMap Rul.vals))::(3,.rwin 1 x.pl.length (qB x.pl))::(4,.rwin 2 l.length (l.flatMap Evt.vals))::(5,.rwin 3 p.length (p.flatMap Prz.vals))::[]),by kernel_rfl,(by repeat first|exact trivial|refine⟨rfl,?_⟩),(by repeat first|exact trivial|refine⟨rfl,?_⟩),fun l1 hl1=> ?_⟩⟩
      ·exact Run.r8 (g2 l1 hl1) rfl rfl rfl (by repeat first|exact trivial|refine⟨⟨by omega,Os.h _⟩,?_⟩|refine⟨⟨by omega,Os.h _⟩,?_⟩|refine⟨⟨by omega,Os.h _⟩,?_⟩|refine⟨⟨by omega,Os.h _⟩,?_⟩|refine⟨⟨by omega,zU _ rfl⟩,?_⟩) (fun p hp=>by cases hp)
      ·obtain⟨i,l2,rfl,hi,_,hl2⟩:=hl1.next [17,12] rfl rfl rfl
       have hi2:i=17∨i=12:=by simpa using hi
       rcases hi2 with rfl|rfl
       ·refine Run.r6 (hc _) 1 _ ?_
        conv=>whnf
        exact Run.pN (rq [(29,33),(33,29)]) (g2 l2 hl2) (by
         have inv :∀i,i<33→rq [(33,29),(29,33)] (rq [(29,33),(33,29)] i)=i:=by decide
         exact fun i hi j hj hne he=>hne (by rw[←inv i hi,he,inv j hj])) rfl rfl (by repeat first|exact trivial|refine⟨rfl,?_⟩|refine⟨congrArg some (ofx (o:=.row _ _ (List.flatMap Evt.cells _) _) (z5 _ _)).symm,?_⟩|refine⟨congrArg some (ofx (o:=.row _ _ (List.flatMap Syn.cells _) _) (jC _ _)).symm,?_⟩|refine⟨congrArg some (ofx (o:=.row _ _ (List.map SV.v _) _) (qR _ _)).symm,?_⟩) (by repeat first|exact trivial|refine⟨⟨by omega,Os.h _⟩,?_⟩|refine⟨⟨by omega,Os.h _⟩,?_⟩|refine⟨⟨by omega,Os.h _⟩,?_⟩|refine⟨⟨by omega,Os.h _⟩,?_⟩|refine⟨⟨by omega,zU _ rfl⟩,?_⟩) (fun p hp=>by cases hp)
       ·refine Run.pQ (gX x l p (N:Int) _ _ _ (fun h=>absurd he h) (fun _=>⟨N,rfl,hN,rfl,rfl,rfl⟩)) (ent _ _ Try.func21 (by kernel_rfl) rfl) rfl rfl rfl rfl rfl rfl rfl [.agg [.opq 0,ii x.n.inp,.opq 1],.opq 16,.opq 3,.opq 4,.opq 7,ii ((N:Nat):Int)] rfl (rq [(2,16),(5,7)]) rfl (fun q hq=>by have inv :∀q,q<6→rq [(2,16),(5,7)] q<33:=(by decide);exact inv q hq) _ rfl (fun q hq j hj hne=>by have inj :∀q∈[0,1,2,3,4,5],∀j∈[0,1,2,3,4,5],q≠j→rq [(2,16),(5,7)] q≠rq [(2,16),(5,7)] j:=(by decide);exact inj q hq j hj hne) rfl (by repeat first|exact trivial|refine⟨⟨by omega,Os.h _⟩,?_⟩) rfl (by repeat first|exact trivial|refine⟨⟨_,rfl,Conv.refl _⟩,?_⟩|refine⟨⟨_,rfl,Conv.row (by decide) rfl⟩,?_⟩) (fun q hq=>by cases hq)
         (.tup [.opq 33,.agg [.opq 0,ii x.n.inp,.opq 34],ii 0]) [(33,.row 2 (trO x l p N).length ((trO x l p N).flatMap Evt.cells) 62),(34,.row 4 x.n.S.length ((jT x.n.S (trS x l p N).m).flatMap Syn.cells) 55)] ((16,.row 10 x.rs.length ((x.rs.flatMap Rul.vals).map .v) 40)::(11,.cells [.opq 9,ii x.n.inp,.opq 10] 25)::(8,.row 2 (trO x l p N).length ((trO x l p N).flatMap Evt.cells) 62)::(9,.row 8 x.n.N.length ((x.n.N.flatMap Prm.vals).map .v) 60)::(10,.row 4 x.n.S.length ((jT x.n.S (trS x l p N).m).flatMap Syn.cells) 55)::(7,.row 3 p.length ((p.flatMap Prz.vals).map .v) 48)::(6,.cells [.opq 0,ii x.n.inp,.opq 1,.opq 2,.opq 3,.opq 4,.opq 5,ii ((N:Nat):Int)] 45)::(0,.rwin 8 x.n.N.length (x.n.N.flatMap Prm.vals))::(1,.rwin 4 x.n.S.length (x.n.S.flatMap Syn.vals))::(2,.rwin 10 x.rs.length (x.rs.flatMap Rul.vals))::(3,.rwin 1 x.pl.length (qB x.pl))::(4,.rwin 2 l.length (l.flatMap Evt.vals))::(5,.rwin 3 p.length (p.flatMap Prz.vals))::[]) 35 rfl rfl ⟨⟨6,_,rfl,rfl,(ofx (o:=.row _ _ (List.flatMap Evt.cells _) _) (z5 _ _)).symm,rfl⟩,⟨7,_,rfl,rfl,(ofx (o:=.row _ _ (List.flatMap Syn.cells _) _) (jC _ _)).symm,rfl⟩,trivial⟩ rfl rfl ?_
        refine Run.pE (hc _) [13,14,15,16,17,18,19,20] [] [] hl2 ?_
        conv=>whnf
        refine⟨by kernel_rfl,fun l3 hl3=> ?_,.inl rfl⟩
        exact Run.pN (rq [(12,33),(13,52),(14,34)]) (g1 l3 hl3) (by
         have inv :∀i,i<15→rq [(33,12),(52,13),(34,14)] (rq [(12,33),(13,52),(14,34)] i)=i:=by decide
         exact fun i hi j hj hne he=>hne (by rw[←inv i hi,he,inv j hj])) rfl rfl (by repeat first|exact trivial|refine⟨rfl,?_⟩|refine⟨congrArg some (ofx (o:=.row _ _ (List.flatMap Evt.cells _) _) (z5 _ _)).symm,?_⟩|refine⟨congrArg some (ofx (o:=.row _ _ (List.flatMap Syn.cells _) _) (jC _ _)).symm,?_⟩|refine⟨congrArg some (ofx (o:=.row _ _ (List.map SV.v _) _) (qR _ _)).symm,?_⟩) (by repeat first|exact trivial|refine⟨⟨by omega,Os.h _⟩,?_⟩|refine⟨⟨by omega,Os.h _⟩,?_⟩|refine⟨⟨by omega,Os.h _⟩,?_⟩|refine⟨⟨by omega,Os.h _⟩,?_⟩|refine⟨⟨by omega,zU _ rfl⟩,?_⟩) (fun p hp=>by cases hp)
     ·intro l1 hl1
      obtain⟨i,l2,rfl,hi,_,hl2⟩:=hl1.next [12] rfl rfl rfl
      obtain rfl:i=12:=by simpa using hi
      refine Run.pQ (gX x l p (N:Int) _ _ _ (fun h=>absurd he h) (fun _=>⟨N,rfl,hN,rfl,rfl,rfl⟩)) (ent _ _ Try.func21 (by kernel_rfl) rfl) rfl rfl rfl rfl rfl rfl rfl [.agg [.opq 0,ii x.n.inp,.opq 1],.opq 16,.opq 3,.opq 4,.opq 7,ii ((N:Nat):Int)] rfl (rq [(2,16),(5,7)]) rfl (fun q hq=>by have inv :∀q,q<6→rq [(2,16),(5,7)] q<33:=(by decide);exact inv q hq) _ rfl (fun q hq j hj hne=>by have inj :∀q∈[0,1,2,3,4,5],∀j∈[0,1,2,3,4,5],q≠j→rq [(2,16),(5,7)] q≠rq [(2,16),(5,7)] j:=(by decide);exact inj q hq j hj hne) rfl (by repeat first|exact trivial|refine⟨⟨by omega,Os.h _⟩,?_⟩) rfl (by repeat first|exact trivial|refine⟨⟨_,rfl,Conv.refl _⟩,?_⟩|refine⟨⟨_,rfl,Conv.row (by decide) rfl⟩,?_⟩) (fun q hq=>by cases hq)
       (.tup [.opq 33,.agg [.opq 0,ii x.n.inp,.opq 34],ii 0]) [(33,.row 2 (trO x l p N).length ((trO x l p N).flatMap Evt.cells) 62),(34,.row 4 x.n.S.length ((jT x.n.S (trS x l p N).m).flatMap Syn.cells) 55)] ((29,.cells [nq,ii 0,nq] 25)::(16,.row 10 x.rs.length ((x.rs.flatMap Rul.vals).map .v) 40)::(11,.cells [.opq 9,ii x.n.inp,.opq 10] 25)::(8,.row 2 (trO x l p N).length ((trO x l p N).flatMap Evt.cells) 62)::(9,.row 8 x.n.N.length ((x.n.N.flatMap Prm.vals).map .v) 60)::(10,.row 4 x.n.S.length ((jT x.n.S (trS x l p N).m).flatMap Syn.cells) 55)::(7,.row 3 p.length ((p.flatMap Prz.vals).map .v) 48)::(6,.cells [.opq 0,ii x.n.inp,.opq 1,.opq 2,.opq 3,.opq 4,.opq 5,ii ((N:Nat):Int)] 45)::(0,.rwin 8 x.n.N.length (x.n.N.flatMap Prm.vals))::(1,.rwin 4 x.n.S.length (x.n.S.flatMap Syn.vals))::(2,.rwin 10 x.rs.length (x.rs.flatMap Rul.vals))::(3,.rwin 1 x.pl.length (qB x.pl))::(4,.rwin 2 l.length (l.flatMap Evt.vals))::(5,.rwin 3 p.length (p.flatMap Prz.vals))::[]) 35 rfl rfl ⟨⟨6,_,rfl,rfl,(ofx (o:=.row _ _ (List.flatMap Evt.cells _) _) (z5 _ _)).symm,rfl⟩,⟨7,_,rfl,rfl,(ofx (o:=.row _ _ (List.flatMap Syn.cells _) _) (jC _ _)).symm,rfl⟩,trivial⟩ rfl rfl ?_
      refine Run.pE (hc _) [13,14,15,16,18,19,20] [] [] hl2 ?_
      conv=>whnf
      refine⟨by kernel_rfl,fun l3 hl3=> ?_,.inl rfl⟩
      exact Run.pN (rq [(12,33),(13,29),(14,34)]) (g1 l3 hl3) (by
       have inv :∀i,i<15→rq [(33,12),(29,13),(34,14)] (rq [(12,33),(13,29),(14,34)] i)=i:=by decide
       exact fun i hi j hj hne he=>hne (by rw[←inv i hi,he,inv j hj])) rfl rfl (by repeat first|exact trivial|refine⟨rfl,?_⟩|refine⟨congrArg some (ofx (o:=.row _ _ (List.flatMap Evt.cells _) _) (z5 _ _)).symm,?_⟩|refine⟨congrArg some (ofx (o:=.row _ _ (List.flatMap Syn.cells _) _) (jC _ _)).symm,?_⟩|refine⟨congrArg some (ofx (o:=.row _ _ (List.map SV.v _) _) (qR _ _)).symm,?_⟩) (by repeat first|exact trivial|refine⟨⟨by omega,Os.h _⟩,?_⟩|refine⟨⟨by omega,Os.h _⟩,?_⟩|refine⟨⟨by omega,Os.h _⟩,?_⟩|refine⟨⟨by omega,Os.h _⟩,?_⟩|refine⟨⟨by omega,zU _ rfl⟩,?_⟩) (fun p hp=>by cases hp)
    ·intro l1 hl1
     obtain rfl:=hl1.nil
     refine Run.W1 (hc _) ?_
     conv=>whnf
     refine Run.pB (g:=22) (vs:=[.opq 8,.opq 12]) (caps:=[]) (.v (.bool true)) (fun ρ w1 hW=>by
      have q1:=hW.rowsAtR (i:=8) rfl (by decide)
      have q2:=hW.rowsAtR (i:=12) rfl (by decide)
      rw[evts_v,zV]at q1 q2
      have:=same_run _ _ (trO x l p N) (trO x l p N) w1 q1 q2 (by omega)
      rw[decide_eq_true rfl]at this
      exact this) (ent _ _ Try.func22 (by kernel_rfl) rfl) rfl rfl rfl rfl rfl rfl rfl trivial ?_
     refine Run.W1 (hc _) ?_
     conv=>whnf
     rw[show((x.n.S.length:Int) != (x.n.S.length:Int))=false by simp]
     conv=>whnf
     rw[show((x.n.N.length:Int) != (x.n.N.length:Int))=false by simp]
     conv=>whnf
     rw[show(x.n.inp != x.n.inp)=false by simp]
     conv=>whnf
     have hnl:(jT x.n.S (trS x l p N).m).length=x.n.S.length:=gA _ _ _
     have hInF:In 15 ((8,.row 2 (trO x l p N).length ((trO x l p N).flatMap Evt.cells) 62)::(11,.cells [.opq 9,ii x.n.inp,.opq 10] 25)::(9,.row 8 x.n.N.length ((x.n.N.flatMap Prm.vals).map .v) 60)::(10,.row 4 x.n.S.length ((jT x.n.S (trS x l p N).m).flatMap Syn.cells) 55)::(12,.row 2 (trO x l p N).length ((trO x l p N).flatMap Evt.cells) 62)::(13,.cells [.opq 0,ii x.n.inp,.opq 14] 25)::(14,.row 4 x.n.S.length ((jT x.n.S (trS x l p N).m).flatMap Syn.cells) 55)::(0,.rwin 8 x.n.N.length (x.n.N.flatMap Prm.vals))::[]):=by repeat first|exact trivial|refine⟨⟨by omega,Os.h _⟩,?_⟩|refine⟨⟨by omega,Os.h _⟩,?_⟩|refine⟨⟨by omega,Os.h _⟩,?_⟩|refine⟨⟨by omega,Os.h _⟩,?_⟩|refine⟨⟨by omega,zU _ rfl⟩,?_⟩
     refine Run.pR (T:=fun k=>[(8,.ptr 11 0),(11,.ptr 13 0),(13,ii ((k:Nat):Int))]) (M:=fun _=>((8,.row 2 (trO x l p N).length ((trO x l p N).flatMap Evt.cells) 62)::(11,.cells [.opq 9,ii x.n.inp,.opq 10] 25)::(9,.row 8 x.n.N.length ((x.n.N.flatMap Prm.vals).map .v) 60)::(10,.row 4 x.n.S.length ((jT x.n.S (trS x l p N).m).flatMap Syn.cells) 55)::(12,.row 2 (trO x l p N).length ((trO x l p N).flatMap Evt.cells) 62)::(13,.cells [.opq 0,ii x.n.inp,.opq 14] 25)::(14,.row 4 x.n.S.length ((jT x.n.S (trS x l p N).m).flatMap Syn.cells) 55)::(0,.rwin 8 x.n.N.length (x.n.N.flatMap Prm.vals))::[])) 15 (fun _=>True) x.n.S.length rfl rfl rfl hInF (fun p hp=>by cases hp) trivial ?_ ?_
     ·intro k hk _ ih
      have hsk:IntKind.i64.wrap (((k:Nat):Int)+1)=((k+1:Nat):Int):=zC (by omega)
      refine Run.W1 (hc _) ?_
      conv=>whnf
      rw[decide_eq_true (show((k:Nat):Int)<(x.n.S.length:Int)by omega)]
      conv=>whnf
      refine Run.draw (hc _) 11 ?_
      rw[show qC 0 11=qC 0 4++(qC 4 1++(qC 5 4++(qC 9 1++qC 10 1)))from rfl]
      simp only[qP]
      conv=>whnf
      refine⟨by omega,?_⟩
      conv=>whnf
      rw[uG (f:=Syn.cells) (l:=jT x.n.S (trS x l p N).m) k rfl rfl rfl rfl rfl Syn.clen (by rw[qD]) (by omega)]
      conv=>whnf
      refine⟨by omega,?_⟩
      conv=>whnf
      rw[uG (f:=Syn.cells) (l:=jT x.n.S (trS x l p N).m) k rfl rfl rfl rfl rfl Syn.clen (by rw[qD]) (by omega)]
      obtain⟨y,hy⟩ :∃y,(jT x.n.S (trS x l p N).m)[k]=y:=⟨_,rfl⟩
      rw[hy]
      obtain⟨y1,y2,y3,y4⟩:=y
      conv=>whnf
      refine⟨by kernel_rfl,?_⟩
      refine Run.W1 (hc _) ?_
      conv=>whnf
      rw[show(!(y1==y1&&(y2==y2&&(y3==y3&&(y4==y4&&true)))))=false by simp]
      conv=>whnf
      exact Run.r8 (ih trivial) (by rw[hsk];rfl) rfl rfl hInF (fun p hp=>by cases hp)
     ·intro _
      refine Run.W1 (hc _) ?_
      conv=>whnf
      rw[decide_eq_false (show ¬((x.n.S.length:Nat):Int)<(x.n.S.length:Int)by omega)]
      conv=>whnf
      exact⟨fun ρ w' hW _=>⟨rfl,hW.toExt⟩⟩
   ·obtain⟨e,hee⟩ :∃e,yQ x.n x.rs x.pl l p K=e:=⟨_,rfl⟩
    have he':=he
    rw[hee]at he'
    refine Run.pB (g:=20) (vs:=[.agg [.opq 0,ii x.n.inp,.opq 1],.opq 2,.opq 3,.opq 4,.opq 5,ii K]) (caps:=[]) (.tup [nq,.agg [nq,ii 0,nq],ii e]) (fun ρ w1 hW=>by
     have:=train_bad _ _ x.n _ x.rs _ x.pl _ l _ p K w1 he ⟨hW.rowsAt (i:=0) rfl,hW.rowsAt (i:=1) rfl⟩ (hW.rowsAt (i:=2) rfl) (hW.rowsAt (i:=3) rfl) (hW.rowsAt (i:=4) rfl) (hW.rowsAt (i:=5) rfl)
     rw[hee]at this
     exact this) (ent _ _ Try.func20 (by kernel_rfl) rfl) rfl rfl rfl rfl rfl rfl rfl ⟨trivial,⟨trivial,trivial,trivial,trivial⟩,trivial,trivial⟩ ?_
    refine Run.W1 (hc _) ?_
    conv=>whnf
    have hrs:=gX x l p K (.tup [nq,.agg [nq,ii 0,nq],ii e]) [] 6 (fun _=>⟨by rw[hee],rfl,rfl⟩) (fun h=>absurd h he)
    refine Run.r8 (n':=12) (T':=[(1,.ptr 6 0),(5,.opq 7),(7,nq),(8,.ptr 8 0),(9,ii e)]) (M':=((8,.cells [nq,ii 0,nq] 25)::(7,.row 3 p.length ((p.flatMap Prz.vals).map .v) 48)::(6,.cells [.opq 0,ii x.n.inp,.opq 1,.opq 2,.opq 3,.opq 4,.opq 5,ii K] 45)::(0,.rwin 8 x.n.N.length (x.n.N.flatMap Prm.vals))::(1,.rwin 4 x.n.S.length (x.n.S.flatMap Syn.vals))::(2,.rwin 10 x.rs.length (x.rs.flatMap Rul.vals))::(3,.rwin 1 x.pl.length (qB x.pl))::(4,.rwin 2 l.length (l.flatMap Evt.vals))::(5,.rwin 3 p.length (p.flatMap Prz.vals))::[])) ?_ rfl rfl rfl (by repeat first|exact trivial|refine⟨⟨by omega,Os.h _⟩,?_⟩|refine⟨⟨by omega,Os.h _⟩,?_⟩|refine⟨⟨by omega,Os.h _⟩,?_⟩|refine⟨⟨by omega,Os.h _⟩,?_⟩|refine⟨⟨by omega,zU _ rfl⟩,?_⟩) (fun p hp=>by cases hp)
    refine Run.pU (hc _) fun l0 hl0=> ?_
    have hlin:=Lin.ofGo [0,1,2,3,4,5,6,7,8,9,10,11,12,13,14,15,16,17,18,19,20] hl0 rfl (by decide)
    apply joinA (k:=_) [(7,nq),(8,.ptr 8 0),(9,ii e),(10,nq),(11,.ptr 13 0),(12,ii e)] ((8,.cells [nq,ii 0,nq] 25)::(13,.cells [nq,ii 0,nq] 25)::[]) 15 []
    ·intro g1
     apply joinA (k:=_) [(11,.ptr 29 0),(95,.agg [.opq 0,ii x.n.inp,.opq 1]),(98,.opq 16),(100,.opq 3),(102,.opq 4),(103,.opq 7),(105,ii K),(7,nq),(8,.ptr 8 0),(9,ii e)] ((29,.cells [nq,ii 0,nq] 25)::(16,.row 10 x.rs.length ((x.rs.flatMap Rul.vals).map .v) 40)::(8,.cells [nq,ii 0,nq] 25)::(7,.row 3 p.length ((p.flatMap Prz.vals).map .v) 48)::(6,.cells [.opq 0,ii x.n.inp,.opq 1,.opq 2,.opq 3,.opq 4,.opq 5,ii K] 45)::(0,.rwin 8 x.n.N.length (x.n.N.flatMap Prm.vals))::(1,.rwin 4 x.n.S.length (x.n.S.flatMap Syn.vals))::(2,.rwin 10 x.rs.length (x.rs.flatMap Rul.vals))::(3,.rwin 1 x.pl.length (qB x.pl))::(4,.rwin 2 l.length (l.flatMap Evt.vals))::(5,.rwin 3 p.length (p.flatMap Prz.vals))::[]) 33 [12,13,14,15,16,18,19,20]
     ·intro g2
      refine Run.pE (hc _) [0,1,2,3,4,5,6,7,8,9,10,11] [17] [12,13,14,15,16,18,19,20] hlin ?_
      conv=>whnf
      rw[xW (F:=FRef) rfl rfl rfl rfl rfl (FRef_eq (rowOf_win rfl) (by omega))]
      conv=>whnf
      refine⟨by kernel_rfl,fun l1 hl1=> ?_,.inr ⟨[(95,.agg [.opq 0,ii x.n.inp,.opq 1]),(98,.opq 16),(100,.opq 3),(102,.opq 4),(103,.opq 7),(105,ii K),(7,nq),(8,.ptr 8 0),(9,ii e)],((16,.row 10 x.rs.length ((x.rs.flatMap Rul.vals).map .v) 40)::(8,.cells [nq,ii 0,nq] 25)::(7,.row 3 p.length ((p.flatMap Prz.vals).map .v) 48)::(6,.cells [.opq 0,ii x.n.inp,.opq 1,.opq 2,.opq 3,.opq 4,.opq 5,ii K] 45)::(0,.rwin 8 x.n.N.length (x.n.N.flatMap Prm.vals))::(1,.rwin 4 x.n.S.length (x.n.S.flatMap Syn.vals))::(2,.rwin 10 x.rs.length (x.rs.flatMap Rul.vals))::(3,.rwin 1 x.pl.length (qB x.pl))::(4,.rwin 2 l.length (l.flatMap Evt.vals))::(5,.rwin 3 p.length (p.flatMap Prz.vals))::[]),by kernel_rfl,(by repeat first|exact trivial|refine⟨rfl,?_⟩),(by repeat first|exact trivial|refine⟨rfl,?_⟩),fun l1 hl1=> ?_⟩⟩
      ·exact Run.r8 (g2 l1 hl1) rfl rfl rfl (by repeat first|exact trivial|refine⟨⟨by omega,Os.h _⟩,?_⟩|refine⟨⟨by omega,Os.h _⟩,?_⟩|refine⟨⟨by omega,Os.h _⟩,?_⟩|refine⟨⟨by omega,Os.h _⟩,?_⟩|refine⟨⟨by omega,zU _ rfl⟩,?_⟩) (fun p hp=>by cases hp)
      ·obtain⟨i,l2,rfl,hi,_,hl2⟩:=hl1.next [17,12] rfl rfl rfl
       have hi2:i=17∨i=12:=by simpa using hi
       rcases hi2 with rfl|rfl
       ·refine Run.r6 (hc _) 1 _ ?_
        conv=>whnf
        exact Run.pN (rq [(29,33),(33,29)]) (g2 l2 hl2) (by
         have inv :∀i,i<33→rq [(33,29),(29,33)] (rq [(29,33),(33,29)] i)=i:=by decide
         exact fun i hi j hj hne he=>hne (by rw[←inv i hi,he,inv j hj])) rfl rfl (by repeat first|exact trivial|refine⟨rfl,?_⟩|refine⟨congrArg some (ofx (o:=.row _ _ (List.flatMap Evt.cells _) _) (z5 _ _)).symm,?_⟩|refine⟨congrArg some (ofx (o:=.row _ _ (List.flatMap Syn.cells _) _) (jC _ _)).symm,?_⟩|refine⟨congrArg some (ofx (o:=.row _ _ (List.map SV.v _) _) (qR _ _)).symm,?_⟩) (by repeat first|exact trivial|refine⟨⟨by omega,Os.h _⟩,?_⟩|refine⟨⟨by omega,Os.h _⟩,?_⟩|refine⟨⟨by omega,Os.h _⟩,?_⟩|refine⟨⟨by omega,Os.h _⟩,?_⟩|refine⟨⟨by omega,zU _ rfl⟩,?_⟩) (fun p hp=>by cases hp)
       ·refine Run.pQ hrs (ent _ _ Try.func21 (by kernel_rfl) rfl) rfl rfl rfl rfl rfl rfl rfl [.agg [.opq 0,ii x.n.inp,.opq 1],.opq 16,.opq 3,.opq 4,.opq 7,ii K] rfl (rq [(2,16),(5,7)]) rfl (fun q hq=>by have inv :∀q,q<6→rq [(2,16),(5,7)] q<33:=(by decide);exact inv q hq) _ rfl (fun q hq j hj hne=>by have inj :∀q∈[0,1,2,3,4,5],∀j∈[0,1,2,3,4,5],q≠j→rq [(2,16),(5,7)] q≠rq [(2,16),(5,7)] j:=(by decide);exact inj q hq j hj hne) rfl (by repeat first|exact trivial|refine⟨⟨by omega,Os.h _⟩,?_⟩) rfl (by repeat first|exact trivial|refine⟨⟨_,rfl,Conv.refl _⟩,?_⟩|refine⟨⟨_,rfl,Conv.row (by decide) rfl⟩,?_⟩) (fun q hq=>by cases hq)
         (.tup [nq,.agg [nq,ii 0,nq],ii e]) [] ((16,.row 10 x.rs.length ((x.rs.flatMap Rul.vals).map .v) 40)::(8,.cells [nq,ii 0,nq] 25)::(7,.row 3 p.length ((p.flatMap Prz.vals).map .v) 48)::(6,.cells [.opq 0,ii x.n.inp,.opq 1,.opq 2,.opq 3,.opq 4,.opq 5,ii K] 45)::(0,.rwin 8 x.n.N.length (x.n.N.flatMap Prm.vals))::(1,.rwin 4 x.n.S.length (x.n.S.flatMap Syn.vals))::(2,.rwin 10 x.rs.length (x.rs.flatMap Rul.vals))::(3,.rwin 1 x.pl.length (qB x.pl))::(4,.rwin 2 l.length (l.flatMap Evt.vals))::(5,.rwin 3 p.length (p.flatMap Prz.vals))::[]) 33 rfl rfl trivial rfl rfl ?_
        refine Run.pE (hc _) [13,14,15,16,17,18,19,20] [] [] hl2 ?_
        conv=>whnf
        refine⟨by kernel_rfl,fun l3 hl3=> ?_,.inl rfl⟩
        exact Run.pN (rq [(13,50)]) (g1 l3 hl3) (by
         have inv :∀i,i<15→rq [(50,13)] (rq [(13,50)] i)=i:=by decide
         exact fun i hi j hj hne he=>hne (by rw[←inv i hi,he,inv j hj])) rfl rfl (by repeat first|exact trivial|refine⟨rfl,?_⟩|refine⟨congrArg some (ofx (o:=.row _ _ (List.flatMap Evt.cells _) _) (z5 _ _)).symm,?_⟩|refine⟨congrArg some (ofx (o:=.row _ _ (List.flatMap Syn.cells _) _) (jC _ _)).symm,?_⟩|refine⟨congrArg some (ofx (o:=.row _ _ (List.map SV.v _) _) (qR _ _)).symm,?_⟩) (by repeat first|exact trivial|refine⟨⟨by omega,Os.h _⟩,?_⟩|refine⟨⟨by omega,Os.h _⟩,?_⟩|refine⟨⟨by omega,Os.h _⟩,?_⟩|refine⟨⟨by omega,Os.h _⟩,?_⟩|refine⟨⟨by omega,zU _ rfl⟩,?_⟩) (fun p hp=>by cases hp)
     ·intro l1 hl1
      obtain⟨i,l2,rfl,hi,_,hl2⟩:=hl1.next [12] rfl rfl rfl
      obtain rfl:i=12:=by simpa using hi
      refine Run.pQ hrs (ent _ _ Try.func21 (by kernel_rfl) rfl) rfl rfl rfl rfl rfl rfl rfl [.agg [.opq 0,ii x.n.inp,.opq 1],.opq 16,.opq 3,.opq 4,.opq 7,ii K] rfl (rq [(2,16),(5,7)]) rfl (fun q hq=>by have inv :∀q,q<6→rq [(2,16),(5,7)] q<33:=(by decide);exact inv q hq) _ rfl (fun q hq j hj hne=>by have inj :∀q∈[0,1,2,3,4,5],∀j∈[0,1,2,3,4,5],q≠j→rq [(2,16),(5,7)] q≠rq [(2,16),(5,7)] j:=(by decide);exact inj q hq j hj hne) rfl (by repeat first|exact trivial|refine⟨⟨by omega,Os.h _⟩,?_⟩) rfl (by repeat first|exact trivial|refine⟨⟨_,rfl,Conv.refl _⟩,?_⟩|refine⟨⟨_,rfl,Conv.row (by decide) rfl⟩,?_⟩) (fun q hq=>by cases hq)
       (.tup [nq,.agg [nq,ii 0,nq],ii e]) [] ((29,.cells [nq,ii 0,nq] 25)::(16,.row 10 x.rs.length ((x.rs.flatMap Rul.vals).map .v) 40)::(8,.cells [nq,ii 0,nq] 25)::(7,.row 3 p.length ((p.flatMap Prz.vals).map .v) 48)::(6,.cells [.opq 0,ii x.n.inp,.opq 1,.opq 2,.opq 3,.opq 4,.opq 5,ii K] 45)::(0,.rwin 8 x.n.N.length (x.n.N.flatMap Prm.vals))::(1,.rwin 4 x.n.S.length (x.n.S.flatMap Syn.vals))::(2,.rwin 10 x.rs.length (x.rs.flatMap Rul.vals))::(3,.rwin 1 x.pl.length (qB x.pl))::(4,.rwin 2 l.length (l.flatMap Evt.vals))::(5,.rwin 3 p.length (p.flatMap Prz.vals))::[]) 33 rfl rfl trivial rfl rfl ?_
      refine Run.pE (hc _) [13,14,15,16,18,19,20] [] [] hl2 ?_
      conv=>whnf
      refine⟨by kernel_rfl,fun l3 hl3=> ?_,.inl rfl⟩
      exact Run.pN (rq [(13,29)]) (g1 l3 hl3) (by
       have inv :∀i,i<15→rq [(29,13)] (rq [(13,29)] i)=i:=by decide
       exact fun i hi j hj hne he=>hne (by rw[←inv i hi,he,inv j hj])) rfl rfl (by repeat first|exact trivial|refine⟨rfl,?_⟩|refine⟨congrArg some (ofx (o:=.row _ _ (List.flatMap Evt.cells _) _) (z5 _ _)).symm,?_⟩|refine⟨congrArg some (ofx (o:=.row _ _ (List.flatMap Syn.cells _) _) (jC _ _)).symm,?_⟩|refine⟨congrArg some (ofx (o:=.row _ _ (List.map SV.v _) _) (qR _ _)).symm,?_⟩) (by repeat first|exact trivial|refine⟨⟨by omega,Os.h _⟩,?_⟩|refine⟨⟨by omega,Os.h _⟩,?_⟩|refine⟨⟨by omega,Os.h _⟩,?_⟩|refine⟨⟨by omega,Os.h _⟩,?_⟩|refine⟨⟨by omega,zU _ rfl⟩,?_⟩) (fun p hp=>by cases hp)
    ·intro l1 hl1
     obtain rfl:=hl1.nil
     refine Run.W1 (hc _) ?_
     conv=>whnf
     rw[show(e != e)=false by simp]
     conv=>whnf
     refine Run.pB (g:=22) (vs:=[nq,nq]) (caps:=[]) (.v (.bool true)) (fun ρ w1 hW=>by
      have:=same_run _ _ [] [] w1 ⟨rfl,none,0,rfl,Nat.le_refl _,.inl rfl⟩ ⟨rfl,none,0,rfl,Nat.le_refl _,.inl rfl⟩ (by decide)
      rw[decide_eq_true rfl]at this
      exact this) (ent _ _ Try.func22 (by kernel_rfl) rfl) rfl rfl rfl rfl rfl rfl rfl trivial ?_
     refine Run.W1 (hc _) ?_
     conv=>whnf
     refine Run.W1 (hc _) ?_
     conv=>whnf
     exact⟨fun ρ w' hW _=>⟨rfl,hW.toExt⟩⟩
end Go.Proofs.Ytnnlpdgnlccbjaa
