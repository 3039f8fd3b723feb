/-
  Laws of the small executor, and walks of the functions that the statement reaches (part 12 of several, put together out of smaller texts).
  The conditions stand with each law.
-/
import Derived.Test.YtnnlpdgnlccbjaaMSk
namespace Go.Proofs.Ytnnlpdgnlccbjaa
open Go.Sx
set_option maxRecDepth 100000
set_option maxHeartbeats 8000000
abbrev pfRst:PF:=[(47,F3 fun n lo hi=>.bool (wi n lo hi))]
theorem pfRst_ok:PF.oks Try.prog pfRst:=⟨uE,trivial⟩
theorem rStep_bad (x:Lnt)(s:Lst)(sn:Nat→List Int)(ins rw0:List Int)(e:Int)(hx:NetOK x)(he:jX x s ins rw0=e)(hne:e≠0)(hin:ins.length≤90000)(hrw:rw0.length≤90000) :
  BSpec Try.prog 39 [.ptr 0 0,.opq 41,.opq 42] (rM x s sn [(41,.rwin 1 ins.length (qB ins)),(42,.rwin 1 rw0.length (qB rw0))]) 43 [0,3,6,7,8] (.tup [nq,ii e]) [(0,.cells (zS (ii s.tick) x.n.inp) 108),(3,.row 2 x.n.N.length (s.st.flatMap Ste.cells) 139),(6,.row 4 x.n.S.length (s.m.flatMap Mrk.cells) 141),(7,.row 1 x.rs.length (zT 25 x.rs.length) 27),(8,.row 1 16 [.opq 9,.opq 10,.opq 11,.opq 12,.opq 13,.opq 14,.opq 15,.opq 16,.opq 17,.opq 18,.opq 19,.opq 20,.opq 21,.opq 22,.opq 23,.opq 24] 27)] 43:=by
 have hN1:=hx.N1
 have hinp0:=hx.inp0
 have hinp1:=hx.inp1
 have hRl:=hx.rl
 have hc :∀w L' rd,(∀p,rd=some p→p∈L')→Cx.ok ⟨Try.prog,tab,pfRst,39,Try.f39,[],w,L',rd⟩:=fun w L' rd h=>⟨qI,pfRst_ok,Try.func39,mixed,h⟩
 refine BSpec.start (tab:=tab) (pf:=pfRst) (cuts:=[]) Try.func39 rfl ⟨(show 0<43 by decide),(show 41<43 by decide),ltb rfl,trivial⟩ rfl fun w L0 plp hL hLB hcov=>Run.r8 (hc w L0 none nofun) 100 _ ?_
 have hIn:In 44 ((43,.pin plp)::rM x s sn [(41,.rwin 1 ins.length (qB ins)),(42,.rwin 1 rw0.length (qB rw0))]):=⟨⟨by omega,pnx hcov rfl⟩,rM_in hRl s sn (by omega) ⟨⟨by omega,Os.h _⟩,⟨by omega,Os.h _⟩,trivial⟩⟩
 have hL44 :∀p∈L0,p.1<44:=fun p hp=>by have:=hLB p hp;omega
 generalize hRR:SpecR _ _ _ _ _ _=RR
 conv=>whnf
 by_cases hlt:10000≤s.tick
 ·obtain rfl:e=8:=by rw[←he];unfold jX;rw[if_pos hlt]
  rw[show decide ((10000:Int)≤s.tick)=true by simpa using hlt]
  conv=>whnf
  rw[←hRR]
  exact SpecR.intro 43 (by decide) hLB (by decide) hcov rfl rfl ⟨trivial,trivial,trivial⟩ ⟨⟨rfl,by omega,qC _ rfl⟩,⟨by rw[ofx (o:=.row 2 x.n.N.length (s.st.flatMap Ste.cells) 139) (qQ _ _)];rfl,by omega,Os.h _⟩,⟨by rw[ofx (o:=.row 4 x.n.S.length (s.m.flatMap Mrk.cells) 141) (qF _ _)];rfl,by omega,Os.h _⟩,⟨congrArg some (z5 (b:=25) (b':=25) fun j hj=>yN (show 25+j<43 by omega)).symm,by omega,qO (by omega)⟩,⟨rfl,by omega,qC _ rfl⟩,trivial⟩
 rw[show decide ((10000:Int)≤s.tick)=false by simpa using hlt]
 conv=>whnf
 refine Run.pT (T:=fun i=>[(0,.ptr 0 0),(1,.opq 41),(2,.opq 42),(6,nq),(7,ii 0),(8,ii ((i:Nat):Int))]) (M:=fun _=>(43,.pin plp)::rM x s sn [(41,.rwin 1 ins.length (qB ins)),(42,.rwin 1 rw0.length (qB rw0))]) 44 (fun i=> ∀j,j<ins.length→j<i→jZ x.n.inp ins j=0) ins.length rfl rfl rfl hIn hL44 (fun j _ hj=>by omega) ?_ ?_
 ·intro i hi hJ ih
  refine Run.W2 hc ?_
  conv=>whnf
  rw[decide_eq_true (show((i:Nat):Int)<(ins.length:Int)by omega)]
  conv=>whnf
  have hsu:IntKind.i64.wrap (((i:Nat):Int)+1)=((i+1:Nat):Int):=zH (by omega)
  have hgi:ins.getD i 0=ins[i]:=by simp[List.getD_eq_getElem?_getD,hi]
  refine Run.draw (hc w L0 none nofun) 12 ?_
  rw[show qD 0 12=qD 0 3++(qD 3 1++qD 4 8)from rfl]
  simp only[qN]
  conv=>whnf
  refine⟨by omega,?_⟩
  conv=>whnf
  rw[qY i rfl rfl rfl rfl (by rw[qE,Nat.mul_one]) (zA hi)]
  conv=>whnf
  refine⟨by kernel_rfl,?_⟩
  refine Run.W2 hc ?_
  conv=>whnf
  cases hb:wi ins[i] 0 (IntKind.i64.wrap (x.n.inp-1))
  case false=>
   have hat:jZ x.n.inp ins i=3:=by unfold jZ;rw[hgi,show wi ins[i] 0 (W (x.n.inp-1))=false from hb];rfl
   have hck:j6 x.n.inp ins=3:=by unfold j6;rw[xC hi hJ (by rw[hat];decide),hat]
   obtain rfl:e=3:=by rw[←he];unfold jX;rw[if_neg hlt,hck];rfl
   conv=>whnf
   rw[←hRR]
   exact SpecR.intro 43 (by decide) hLB (by decide) hcov rfl rfl ⟨trivial,trivial,trivial⟩ ⟨⟨rfl,by omega,qC _ rfl⟩,⟨by rw[ofx (o:=.row 2 x.n.N.length (s.st.flatMap Ste.cells) 139) (qQ _ _)];rfl,by omega,Os.h _⟩,⟨by rw[ofx (o:=.row 4 x.n.S.length (s.m.flatMap Mrk.cells) 141) (qF _ _)];rfl,by omega,Os.h _⟩,⟨congrArg some (z5 (b:=25) (b':=25) fun j hj=>yN (show 25+j<43 by omega)).symm,by omega,qO (by omega)⟩,⟨rfl,by omega,qC _ rfl⟩,trivial⟩
  have hb2:wi ins[i] 0 (W (x.n.inp-1))=true:=hb
  conv=>whnf
  by_cases hi0:i=0
  ·subst hi0
   refine Run.draw (hc w L0 none nofun) 14 ?_
   conv=>whnf
   refine⟨by kernel_rfl,?_⟩
   refine Run.W2 hc ?_
   conv=>whnf
   have hat:jZ x.n.inp ins 0=0:=by unfold jZ;rw[hgi,hb2];simp only[Bool.true_eq_false,if_false];rw[if_neg (fun h=>absurd h.1 (by decide))]
   exact Run.pN (ih (upN hJ hat)) (by rw[hsu];rfl) rfl rfl hIn hL44
  have hw1:IntKind.i64.wrap ((i:Int)-1)=((i-1:Nat):Int):=by
   rw[show(i:Int)-1=((i-1:Nat):Int)by omega]
   exact zL (by omega) (by omega)
  refine Run.draw (hc w L0 none nofun) 14 ?_
  rw[show qD 0 14=qD 0 2++(qD 2 4++(qD 6 1++(qD 7 4++(qD 11 1++qD 12 2))))from rfl]
  simp only[qN]
  conv=>whnf
  rw[show decide ((0:Int)<((i:Nat):Int))=true by rw[decide_eq_true_eq];omega]
  conv=>whnf
  refine⟨by omega,?_⟩
  conv=>whnf
  rw[qY i rfl rfl rfl rfl (by rw[qE,Nat.mul_one]) (zA hi)]
  conv=>whnf
  refine⟨by show 0≤IntKind.i64.wrap ((i:Int)-1)∧IntKind.i64.wrap ((i:Int)-1)<(ins.length:Int);rw[hw1];omega,?_⟩
  conv=>whnf
  rw[qY (i-1) rfl rfl rfl rfl (by show idx (IntKind.i64.wrap ((i:Int)-1)) 1=_;rw[hw1];rfl) (zA (by omega))]
  conv=>whnf
  refine⟨by kernel_rfl,?_⟩
  refine Run.W2 hc ?_
  conv=>whnf
  have hgp:ins.getD (i-1) 0=ins[i-1]:=by simp[List.getD_eq_getElem?_getD,show i-1<ins.length by omega]
  cases hq:decide (ins[i]≤ins[i-1])
  case true=>
   have hat:jZ x.n.inp ins i=2:=by unfold jZ;rw[hgi,hgp,hb2];simp only[Bool.true_eq_false,if_false];rw[if_pos ⟨by omega,of_decide_eq_true hq⟩]
   have hck:j6 x.n.inp ins=2:=by unfold j6;rw[xC hi hJ (by rw[hat];decide),hat]
   obtain rfl:e=2:=by rw[←he];unfold jX;rw[if_neg hlt,hck];rfl
   conv=>whnf
   rw[←hRR]
   exact SpecR.intro 43 (by decide) hLB (by decide) hcov rfl rfl ⟨trivial,trivial,trivial⟩ ⟨⟨rfl,by omega,qC _ rfl⟩,⟨by rw[ofx (o:=.row 2 x.n.N.length (s.st.flatMap Ste.cells) 139) (qQ _ _)];rfl,by omega,Os.h _⟩,⟨by rw[ofx (o:=.row 4 x.n.S.length (s.m.flatMap Mrk.cells) 141) (qF _ _)];rfl,by omega,Os.h _⟩,⟨congrArg some (z5 (b:=25) (b':=25) fun j hj=>yN (show 25+j<43 by omega)).symm,by omega,qO (by omega)⟩,⟨rfl,by omega,qC _ rfl⟩,trivial⟩
  have hat:jZ x.n.inp ins i=0:=by unfold jZ;rw[hgi,hgp,hb2];simp only[Bool.true_eq_false,if_false];rw[if_neg (fun h=>of_decide_eq_false hq h.2)]
  conv=>whnf
  exact Run.pN (ih (upN hJ hat)) (by rw[hsu];rfl) rfl rfl hIn hL44
 ·intro hJ
  refine Run.W2 hc ?_
  conv=>whnf
  rw[decide_eq_false (show ¬((ins.length:Nat):Int)<(ins.length:Int)by omega)]
  conv=>whnf
  have hins:j6 x.n.inp ins=0:=by unfold j6;exact uT fun j hj=>hJ j hj hj
  have he2:kB x.rs.length rw0=e:=by rw[←he];unfold jX;rw[if_neg hlt,hins];rfl
  clear hJ
  by_cases hz:(rw0.length:Int)=0
  ·exact absurd (by rw[←he2];unfold kB;rw[if_pos hz]) hne
  rw[decide_eq_true (show(0:Int)<(rw0.length:Int)by omega)]
  conv=>whnf
  cases hz2:((rw0.length:Int) != (x.rs.length:Int))
  case true=>
   obtain rfl:e=13:=by rw[←he2];unfold kB;rw[if_neg hz,if_pos (by simpa using hz2)]
   conv=>whnf
   rw[←hRR]
   exact SpecR.intro 43 (by decide) hLB (by decide) hcov rfl rfl ⟨trivial,trivial,trivial⟩ ⟨⟨rfl,by omega,qC _ rfl⟩,⟨by rw[ofx (o:=.row 2 x.n.N.length (s.st.flatMap Ste.cells) 139) (qQ _ _)];rfl,by omega,Os.h _⟩,⟨by rw[ofx (o:=.row 4 x.n.S.length (s.m.flatMap Mrk.cells) 141) (qF _ _)];rfl,by omega,Os.h _⟩,⟨congrArg some (z5 (b:=25) (b':=25) fun j hj=>yN (show 25+j<43 by omega)).symm,by omega,qO (by omega)⟩,⟨rfl,by omega,qC _ rfl⟩,trivial⟩
  conv=>whnf
  have hz3:kB x.rs.length rw0=if kO rw0=true then 3 else 0:=by unfold kB;rw[if_neg hz,if_neg (by simpa using hz2)]
  refine Run.pT (T:=fun i=>[(0,.ptr 0 0),(1,.opq 41),(2,.opq 42),(6,nq),(7,ii 0),(9,ii ((i:Nat):Int))]) (M:=fun _=>(43,.pin plp)::rM x s sn [(41,.rwin 1 ins.length (qB ins)),(42,.rwin 1 rw0.length (qB rw0))]) 44 (fun i=> ∀j,j<rw0.length→j<i→rwF rw0 j=0) rw0.length rfl rfl rfl hIn hL44 (fun j _ hj=>by omega) ?_ ?_
  ·intro i hi hJ ih
   refine Run.W2 hc ?_
   conv=>whnf
   rw[decide_eq_true (show((i:Nat):Int)<(rw0.length:Int)by omega)]
   conv=>whnf
   have hsu:IntKind.i64.wrap (((i:Nat):Int)+1)=((i+1:Nat):Int):=zH (by omega)
   refine⟨by omega,?_⟩
   conv=>whnf
   rw[qY i rfl rfl rfl rfl (by rw[qE,Nat.mul_one]) (zA hi)]
   conv=>whnf
   have hgi:rw0.getD i 0=rw0[i]:=by simp[List.getD_eq_getElem?_getD,hi]
   cases hb:wi rw0[i] (-128) 127
   case false=>
    have hbd:kO rw0=true:=by
     unfold kO
     rw[rwIx_at hi hJ (by rw[hgi];exact hb)]
     simp
    obtain rfl:e=3:=by rw[←he2,hz3,hbd];rfl
    conv=>whnf
    rw[←hRR]
    exact SpecR.intro 43 (by decide) hLB (by decide) hcov rfl rfl ⟨trivial,trivial,trivial⟩ ⟨⟨rfl,by omega,qC _ rfl⟩,⟨by rw[ofx (o:=.row 2 x.n.N.length (s.st.flatMap Ste.cells) 139) (qQ _ _)];rfl,by omega,Os.h _⟩,⟨by rw[ofx (o:=.row 4 x.n.S.length (s.m.flatMap Mrk.cells) 141) (qF _ _)];rfl,by omega,Os.h _⟩,⟨congrArg some (z5 (b:=25) (b':=25) fun j hj=>yN (show 25+j<43 by omega)).symm,by omega,qO (by omega)⟩,⟨rfl,by omega,qC _ rfl⟩,trivial⟩
   have hat:rwF rw0 i=0:=by unfold rwF;rw[hgi,hb];rfl
   conv=>whnf
   exact Run.pN (ih (upN hJ hat)) (by rw[hsu];rfl) rfl rfl hIn hL44
  ·intro hJ
   refine Run.W2 hc ?_
   conv=>whnf
   rw[decide_eq_false (show ¬((rw0.length:Nat):Int)<(rw0.length:Int)by omega)]
   conv=>whnf
   exact absurd (by
    rw[←he2,hz3]
    unfold kO
    rw[rwIx_no fun j hj=>hJ j hj hj];rfl) hne
theorem rStep_ok (x:Lnt)(s:Lst)(sn:Nat→List Int)(ins rw0:List Int)(hx:NetOK x)(h:LInv x s)(hs:SnOK s sn)(he:jX x s ins rw0=0)(hin:ins.length≤90000) :
  BSpec Try.prog 39 [.ptr 0 0,.opq 41,.opq 42] (rM x s sn [(41,.rwin 1 ins.length (qB ins)),(42,.rwin 1 rw0.length (qB rw0))]) 43 [0,3,6,7,8] (.tup [.opq 43,ii 0]) (rM1 x (lN x s ins (j9 x.rs.length rw0)) (zQ x s) (snN sn ins (zQ x s) 0)) 46:=by
 obtain⟨hlt,hins,hrc⟩:=wS he
 have ht0:=h.t0
 have hN1:=hx.N1
 have hinp0:=hx.inp0
 have hinp1:=hx.inp1
 have hRl:=hx.rl
 have hc :∀w L' rd,(∀p,rd=some p→p∈L')→Cx.ok ⟨Try.prog,tab,pfRst,39,Try.f39,[],w,L',rd⟩:=fun w L' rd h=>⟨qI,pfRst_ok,Try.func39,mixed,h⟩
 refine BSpec.start (tab:=tab) (pf:=pfRst) (cuts:=[]) Try.func39 rfl ⟨(show 0<43 by decide),(show 41<43 by decide),ltb rfl,trivial⟩ rfl fun w L0 plp hL hLB hcov=>Run.r8 (hc w L0 none nofun) 100 _ ?_
 have hIn:In 44 ((43,.pin plp)::rM x s sn [(41,.rwin 1 ins.length (qB ins)),(42,.rwin 1 rw0.length (qB rw0))]):=⟨⟨by omega,pnx hcov rfl⟩,rM_in hRl s sn (by omega) ⟨⟨by omega,Os.h _⟩,⟨by omega,Os.h _⟩,trivial⟩⟩
 have hL44 :∀p∈L0,p.1<44:=fun p hp=>by have:=hLB p hp;omega
 generalize hRR:SpecR _ _ _ _ _ _=RR
 conv=>whnf
 rw[show decide ((10000:Int)≤s.tick)=false by simpa using hlt]
 conv=>whnf
 refine Run.pT (T:=fun i=>[(0,.ptr 0 0),(1,.opq 41),(2,.opq 42),(6,nq),(7,ii 0),(8,ii ((i:Nat):Int))]) (M:=fun _=>(43,.pin plp)::rM x s sn [(41,.rwin 1 ins.length (qB ins)),(42,.rwin 1 rw0.length (qB rw0))]) 44 (fun i=> ∀j,j<ins.length→j<i→jZ x.n.inp ins j=0) ins.length rfl rfl rfl hIn hL44 (fun j _ hj=>by omega) ?_ ?_
 ·intro i hi hJ ih
  refine Run.W2 hc ?_
  conv=>whnf
  rw[decide_eq_true (show((i:Nat):Int)<(ins.length:Int)by omega)]
  conv=>whnf
  have hsu:IntKind.i64.wrap (((i:Nat):Int)+1)=((i+1:Nat):Int):=zH (by omega)
  have hgi:ins.getD i 0=ins[i]:=by simp[List.getD_eq_getElem?_getD,hi]
  refine Run.draw (hc w L0 none nofun) 12 ?_
  rw[show qD 0 12=qD 0 3++(qD 3 1++qD 4 8)from rfl]
  simp only[qN]
  conv=>whnf
  refine⟨by omega,?_⟩
  conv=>whnf
  rw[qY i rfl rfl rfl rfl (by rw[qE,Nat.mul_one]) (zA hi)]
  conv=>whnf
  refine⟨by kernel_rfl,?_⟩
  refine Run.W2 hc ?_
  conv=>whnf
  cases hb:wi ins[i] 0 (IntKind.i64.wrap (x.n.inp-1))
  case false=>
   have hat:jZ x.n.inp ins i=3:=by unfold jZ;rw[hgi,show wi ins[i] 0 (W (x.n.inp-1))=false from hb];rfl
   have hck:j6 x.n.inp ins=3:=by unfold j6;rw[xC hi hJ (by rw[hat];decide),hat]
   exact absurd (hck.symm.trans hins) (by decide)
  have hb2:wi ins[i] 0 (W (x.n.inp-1))=true:=hb
  conv=>whnf
  by_cases hi0:i=0
  ·subst hi0
   refine Run.draw (hc w L0 none nofun) 14 ?_
   conv=>whnf
   refine⟨by kernel_rfl,?_⟩
   refine Run.W2 hc ?_
   conv=>whnf
   have hat:jZ x.n.inp ins 0=0:=by unfold jZ;rw[hgi,hb2];simp only[Bool.true_eq_false,if_false];rw[if_neg (fun h=>absurd h.1 (by decide))]
   exact Run.pN (ih (upN hJ hat)) (by rw[hsu];rfl) rfl rfl hIn hL44
  have hw1:IntKind.i64.wrap ((i:Int)-1)=((i-1:Nat):Int):=by
   rw[show(i:Int)-1=((i-1:Nat):Int)by omega]
   exact zL (by omega) (by omega)
  refine Run.draw (hc w L0 none nofun) 14 ?_
  rw[show qD 0 14=qD 0 2++(qD 2 4++(qD 6 1++(qD 7 4++(qD 11 1++qD 12 2))))from rfl]
  simp only[qN]
  conv=>whnf
  rw[show decide ((0:Int)<((i:Nat):Int))=true by rw[decide_eq_true_eq];omega]
  conv=>whnf
  refine⟨by omega,?_⟩
  conv=>whnf
  rw[qY i rfl rfl rfl rfl (by rw[qE,Nat.mul_one]) (zA hi)]
  conv=>whnf
  refine⟨by show 0≤IntKind.i64.wrap ((i:Int)-1)∧IntKind.i64.wrap ((i:Int)-1)<(ins.length:Int);rw[hw1];omega,?_⟩
  conv=>whnf
  rw[qY (i-1) rfl rfl rfl rfl (by show idx (IntKind.i64.wrap ((i:Int)-1)) 1=_;rw[hw1];rfl) (zA (by omega))]
  conv=>whnf
  refine⟨by kernel_rfl,?_⟩
  refine Run.W2 hc ?_
  conv=>whnf
  have hgp:ins.getD (i-1) 0=ins[i-1]:=by simp[List.getD_eq_getElem?_getD,show i-1<ins.length by omega]
  cases hq:decide (ins[i]≤ins[i-1])
  case true=>
   have hat:jZ x.n.inp ins i=2:=by unfold jZ;rw[hgi,hgp,hb2];simp only[Bool.true_eq_false,if_false];rw[if_pos ⟨by omega,of_decide_eq_true hq⟩]
   have hck:j6 x.n.inp ins=2:=by unfold j6;rw[xC hi hJ (by rw[hat];decide),hat]
   exact absurd (hck.symm.trans hins) (by decide)
  have hat:jZ x.n.inp ins i=0:=by unfold jZ;rw[hgi,hgp,hb2];simp only[Bool.true_eq_false,if_false];rw[if_neg (fun h=>of_decide_eq_false hq h.2)]
  conv=>whnf
  exact Run.pN (ih (upN hJ hat)) (by rw[hsu];rfl) rfl rfl hIn hL44
 ·intro hJ
  refine Run.W2 hc ?_
  conv=>whnf
  rw[decide_eq_false (show ¬((ins.length:Nat):Int)<(ins.length:Int)by omega)]
  conv=>whnf
  clear hJ
  have hgo:=(rgo_spec hx h hs (by omega) ins (j9 x.rs.length rw0) hin (sF hrc)).1
  have hlr:=sF hrc
  by_cases hz:(rw0.length:Int)=0
  ·have hro:j9 x.rs.length rw0=List.replicate x.rs.length 0:=by unfold j9;rw[if_pos hz]
   rw[decide_eq_false (show ¬(0:Int)<(rw0.length:Int)by omega)]
   conv=>whnf
   have hz0:rw0=[]:=List.eq_nil_of_length_eq_zero (by omega)
   refine Run.pT (T:=fun _=>[(0,.ptr 0 0),(1,.opq 41),(2,.opq 42),(6,nq),(7,ii 0),(9,ii ((0:Nat):Int))]) (M:=fun _=>(43,.pin plp)::rM x s sn [(41,.rwin 1 ins.length (qB ins)),(42,.rwin 1 rw0.length (qB rw0))]) 44 (fun _=>True) 0 rfl rfl rfl hIn hL44 trivial (fun i hi _ _=>absurd hi (by omega)) fun _=> ?_
   refine Run.W2 hc ?_
   conv=>whnf
   rw[decide_eq_false (show ¬(((0:Nat):Nat):Int)<(rw0.length:Int)by omega)]
   conv=>whnf
   rw[show((rw0.length:Int)==0)=true by simpa using hz]
   conv=>whnf
   rw[kK (m:=x.rs.length) rfl rfl rfl rfl rfl rfl (by omega) (by omega),show List.replicate x.rs.length (SV.v (.int .i64 0))=(j9 x.rs.length rw0).map fun x=>ii x by rw[hro,List.map_replicate]]
   conv=>whnf
   refine Run.pI hgo (ent _ _ Try.func56 (by kernel_rfl) rfl) rfl rfl rfl rfl rfl rfl rfl [.ptr 0 0,.opq 41,.opq 44] rfl (rq [(42,44),(44,42)]) rfl (fun q hq=>by have inv :∀q,q<43→(rq [(42,44),(44,42)]) q<45:=(by decide);exact inv q hq) _ rfl (fun q hq j hj hne=>by have inj :∀i,i<43 → ∀j,j<43→i≠j→(rq [(42,44),(44,42)]) i≠(rq [(42,44),(44,42)]) j:=(by decide);have hlt :∀k∈(rM x s sn [(41,.rwin 1 ins.length (qB ins)),(42,.rwin 1 (j9 x.rs.length rw0).length (qB (j9 x.rs.length rw0)))]).map (·.1),k<43:=(by have :∀k∈[0,1,2,3,4,5,6,7,8,41,42,9,10,11,12,13,14,15,16,17,18,19,20,21,22,23,24,25,26,27,28,29,30,31,32,33,34,35,36,37,38,39,40],k<43:=(by decide);exact this);exact inj q (hlt q hq) j (hlt j hj) hne) rfl
    (rM_in hRl s sn (by omega) ⟨⟨by omega,Os.h _⟩,⟨by omega,Os.h _⟩,trivial⟩) rfl
    (by refine⟨⟨_,rfl,Conv.refl _⟩,⟨_,rfl,Conv.refl _⟩,⟨_,rfl,Conv.refl _⟩,⟨_,rfl,by rw[ofx (o:=.row 2 x.n.N.length (s.st.flatMap Ste.cells) 139) (qQ _ _)];exact Conv.refl _⟩,⟨_,rfl,Conv.refl _⟩,⟨_,rfl,Conv.refl _⟩,⟨_,rfl,by rw[ofx (o:=.row 4 x.n.S.length (s.m.flatMap Mrk.cells) 141) (qF _ _)];exact Conv.refl _⟩,⟨_,rfl,by rw[z5 (b:=25) (b':=25) fun j hj=>zC (qZ (B:=42) rfl (show 25+j<42 by omega))];exact Conv.refl _⟩,⟨_,rfl,Conv.refl _⟩,⟨_,rfl,Conv.refl _⟩,⟨_,rfl,by rw[hlr];exact Conv.row (by decide) (wV _)⟩,?_⟩;repeat first|exact trivial|refine⟨⟨_,rfl,Conv.refl _⟩,?_⟩) (fun q hq=>by simp at hq;rcases hq with rfl|rfl|rfl|rfl|rfl<;>simp[rM])
    (.opq 45) [(45,.row 1 (zQ x s).length ((zQ x s).map fun x=>ii x) 3),(46,.row 1 (snN sn ins (zQ x s) 0).length ((snN sn ins (zQ x s) 0).map fun x=>ii x) 3),(47,.row 1 16 [.opq 46,.opq 9,.opq 10,.opq 11,.opq 12,.opq 13,.opq 14,.opq 15,.opq 16,.opq 17,.opq 18,.opq 19,.opq 20,.opq 21,.opq 22,.opq 23] 27),(0,.cells (xY (ii (lN x s ins (j9 x.rs.length rw0)).tick) x.n.inp 47) 108),(3,.row 2 x.n.N.length ((lN x s ins (j9 x.rs.length rw0)).st.flatMap Ste.cells) 139),(6,.row 4 x.n.S.length ((lN x s ins (j9 x.rs.length rw0)).m.flatMap Mrk.cells) 141),(7,.row 1 x.rs.length (zT 25 x.rs.length) 27)] [(43,.pin plp)] 48 rfl rfl
    ⟨⟨43,_,rfl,rfl,(ofx (o:=.row 1 (zQ x s).length ((zQ x s).map fun x=>ii x) 3) (qK _ _)).symm,rfl⟩,⟨44,_,rfl,rfl,(ofx (o:=.row 1 (snN sn ins (zQ x s) 0).length ((snN sn ins (zQ x s) 0).map fun x=>ii x) 3) (qK _ _)).symm,rfl⟩,⟨45,_,rfl,rfl,rfl,rfl⟩,⟨0,_,rfl,rfl,rfl,rfl⟩,⟨3,_,rfl,rfl,(ofx (o:=.row 2 x.n.N.length ((lN x s ins (j9 x.rs.length rw0)).st.flatMap Ste.cells) 139) (qQ _ _)).symm,rfl⟩,⟨6,_,rfl,rfl,(ofx (o:=.row 4 x.n.S.length ((lN x s ins (j9 x.rs.length rw0)).m.flatMap Mrk.cells) 141) (qF _ _)).symm,rfl⟩,⟨7,_,rfl,rfl,(z5 (b:=25) (b':=25) fun j hj=>by rw[v8 (show 25+j<43 by omega)];exact zC (qZ (B:=42) rfl (show 25+j<42 by omega))).symm,rfl⟩,trivial⟩ rfl rfl ?_
   refine Run.W2 hc ?_
   conv=>whnf
   rw[←hRR]
   refine SpecR.intro 45 (by decide) hLB (by decide) hcov rfl rfl ⟨(show 43<46 by decide),trivial,trivial⟩ ⟨⟨(congrArg some (ofx (o:=.row 1 (zQ x s).length ((zQ x s).map fun x=>ii x) 3) (qK _ _))).symm,by omega,Os.h _⟩,⟨(congrArg some (ofx (o:=.row 1 (snN sn ins (zQ x s) 0).length ((snN sn ins (zQ x s) 0).map fun x=>ii x) 3) (qK _ _))).symm,by omega,Os.h _⟩,⟨rfl,by omega,qC _ rfl⟩,⟨rfl,by omega,qC _ rfl⟩,⟨(congrArg some (ofx (o:=.row 2 x.n.N.length ((lN x s ins (j9 x.rs.length rw0)).st.flatMap Ste.cells) 139) (qQ _ _))).symm,by omega,Os.h _⟩,⟨(congrArg some (ofx (o:=.row 4 x.n.S.length ((lN x s ins (j9 x.rs.length rw0)).m.flatMap Mrk.cells) 141) (qF _ _))).symm,by omega,Os.h _⟩,⟨congrArg some (z5 (b:=25) (b':=25) fun j hj=>yN (show 25+j<43 by omega)).symm,by omega,qO (by omega)⟩,trivial⟩
  have hro:j9 x.rs.length rw0=rw0:=by unfold j9;rw[if_neg hz]
  rw[hro]at hgo hlr hRR
  rw[decide_eq_true (show(0:Int)<(rw0.length:Int)by omega)]
  conv=>whnf
  rw[show((rw0.length:Int) != (x.rs.length:Int))=false by simp[hlr]]
  conv=>whnf
  have hbd:kO rw0=false:=by
   unfold kB at hrc
   rw[if_neg hz,if_neg (by omega)]at hrc
   cases hb:kO rw0 with
   |false=>rfl
   |true=>rw[hb]at hrc;cases hrc
  have hrok:=rwBad_ok hbd
  refine Run.pT (T:=fun i=>[(0,.ptr 0 0),(1,.opq 41),(2,.opq 42),(6,nq),(7,ii 0),(9,ii ((i:Nat):Int))]) (M:=fun _=>(43,.pin plp)::rM x s sn [(41,.rwin 1 ins.length (qB ins)),(42,.rwin 1 rw0.length (qB rw0))]) 44 (fun i=> ∀j,j<rw0.length→j<i→rwF rw0 j=0) rw0.length rfl rfl rfl hIn hL44 (fun j _ hj=>by omega) ?_ ?_
  ·intro i hi hJ ih
   refine Run.W2 hc ?_
   conv=>whnf
   rw[decide_eq_true (show((i:Nat):Int)<(rw0.length:Int)by omega)]
   conv=>whnf
   have hsu:IntKind.i64.wrap (((i:Nat):Int)+1)=((i+1:Nat):Int):=zH (by omega)
   refine⟨by omega,?_⟩
   conv=>whnf
   rw[qY i rfl rfl rfl rfl (by rw[qE,Nat.mul_one]) (zA hi)]
   conv=>whnf
   have hgi:rw0.getD i 0=rw0[i]:=by simp[List.getD_eq_getElem?_getD,hi]
   cases hb:wi rw0[i] (-128) 127
   case false=>
    exact absurd (wi_iff.2 (hrok _ (List.getElem_mem hi))) (by rw[hb];decide)
   have hat:rwF rw0 i=0:=by unfold rwF;rw[hgi,hb];rfl
   conv=>whnf
   exact Run.pN (ih (upN hJ hat)) (by rw[hsu];rfl) rfl rfl hIn hL44
  ·intro hJ
   refine Run.W2 hc ?_
   conv=>whnf
   rw[decide_eq_false (show ¬((rw0.length:Nat):Int)<(rw0.length:Int)by omega)]
   conv=>whnf
   rw[show((rw0.length:Int)==0)=false by simpa using hz]
   conv=>whnf
   refine Run.pI hgo (ent _ _ Try.func56 (by kernel_rfl) rfl) rfl rfl rfl rfl rfl rfl rfl [.ptr 0 0,.opq 41,.opq 42] rfl id rfl (fun q hq=>by show q<44;omega) _ rfl (fun q hq j hj hne=>by exact hne) rfl
    (rM_in hRl s sn (by omega) ⟨⟨by omega,Os.h _⟩,⟨by omega,Os.h _⟩,trivial⟩) rfl
    (by refine⟨⟨_,rfl,Conv.refl _⟩,⟨_,rfl,Conv.refl _⟩,⟨_,rfl,Conv.refl _⟩,⟨_,rfl,by rw[ofx (o:=.row 2 x.n.N.length (s.st.flatMap Ste.cells) 139) (qQ _ _)];exact Conv.refl _⟩,⟨_,rfl,Conv.refl _⟩,⟨_,rfl,Conv.refl _⟩,⟨_,rfl,by rw[ofx (o:=.row 4 x.n.S.length (s.m.flatMap Mrk.cells) 141) (qF _ _)];exact Conv.refl _⟩,⟨_,rfl,by rw[z5 (b:=25) (b':=25) fun j hj=>rfl];exact Conv.refl _⟩,⟨_,rfl,Conv.refl _⟩,⟨_,rfl,Conv.refl _⟩,⟨_,rfl,Conv.refl _⟩,?_⟩;repeat first|exact trivial|refine⟨⟨_,rfl,Conv.refl _⟩,?_⟩) (fun q hq=>by simp at hq;rcases hq with rfl|rfl|rfl|rfl|rfl<;>simp[rM])
    (.opq 44) [(44,.row 1 (zQ x s).length ((zQ x s).map fun x=>ii x) 3),(45,.row 1 (snN sn ins (zQ x s) 0).length ((snN sn ins (zQ x s) 0).map fun x=>ii x) 3),(46,.row 1 16 [.opq 45,.opq 9,.opq 10,.opq 11,.opq 12,.opq 13,.opq 14,.opq 15,.opq 16,.opq 17,.opq 18,.opq 19,.opq 20,.opq 21,.opq 22,.opq 23] 27),(0,.cells (xY (ii (lN x s ins rw0).tick) x.n.inp 46) 108),(3,.row 2 x.n.N.length ((lN x s ins rw0).st.flatMap Ste.cells) 139),(6,.row 4 x.n.S.length ((lN x s ins rw0).m.flatMap Mrk.cells) 141),(7,.row 1 x.rs.length (zT 25 x.rs.length) 27)] [(43,.pin plp)] 47 rfl rfl
    ⟨⟨43,_,rfl,rfl,(ofx (o:=.row 1 (zQ x s).length ((zQ x s).map fun x=>ii x) 3) (qK _ _)).symm,rfl⟩,⟨44,_,rfl,rfl,(ofx (o:=.row 1 (snN sn ins (zQ x s) 0).length ((snN sn ins (zQ x s) 0).map fun x=>ii x) 3) (qK _ _)).symm,rfl⟩,⟨45,_,rfl,rfl,rfl,rfl⟩,⟨0,_,rfl,rfl,rfl,rfl⟩,⟨3,_,rfl,rfl,(ofx (o:=.row 2 x.n.N.length ((lN x s ins rw0).st.flatMap Ste.cells) 139) (qQ _ _)).symm,rfl⟩,⟨6,_,rfl,rfl,(ofx (o:=.row 4 x.n.S.length ((lN x s ins rw0).m.flatMap Mrk.cells) 141) (qF _ _)).symm,rfl⟩,⟨7,_,rfl,rfl,(z5 (b:=25) (b':=25) fun j hj=>by rw[v8 (show 25+j<43 by omega)];rfl).symm,rfl⟩,trivial⟩ rfl rfl ?_
   refine Run.W2 hc ?_
   conv=>whnf
   rw[←hRR]
   refine SpecR.intro 44 (by decide) hLB (by decide) hcov rfl rfl ⟨(show 43<46 by decide),trivial,trivial⟩ ⟨⟨(congrArg some (ofx (o:=.row 1 (zQ x s).length ((zQ x s).map fun x=>ii x) 3) (qK _ _))).symm,by omega,Os.h _⟩,⟨(congrArg some (ofx (o:=.row 1 (snN sn ins (zQ x s) 0).length ((snN sn ins (zQ x s) 0).map fun x=>ii x) 3) (qK _ _))).symm,by omega,Os.h _⟩,⟨rfl,by omega,qC _ rfl⟩,⟨rfl,by omega,qC _ rfl⟩,⟨(congrArg some (ofx (o:=.row 2 x.n.N.length ((lN x s ins rw0).st.flatMap Ste.cells) 139) (qQ _ _))).symm,by omega,Os.h _⟩,⟨(congrArg some (ofx (o:=.row 4 x.n.S.length ((lN x s ins rw0).m.flatMap Mrk.cells) 141) (qF _ _))).symm,by omega,Os.h _⟩,⟨congrArg some (z5 (b:=25) (b':=25) fun j hj=>yN (show 25+j<43 by omega)).symm,by omega,qO (by omega)⟩,trivial⟩
set_option maxHeartbeats 16000000
theorem rnew_ok (x:Lnt)(h:zD x.n x.rs x.pl=0) :
  BSpec Try.prog 38 [.agg [.opq 0,ii x.n.inp,.opq 1],.opq 2,.opq 3] [(0,.rwin 8 x.n.N.length (x.n.N.flatMap Prm.vals)),(1,.rwin 4 x.n.S.length (x.n.S.flatMap Syn.vals)),(2,.rwin 10 x.rs.length (x.rs.flatMap Rul.vals)),(3,.rwin 1 x.pl.length (qB x.pl))] 4 [] (.tup [.ptr 4 0,ii 0]) ((4,.cells [.opq 0,ii x.n.inp,.opq 1,.opq 2,.opq 3,.opq 5,.opq 6,ii 0,.opq 7,.opq 8] 108)::(5,.row 4 x.n.S.length (x.m0.flatMap Mrk.cells) 141)::(6,.row 1 x.rs.length (zT 25 x.rs.length) 27)::(7,.row 2 x.n.N.length ((List.replicate x.n.N.length jS).flatMap Ste.cells) 139)::(8,.row 1 16 [.opq 9,.opq 10,.opq 11,.opq 12,.opq 13,.opq 14,.opq 15,.opq 16,.opq 17,.opq 18,.opq 19,.opq 20,.opq 21,.opq 22,.opq 23,.opq 24] 27)::(9,.row 1 0 [] 3)::(10,.row 1 0 [] 3)::(11,.row 1 0 [] 3)::(12,.row 1 0 [] 3)::(13,.row 1 0 [] 3)::(14,.row 1 0 [] 3)::(15,.row 1 0 [] 3)::(16,.row 1 0 [] 3)::(17,.row 1 0 [] 3)::(18,.row 1 0 [] 3)::(19,.row 1 0 [] 3)::(20,.row 1 0 [] 3)::(21,.row 1 0 [] 3)::(22,.row 1 0 [] 3)::(23,.row 1 0 [] 3)::(24,.row 1 0 [] 3)::(25,.row 1 (cN x.rs.length x.n.N.length 0) ((rsL x.n.S x.pl x.m0 x.rs.length x.n.N.length 0).map fun x=>ii x) 3)::(26,.row 1 (cN x.rs.length x.n.N.length 1) ((rsL x.n.S x.pl x.m0 x.rs.length x.n.N.length 1).map fun x=>ii x) 3)::(27,.row 1 (cN x.rs.length x.n.N.length 2) ((rsL x.n.S x.pl x.m0 x.rs.length x.n.N.length 2).map fun x=>ii x) 3)::(28,.row 1 (cN x.rs.length x.n.N.length 3) ((rsL x.n.S x.pl x.m0 x.rs.length x.n.N.length 3).map fun x=>ii x) 3)::(29,.row 1 (cN x.rs.length x.n.N.length 4) ((rsL x.n.S x.pl x.m0 x.rs.length x.n.N.length 4).map fun x=>ii x) 3)::(30,.row 1 (cN x.rs.length x.n.N.length 5) ((rsL x.n.S x.pl x.m0 x.rs.length x.n.N.length 5).map fun x=>ii x) 3)::(31,.row 1 (cN x.rs.length x.n.N.length 6) ((rsL x.n.S x.pl x.m0 x.rs.length x.n.N.length 6).map fun x=>ii x) 3)::(32,.row 1 (cN x.rs.length x.n.N.length 7) ((rsL x.n.S x.pl x.m0 x.rs.length x.n.N.length 7).map fun x=>ii x) 3)::(33,.row 1 (cN x.rs.length x.n.N.length 8) ((rsL x.n.S x.pl x.m0 x.rs.length x.n.N.length 8).map fun x=>ii x) 3)::(34,.row 1 (cN x.rs.length x.n.N.length 9) ((rsL x.n.S x.pl x.m0 x.rs.length x.n.N.length 9).map fun x=>ii x) 3)::(35,.row 1 (cN x.rs.length x.n.N.length 10) ((rsL x.n.S x.pl x.m0 x.rs.length x.n.N.length 10).map fun x=>ii x) 3)::(36,.row 1 (cN x.rs.length x.n.N.length 11) ((rsL x.n.S x.pl x.m0 x.rs.length x.n.N.length 11).map fun x=>ii x) 3)::(37,.row 1 (cN x.rs.length x.n.N.length 12) ((rsL x.n.S x.pl x.m0 x.rs.length x.n.N.length 12).map fun x=>ii x) 3)::(38,.row 1 (cN x.rs.length x.n.N.length 13) ((rsL x.n.S x.pl x.m0 x.rs.length x.n.N.length 13).map fun x=>ii x) 3)::(39,.row 1 (cN x.rs.length x.n.N.length 14) ((rsL x.n.S x.pl x.m0 x.rs.length x.n.N.length 14).map fun x=>ii x) 3)::(40,.row 1 (cN x.rs.length x.n.N.length 15) ((rsL x.n.S x.pl x.m0 x.rs.length x.n.N.length 15).map fun x=>ii x) 3)::[]) 41:=by
 have hx:NetOK x:=gG h
 have hx1:=hx.N2
 have hx2:=hx.S1
 have hx3:=hx.rl
 have hx4:x.pl.length=x.n.S.length:=hx.lpl
 have hc :∀w L' rd,(∀p,rd=some p→p∈L')→Cx.ok ⟨Try.prog,tab,[],38,Try.f38,[],w,L',rd⟩:=fun w L' rd h=>⟨qI,trivial,Try.func38,mixed,h⟩
 refine BSpec.start (tab:=tab) (pf:=[]) (cuts:=[]) Try.func38 rfl ⟨⟨(show 0<4 by decide),trivial,ltb rfl,trivial⟩,(show 2<4 by decide),ltb rfl,trivial⟩ rfl fun w L0 plp hL' hLB hcov=> ?_
 generalize hRR:SpecR _ _ _ _ _ _=RR
 refine Run.r8 (hc w L0 none nofun) 100 _ ?_
 conv=>whnf
 refine Run.pD (g:=16) (vs:=[.agg [.opq 0,ii x.n.inp,.opq 1],.opq 2,.opq 3]) (caps:=[]) (.v (.int .i64 0)) (fun ρ w1 hW=>by
  have:=gW _ _ x.n _ x.rs _ x.pl w1 ⟨hW.rowsAt (i:=0) rfl,hW.rowsAt (i:=1) rfl⟩ (hW.rowsAt (i:=2) rfl) (hW.rowsAt (i:=3) rfl)
  rw[h]at this
  exact this) (ent _ _ Try.func16 (by kernel_rfl) rfl) rfl rfl rfl rfl rfl rfl rfl trivial ?_
 refine Run.W2 hc ?_
 conv=>whnf
 refine Run.draw (hc w L0 none nofun) 10 ?_
 rw[show qD 0 10=qD 0 7++(qD 7 1++qD 8 2)from rfl]
 simp only[qN]
 conv=>whnf
 rw[opF_make2 (m:=x.n.N.length) rfl rfl rfl rfl rfl rfl (by omega) (by omega)]
 conv=>whnf
 refine⟨by kernel_rfl,?_⟩
 refine Run.r8 (hc w L0 none nofun) 3 _ ?_
 conv=>whnf
 refine Run.r9 (T':=[(3,.ptr 5 0),(9,.ptr 15 0)]) (M':=[(15,.cells [.opq 0,ii x.n.inp,.opq 1,.opq 2,.opq 3,nq,nq,ii 0,.opq 12,.opq 13] 108),(12,.row 2 x.n.N.length ((List.replicate x.n.N.length jS).flatMap Ste.cells) 139),(13,.row 1 16 [nq,nq,nq,nq,nq,nq,nq,nq,nq,nq,nq,nq,nq,nq,nq,nq] 27),(5,.cells [.opq 0,ii x.n.inp,.opq 1] 25),(0,.rwin 8 x.n.N.length (x.n.N.flatMap Prm.vals)),(1,.rwin 4 x.n.S.length (x.n.S.flatMap Syn.vals)),(2,.rwin 10 x.rs.length (x.rs.flatMap Rul.vals)),(3,.rwin 1 x.pl.length (qB x.pl)),(4,.pin plp)]) 17 ⟨⟨rfl,ltb rfl⟩,⟨rfl,ltb rfl⟩,trivial⟩ (by repeat first|exact trivial|refine⟨⟨rfl,by omega,qC _ rfl⟩,?_⟩|refine⟨⟨rfl,by omega,Os.h _⟩,?_⟩|refine⟨⟨rfl,by omega,pnx hcov rfl⟩,?_⟩|refine⟨⟨by rw[←st_rep];rfl,by omega,Os.h _⟩,?_⟩) (lbx hLB rfl) ?_
 refine Run.pG (T':=[(3,.ptr 5 0),(9,.ptr 15 0)]) (M':=[(17,.row 4 0 [] 141),(15,.cells [.opq 0,ii x.n.inp,.opq 1,.opq 2,.opq 3,.opq 17,nq,ii 0,.opq 12,.opq 13] 108),(12,_),(13,_),(5,_),(0,_),(1,_),(2,_),(3,_),(4,_)]) 4 141 (AllP.mem ⟨⟨_,rfl,.inl rfl⟩,⟨_,rfl,.inl rfl⟩,trivial⟩) (AllP.mem (by repeat first|exact trivial|refine⟨.inl rfl,?_⟩|refine⟨.inr ⟨_,rfl,.inr (.inl ⟨_,_,_,rfl,rfl,⟨.inl rfl,.inl rfl,.inl rfl,.inl rfl,.inl rfl,.inr ⟨rfl,rfl⟩,.inl rfl,.inl rfl,.inl rfl,.inl rfl,trivial⟩⟩)⟩,?_⟩|refine⟨.inr ⟨_,rfl,.inl rfl⟩,?_⟩)) ?_
 refine Run.pG (T':=[(3,.ptr 5 0),(9,.ptr 15 0)]) (M':=[(18,.row 1 0 [] 27),(17,_),(15,.cells [.opq 0,ii x.n.inp,.opq 1,.opq 2,.opq 3,.opq 17,.opq 18,ii 0,.opq 12,.opq 13] 108),(12,_),(13,_),(5,_),(0,_),(1,_),(2,_),(3,_),(4,_)]) 1 27 (AllP.mem ⟨⟨_,rfl,.inl rfl⟩,⟨_,rfl,.inl rfl⟩,trivial⟩) (AllP.mem (by repeat first|exact trivial|refine⟨.inl rfl,?_⟩|refine⟨.inr ⟨_,rfl,.inl rfl⟩,?_⟩|refine⟨.inr ⟨_,rfl,.inr (.inl ⟨_,_,_,rfl,rfl,⟨.inl rfl,.inl rfl,.inl rfl,.inl rfl,.inl rfl,.inl rfl,.inr ⟨rfl,rfl⟩,.inl rfl,.inl rfl,.inl rfl,trivial⟩⟩)⟩,?_⟩)) ?_
 refine Run.pG (T':=[(3,.ptr 5 0),(9,.ptr 15 0)]) (M':=[(19,.row 1 0 [] 3),(18,_),(17,_),(15,_),(12,_),(13,.row 1 16 [.opq 19,nq,nq,nq,nq,nq,nq,nq,nq,nq,nq,nq,nq,nq,nq,nq] 27),(5,_),(0,_),(1,_),(2,_),(3,_),(4,_)]) 1 3 (AllP.mem ⟨⟨_,rfl,.inl rfl⟩,⟨_,rfl,.inl rfl⟩,trivial⟩) (AllP.mem (by repeat first|exact trivial|refine⟨.inl rfl,?_⟩|refine⟨.inr ⟨_,rfl,.inl rfl⟩,?_⟩|refine⟨.inr ⟨_,rfl,.inr (.inr ⟨_,_,_,_,_,rfl,rfl,⟨.inr ⟨rfl,rfl⟩,.inl rfl,.inl rfl,.inl rfl,.inl rfl,.inl rfl,.inl rfl,.inl rfl,.inl rfl,.inl rfl,.inl rfl,.inl rfl,.inl rfl,.inl rfl,.inl rfl,.inl rfl,trivial⟩⟩)⟩,?_⟩)) ?_
 refine Run.pG (T':=[(3,.ptr 5 0),(9,.ptr 15 0)]) (M':=[(20,.row 1 0 [] 3),(19,_),(18,_),(17,_),(15,_),(12,_),(13,.row 1 16 [.opq 19,.opq 20,nq,nq,nq,nq,nq,nq,nq,nq,nq,nq,nq,nq,nq,nq] 27),(5,_),(0,_),(1,_),(2,_),(3,_),(4,_)]) 1 3 (AllP.mem ⟨⟨_,rfl,.inl rfl⟩,⟨_,rfl,.inl rfl⟩,trivial⟩) (AllP.mem (by repeat first|exact trivial|refine⟨.inl rfl,?_⟩|refine⟨.inr ⟨_,rfl,.inl rfl⟩,?_⟩|refine⟨.inr ⟨_,rfl,.inr (.inr ⟨_,_,_,_,_,rfl,rfl,⟨.inl rfl,.inr ⟨rfl,rfl⟩,.inl rfl,.inl rfl,.inl rfl,.inl rfl,.inl rfl,.inl rfl,.inl rfl,.inl rfl,.inl rfl,.inl rfl,.inl rfl,.inl rfl,.inl rfl,.inl rfl,trivial⟩⟩)⟩,?_⟩)) ?_
 refine Run.pG (T':=[(3,.ptr 5 0),(9,.ptr 15 0)]) (M':=[(21,.row 1 0 [] 3),(20,_),(19,_),(18,_),(17,_),(15,_),(12,_),(13,.row 1 16 [.opq 19,.opq 20,.opq 21,nq,nq,nq,nq,nq,nq,nq,nq,nq,nq,nq,nq,nq] 27),(5,_),(0,_),(1,_),(2,_),(3,_),(4,_)]) 1 3 (AllP.mem ⟨⟨_,rfl,.inl rfl⟩,⟨_,rfl,.inl rfl⟩,trivial⟩) (AllP.mem (by repeat first|exact trivial|refine⟨.inl rfl,?_⟩|refine⟨.inr ⟨_,rfl,.inl rfl⟩,?_⟩|refine⟨.inr ⟨_,rfl,.inr (.inr ⟨_,_,_,_,_,rfl,rfl,⟨.inl rfl,.inl rfl,.inr ⟨rfl,rfl⟩,.inl rfl,.inl rfl,.inl rfl,.inl rfl,.inl rfl,.inl rfl,.inl rfl,.inl rfl,.inl rfl,.inl rfl,.inl rfl,.inl rfl,.inl rfl,trivial⟩⟩)⟩,?_⟩)) ?_
 refine Run.pG (T':=[(3,.ptr 5 0),(9,.ptr 15 0)]) (M':=[(22,.row 1 0 [] 3),(21,_),(20,_),(19,_),(18,_),(17,_),(15,_),(12,_),(13,.row 1 16 [.opq 19,.opq 20,.opq 21,.opq 22,nq,nq,nq,nq,nq,nq,nq,nq,nq,nq,nq,nq] 27),(5,_),(0,_),(1,_),(2,_),(3,_),(4,_)]) 1 3 (AllP.mem ⟨⟨_,rfl,.inl rfl⟩,⟨_,rfl,.inl rfl⟩,trivial⟩) (AllP.mem (by repeat first|exact trivial|refine⟨.inl rfl,?_⟩|refine⟨.inr ⟨_,rfl,.inl rfl⟩,?_⟩|refine⟨.inr ⟨_,rfl,.inr (.inr ⟨_,_,_,_,_,rfl,rfl,⟨.inl rfl,.inl rfl,.inl rfl,.inr ⟨rfl,rfl⟩,.inl rfl,.inl rfl,.inl rfl,.inl rfl,.inl rfl,.inl rfl,.inl rfl,.inl rfl,.inl rfl,.inl rfl,.inl rfl,.inl rfl,trivial⟩⟩)⟩,?_⟩)) ?_
 refine Run.pG (T':=[(3,.ptr 5 0),(9,.ptr 15 0)]) (M':=[(23,.row 1 0 [] 3),(22,_),(21,_),(20,_),(19,_),(18,_),(17,_),(15,_),(12,_),(13,.row 1 16 [.opq 19,.opq 20,.opq 21,.opq 22,.opq 23,nq,nq,nq,nq,nq,nq,nq,nq,nq,nq,nq] 27),(5,_),(0,_),(1,_),(2,_),(3,_),(4,_)]) 1 3 (AllP.mem ⟨⟨_,rfl,.inl rfl⟩,⟨_,rfl,.inl rfl⟩,trivial⟩) (AllP.mem (by repeat first|exact trivial|refine⟨.inl rfl,?_⟩|refine⟨.inr ⟨_,rfl,.inl rfl⟩,?_⟩|refine⟨.inr ⟨_,rfl,.inr (.inr ⟨_,_,_,_,_,rfl,rfl,⟨.inl rfl,.inl rfl,.inl rfl,.inl rfl,.inr ⟨rfl,rfl⟩,.inl rfl,.inl rfl,.inl rfl,.inl rfl,.inl rfl,.inl rfl,.inl rfl,.inl rfl,.inl rfl,.inl rfl,.inl rfl,trivial⟩⟩)⟩,?_⟩)) ?_
 refine Run.pG (T':=[(3,.ptr 5 0),(9,.ptr 15 0)]) (M':=[(24,.row 1 0 [] 3),(23,_),(22,_),(21,_),(20,_),(19,_),(18,_),(17,_),(15,_),(12,_),(13,.row 1 16 [.opq 19,.opq 20,.opq 21,.opq 22,.opq 23,.opq 24,nq,nq,nq,nq,nq,nq,nq,nq,nq,nq] 27),(5,_),(0,_),(1,_),(2,_),(3,_),(4,_)]) 1 3 (AllP.mem ⟨⟨_,rfl,.inl rfl⟩,⟨_,rfl,.inl rfl⟩,trivial⟩) (AllP.mem (by repeat first|exact trivial|refine⟨.inl rfl,?_⟩|refine⟨.inr ⟨_,rfl,.inl rfl⟩,?_⟩|refine⟨.inr ⟨_,rfl,.inr (.inr ⟨_,_,_,_,_,rfl,rfl,⟨.inl rfl,.inl rfl,.inl rfl,.inl rfl,.inl rfl,.inr ⟨rfl,rfl⟩,.inl rfl,.inl rfl,.inl rfl,.inl rfl,.inl rfl,.inl rfl,.inl rfl,.inl rfl,.inl rfl,.inl rfl,trivial⟩⟩)⟩,?_⟩)) ?_
 refine Run.pG (T':=[(3,.ptr 5 0),(9,.ptr 15 0)]) (M':=[(25,.row 1 0 [] 3),(24,_),(23,_),(22,_),(21,_),(20,_),(19,_),(18,_),(17,_),(15,_),(12,_),(13,.row 1 16 [.opq 19,.opq 20,.opq 21,.opq 22,.opq 23,.opq 24,.opq 25,nq,nq,nq,nq,nq,nq,nq,nq,nq] 27),(5,_),(0,_),(1,_),(2,_),(3,_),(4,_)]) 1 3 (AllP.mem ⟨⟨_,rfl,.inl rfl⟩,⟨_,rfl,.inl rfl⟩,trivial⟩) (AllP.mem (by repeat first|exact trivial|refine⟨.inl rfl,?_⟩|refine⟨.inr ⟨_,rfl,.inl rfl⟩,?_⟩|refine⟨.inr ⟨_,rfl,.inr (.inr ⟨_,_,_,_,_,rfl,rfl,⟨.inl rfl,.inl rfl,.inl rfl,.inl rfl,.inl rfl,.inl rfl,.inr ⟨rfl,rfl⟩,.inl rfl,.inl rfl,.inl rfl,.inl rfl,.inl rfl,.inl rfl,.inl rfl,.inl rfl,.inl rfl,trivial⟩⟩)⟩,?_⟩)) ?_
 refine Run.pG (T':=[(3,.ptr 5 0),(9,.ptr 15 0)]) (M':=[(26,.row 1 0 [] 3),(25,_),(24,_),(23,_),(22,_),(21,_),(20,_),(19,_),(18,_),(17,_),(15,_),(12,_),(13,.row 1 16 [.opq 19,.opq 20,.opq 21,.opq 22,.opq 23,.opq 24,.opq 25,.opq 26,nq,nq,nq,nq,nq,nq,nq,nq] 27),(5,_),(0,_),(1,_),(2,_),(3,_),(4,_)]) 1 3 (AllP.mem ⟨⟨_,rfl,.inl rfl⟩,⟨_,rfl,.inl rfl⟩,trivial⟩) (AllP.mem (by repeat first|exact trivial|refine⟨.inl rfl,?_⟩|refine⟨.inr ⟨_,rfl,.inl rfl⟩,?_⟩|refine⟨.inr ⟨_,rfl,.inr (.inr ⟨_,_,_,_,_,rfl,rfl,⟨.inl rfl,.inl rfl,.inl rfl,.inl rfl,.inl rfl,.inl rfl,.inl rfl,.inr ⟨rfl,rfl⟩,.inl rfl,.inl rfl,.inl rfl,.inl rfl,.inl rfl,.inl rfl,.inl rfl,.inl rfl,trivial⟩⟩)⟩,?_⟩)) ?_
 refine Run.pG (T':=[(3,.ptr 5 0),(9,.ptr 15 0)]) (M':=[(27,.row 1 0 [] 3),(26,_),(25,_),(24,_),(23,_),(22,_),(21,_),(20,_),(19,_),(18,_),(17,_),(15,_),(12,_),(13,.row 1 16 [.opq 19,.opq 20,.opq 21,.opq 22,.opq 23,.opq 24,.opq 25,.opq 26,.opq 27,nq,nq,nq,nq,nq,nq,nq] 27),(5,_),(0,_),(1,_),(2,_),(3,_),(4,_)]) 1 3 (AllP.mem ⟨⟨_,rfl,.inl rfl⟩,⟨_,rfl,.inl rfl⟩,trivial⟩) (AllP.mem (by repeat first|exact trivial|refine⟨.inl rfl,?_⟩|refine⟨.inr ⟨_,rfl,.inl rfl⟩,?_⟩|refine⟨.inr ⟨_,rfl,.inr (.inr ⟨_,_,_,_,_,rfl,rfl,⟨.inl rfl,.inl rfl,.inl rfl,.inl rfl,.inl rfl,.inl rfl,.inl rfl,.inl rfl,.inr ⟨rfl,rfl⟩,.inl rfl,.inl rfl,.inl rfl,.inl rfl,.inl rfl,.inl rfl,.inl rfl,trivial⟩⟩)⟩,?_⟩)) ?_
 refine Run.pG (T':=[(3,.ptr 5 0),(9,.ptr 15 0)]) (M':=[(28,.row 1 0 [] 3),(27,_),(26,_),(25,_),(24,_),(23,_),(22,_),(21,_),(20,_),(19,_),(18,_),(17,_),(15,_),(12,_),(13,.row 1 16 [.opq 19,.opq 20,.opq 21,.opq 22,.opq 23,.opq 24,.opq 25,.opq 26,.opq 27,.opq 28,nq,nq,nq,nq,nq,nq] 27),(5,_),(0,_),(1,_),(2,_),(3,_),(4,_)]) 1 3 (AllP.mem ⟨⟨_,rfl,.inl rfl⟩,⟨_,rfl,.inl rfl⟩,trivial⟩) (AllP.mem (by repeat first|exact trivial|refine⟨.inl rfl,?_⟩|refine⟨.inr ⟨_,rfl,.inl rfl⟩,?_⟩|refine⟨.inr ⟨_,rfl,.inr (.inr ⟨_,_,_,_,_,rfl,rfl,⟨.inl rfl,.inl rfl,.inl rfl,.inl rfl,.inl rfl,.inl rfl,.inl rfl,.inl rfl,.inl rfl,.inr ⟨rfl,rfl⟩,.inl rfl,.inl rfl,.inl rfl,.inl rfl,.inl rfl,.inl rfl,trivial⟩⟩)⟩,?_⟩)) ?_
 refine Run.pG (T':=[(3,.ptr 5 0),(9,.ptr 15 0)]) (M':=[(29,.row 1 0 [] 3),(28,_),(27,_),(26,_),(25,_),(24,_),(23,_),(22,_),(21,_),(20,_),(19,_),(18,_),(17,_),(15,_),(12,_),(13,.row 1 16 [.opq 19,.opq 20,.opq 21,.opq 22,.opq 23,.opq 24,.opq 25,.opq 26,.opq 27,.opq 28,.opq 29,nq,nq,nq,nq,nq] 27),(5,_),(0,_),(1,_),(2,_),(3,_),(4,_)]) 1 3 (AllP.mem ⟨⟨_,rfl,.inl rfl⟩,⟨_,rfl,.inl rfl⟩,trivial⟩) (AllP.mem (by repeat first|exact trivial|refine⟨.inl rfl,?_⟩|refine⟨.inr ⟨_,rfl,.inl rfl⟩,?_⟩|refine⟨.inr ⟨_,rfl,.inr (.inr ⟨_,_,_,_,_,rfl,rfl,⟨.inl rfl,.inl rfl,.inl rfl,.inl rfl,.inl rfl,.inl rfl,.inl rfl,.inl rfl,.inl rfl,.inl rfl,.inr ⟨rfl,rfl⟩,.inl rfl,.inl rfl,.inl rfl,.inl rfl,.inl rfl,trivial⟩⟩)⟩,?_⟩)) ?_
 refine Run.pG (T':=[(3,.ptr 5 0),(9,.ptr 15 0)]) (M':=[(30,.row 1 0 [] 3),(29,_),(28,_),(27,_),(26,_),(25,_),(24,_),(23,_),(22,_),(21,_),(20,_),(19,_),(18,_),(17,_),(15,_),(12,_),(13,.row 1 16 [.opq 19,.opq 20,.opq 21,.opq 22,.opq 23,.opq 24,.opq 25,.opq 26,.opq 27,.opq 28,.opq 29,.opq 30,nq,nq,nq,nq] 27),(5,_),(0,_),(1,_),(2,_),(3,_),(4,_)]) 1 3 (AllP.mem ⟨⟨_,rfl,.inl rfl⟩,⟨_,rfl,.inl rfl⟩,trivial⟩) (AllP.mem (by repeat first|exact trivial|refine⟨.inl rfl,?_⟩|refine⟨.inr ⟨_,rfl,.inl rfl⟩,?_⟩|refine⟨.inr ⟨_,rfl,.inr (.inr ⟨_,_,_,_,_,rfl,rfl,⟨.inl rfl,.inl rfl,.inl rfl,.inl rfl,.inl rfl,.inl rfl,.inl rfl,.inl rfl,.inl rfl,.inl rfl,.inl rfl,.inr ⟨rfl,rfl⟩,.inl rfl,.inl rfl,.inl rfl,.inl rfl,trivial⟩⟩)⟩,?_⟩)) ?_
 refine Run.pG (T':=[(3,.ptr 5 0),(9,.ptr 15 0)]) (M':=[(31,.row 1 0 [] 3),(30,_),(29,_),(28,_),(27,_),(26,_),(25,_),(24,_),(23,_),(22,_),(21,_),(20,_),(19,_),(18,_),(17,_),(15,_),(12,_),(13,.row 1 16 [.opq 19,.opq 20,.opq 21,.opq 22,.opq 23,.opq 24,.opq 25,.opq 26,.opq 27,.opq 28,.opq 29,.opq 30,.opq 31,nq,nq,nq] 27),(5,_),(0,_),(1,_),(2,_),(3,_),(4,_)]) 1 3 (AllP.mem ⟨⟨_,rfl,.inl rfl⟩,⟨_,rfl,.inl rfl⟩,trivial⟩) (AllP.mem (by repeat first|exact trivial|refine⟨.inl rfl,?_⟩|refine⟨.inr ⟨_,rfl,.inl rfl⟩,?_⟩|refine⟨.inr ⟨_,rfl,.inr (.inr ⟨_,_,_,_,_,rfl,rfl,⟨.inl rfl,.inl rfl,.inl rfl,.inl rfl,.inl rfl,.inl rfl,.inl rfl,.inl rfl,.inl rfl,.inl rfl,.inl rfl,.inl rfl,.inr ⟨rfl,rfl⟩,.inl rfl,.inl rfl,.inl rfl,trivial⟩⟩)⟩,?_⟩)) ?_
 refine Run.pG (T':=[(3,.ptr 5 0),(9,.ptr 15 0)]) (M':=[(32,.row 1 0 [] 3),(31,_),(30,_),(29,_),(28,_),(27,_),(26,_),(25,_),(24,_),(23,_),(22,_),(21,_),(20,_),(19,_),(18,_),(17,_),(15,_),(12,_),(13,.row 1 16 [.opq 19,.opq 20,.opq 21,.opq 22,.opq 23,.opq 24,.opq 25,.opq 26,.opq 27,.opq 28,.opq 29,.opq 30,.opq 31,.opq 32,nq,nq] 27),(5,_),(0,_),(1,_),(2,_),(3,_),(4,_)]) 1 3 (AllP.mem ⟨⟨_,rfl,.inl rfl⟩,⟨_,rfl,.inl rfl⟩,trivial⟩) (AllP.mem (by repeat first|exact trivial|refine⟨.inl rfl,?_⟩|refine⟨.inr ⟨_,rfl,.inl rfl⟩,?_⟩|refine⟨.inr ⟨_,rfl,.inr (.inr ⟨_,_,_,_,_,rfl,rfl,⟨.inl rfl,.inl rfl,.inl rfl,.inl rfl,.inl rfl,.inl rfl,.inl rfl,.inl rfl,.inl rfl,.inl rfl,.inl rfl,.inl rfl,.inl rfl,.inr ⟨rfl,rfl⟩,.inl rfl,.inl rfl,trivial⟩⟩)⟩,?_⟩)) ?_
 refine Run.pG (T':=[(3,.ptr 5 0),(9,.ptr 15 0)]) (M':=[(33,.row 1 0 [] 3),(32,_),(31,_),(30,_),(29,_),(28,_),(27,_),(26,_),(25,_),(24,_),(23,_),(22,_),(21,_),(20,_),(19,_),(18,_),(17,_),(15,_),(12,_),(13,.row 1 16 [.opq 19,.opq 20,.opq 21,.opq 22,.opq 23,.opq 24,.opq 25,.opq 26,.opq 27,.opq 28,.opq 29,.opq 30,.opq 31,.opq 32,.opq 33,nq] 27),(5,_),(0,_),(1,_),(2,_),(3,_),(4,_)]) 1 3 (AllP.mem ⟨⟨_,rfl,.inl rfl⟩,⟨_,rfl,.inl rfl⟩,trivial⟩) (AllP.mem (by repeat first|exact trivial|refine⟨.inl rfl,?_⟩|refine⟨.inr ⟨_,rfl,.inl rfl⟩,?_⟩|refine⟨.inr ⟨_,rfl,.inr (.inr ⟨_,_,_,_,_,rfl,rfl,⟨.inl rfl,.inl rfl,.inl rfl,.inl rfl,.inl rfl,.inl rfl,.inl rfl,.inl rfl,.inl rfl,.inl rfl,.inl rfl,.inl rfl,.inl rfl,.inl rfl,.inr ⟨rfl,rfl⟩,.inl rfl,trivial⟩⟩)⟩,?_⟩)) ?_
 refine Run.pG (T':=[(3,.ptr 5 0),(9,.ptr 15 0)]) (M':=[(34,.row 1 0 [] 3),(33,_),(32,_),(31,_),(30,_),(29,_),(28,_),(27,_),(26,_),(25,_),(24,_),(23,_),(22,_),(21,_),(20,_),(19,_),(18,_),(17,_),(15,_),(12,_),(13,.row 1 16 [.opq 19,.opq 20,.opq 21,.opq 22,.opq 23,.opq 24,.opq 25,.opq 26,.opq 27,.opq 28,.opq 29,.opq 30,.opq 31,.opq 32,.opq 33,.opq 34] 27),(5,_),(0,_),(1,_),(2,_),(3,_),(4,_)]) 1 3 (AllP.mem ⟨⟨_,rfl,.inl rfl⟩,⟨_,rfl,.inl rfl⟩,trivial⟩) (AllP.mem (by repeat first|exact trivial|refine⟨.inl rfl,?_⟩|refine⟨.inr ⟨_,rfl,.inl rfl⟩,?_⟩|refine⟨.inr ⟨_,rfl,.inr (.inr ⟨_,_,_,_,_,rfl,rfl,⟨.inl rfl,.inl rfl,.inl rfl,.inl rfl,.inl rfl,.inl rfl,.inl rfl,.inl rfl,.inl rfl,.inl rfl,.inl rfl,.inl rfl,.inl rfl,.inl rfl,.inl rfl,.inr ⟨rfl,rfl⟩,trivial⟩⟩)⟩,?_⟩)) ?_
 refine Run.W2 hc ?_
 conv=>whnf
 refine Run.lJ (T:=fun i=>[(3,.ptr 5 0),(9,.ptr 15 0),(10,ii ((i:Nat):Int))]) (M:=fun i=>[(17,.row 4 i ((x.m0.take i).flatMap Mrk.cells) 141),(18,.row 1 0 [] 27),(19,.row 1 0 [] 3),(20,.row 1 0 [] 3),(21,.row 1 0 [] 3),(22,.row 1 0 [] 3),(23,.row 1 0 [] 3),(24,.row 1 0 [] 3),(25,.row 1 0 [] 3),(26,.row 1 0 [] 3),(27,.row 1 0 [] 3),(28,.row 1 0 [] 3),(29,.row 1 0 [] 3),(30,.row 1 0 [] 3),(31,.row 1 0 [] 3),(32,.row 1 0 [] 3),(33,.row 1 0 [] 3),(34,.row 1 0 [] 3),(15,.cells [.opq 0,ii x.n.inp,.opq 1,.opq 2,.opq 3,.opq 17,.opq 18,ii 0,.opq 12,.opq 13] 108),(12,.row 2 x.n.N.length ((List.replicate x.n.N.length jS).flatMap Ste.cells) 139),(13,.row 1 16 [.opq 19,.opq 20,.opq 21,.opq 22,.opq 23,.opq 24,.opq 25,.opq 26,.opq 27,.opq 28,.opq 29,.opq 30,.opq 31,.opq 32,.opq 33,.opq 34] 27),(5,.cells [.opq 0,ii x.n.inp,.opq 1] 25),(0,.rwin 8 x.n.N.length (x.n.N.flatMap Prm.vals)),(1,.rwin 4 x.n.S.length (x.n.S.flatMap Syn.vals)),(2,.rwin 10 x.rs.length (x.rs.flatMap Rul.vals)),(3,.rwin 1 x.pl.length (qB x.pl)),(4,.pin plp)]) 50 (fun _=>True) x.n.S.length ⟨⟨rfl,ltb rfl⟩,⟨rfl,ltb rfl⟩,⟨rfl,trivial⟩,trivial⟩ (by repeat first|exact trivial|refine⟨⟨rfl,by omega,Os.h _⟩,?_⟩|refine⟨⟨rfl,by omega,qC _ rfl⟩,?_⟩|refine⟨⟨rfl,by omega,pnx hcov rfl⟩,?_⟩) (lbx hLB rfl) trivial ?_ ?_
 ·intro u hu _ ih
  have ht:x.m0.take (u+1)=x.m0.take u++[mk0 x.n.S[u]]:=by
   have hl:u<x.m0.length:=by unfold Lnt.m0;rw[List.length_map];exact hu
   rw[←List.take_append_getElem hl]
   congr 1
   simp[Lnt.m0]
  refine Run.W2 hc ?_
  conv=>whnf
  rw[decide_eq_true (show((u:Nat):Int)<(x.n.S.length:Int)by omega)]
  conv=>whnf
  refine Run.draw0 (hc w L0 none nofun) fun l0 hl0=> ?_
  have hlin:=Lin.ofGo [0,1,2,3,4,5,6,7,8,9,10,11,12,13,14,15,16] hl0 rfl (by decide)
  apply joinA [(35,.ptr 15 0),(3,.ptr 5 0),(9,.ptr 15 0),(10,ii ((u:Nat):Int)),(39,.opq 17),(47,.slc 62 0 1 1)] [(62,.cells [ii x.n.S[u].w,ii 0,ii 0,ii 0] 141),(17,.row 4 u ((x.m0.take u).flatMap Mrk.cells) 141),(18,.row 1 0 [] 27),(19,.row 1 0 [] 3),(20,.row 1 0 [] 3),(21,.row 1 0 [] 3),(22,.row 1 0 [] 3),(23,.row 1 0 [] 3),(24,.row 1 0 [] 3),(25,.row 1 0 [] 3),(26,.row 1 0 [] 3),(27,.row 1 0 [] 3),(28,.row 1 0 [] 3),(29,.row 1 0 [] 3),(30,.row 1 0 [] 3),(31,.row 1 0 [] 3),(32,.row 1 0 [] 3),(33,.row 1 0 [] 3),(34,.row 1 0 [] 3),(15,.cells [.opq 0,ii x.n.inp,.opq 1,.opq 2,.opq 3,.opq 17,.opq 18,ii 0,.opq 12,.opq 13] 108),(12,.row 2 x.n.N.length ((List.replicate x.n.N.length jS).flatMap Ste.cells) 139),(13,.row 1 16 [.opq 19,.opq 20,.opq 21,.opq 22,.opq 23,.opq 24,.opq 25,.opq 26,.opq 27,.opq 28,.opq 29,.opq 30,.opq 31,.opq 32,.opq 33,.opq 34] 27),(5,.cells [.opq 0,ii x.n.inp,.opq 1] 25),(0,.rwin 8 x.n.N.length (x.n.N.flatMap Prm.vals)),(1,.rwin 4 x.n.S.length (x.n.S.flatMap Syn.vals)),(2,.rwin 10 x.rs.length (x.rs.flatMap Rul.vals)),(3,.rwin 1 x.pl.length (qB x.pl)),(4,.pin plp)] 67 [13,14,15,16]
  ·intro g1
   refine Run.pS (hc w L0 none nofun) [1,2,3,4,5,6,7,8,9,10,11,12] [0] [13,14,15,16] hlin ?_
   conv=>whnf
   refine⟨by omega,?_⟩
   conv=>whnf
   rw[qP (f:=Syn.vals) (l:=x.n.S) u 2 rfl rfl rfl rfl Syn.vlen (by rw[qE]) hu (by decide) rfl]
   conv=>whnf
   refine⟨by kernel_rfl,fun l1 hl1=> ?_,.inr ⟨[(3,.ptr 5 0),(9,.ptr 15 0),(10,ii ((u:Nat):Int)),(39,.opq 17),(47,.slc 62 0 1 1)],[(62,.cells [ii x.n.S[u].w,ii 0,ii 0,ii 0] 141),(17,.row 4 u ((x.m0.take u).flatMap Mrk.cells) 141),(18,.row 1 0 [] 27),(19,.row 1 0 [] 3),(20,.row 1 0 [] 3),(21,.row 1 0 [] 3),(22,.row 1 0 [] 3),(23,.row 1 0 [] 3),(24,.row 1 0 [] 3),(25,.row 1 0 [] 3),(26,.row 1 0 [] 3),(27,.row 1 0 [] 3),(28,.row 1 0 [] 3),(29,.row 1 0 [] 3),(30,.row 1 0 [] 3),(31,.row 1 0 [] 3),(32,.row 1 0 [] 3),(33,.row 1 0 [] 3),(34,.row 1 0 [] 3),(15,.cells [.opq 0,ii x.n.inp,.opq 1,.opq 2,.opq 3,.opq 17,.opq 18,ii 0,.opq 12,.opq 13] 108),(12,.row 2 x.n.N.length ((List.replicate x.n.N.length jS).flatMap Ste.cells) 139),(13,.row 1 16 [.opq 19,.opq 20,.opq 21,.opq 22,.opq 23,.opq 24,.opq 25,.opq 26,.opq 27,.opq 28,.opq 29,.opq 30,.opq 31,.opq 32,.opq 33,.opq 34] 27),(5,.cells [.opq 0,ii x.n.inp,.opq 1] 25),(0,.rwin 8 x.n.N.length (x.n.N.flatMap Prm.vals)),(1,.rwin 4 x.n.S.length (x.n.S.flatMap Syn.vals)),(2,.rwin 10 x.rs.length (x.rs.flatMap Rul.vals)),(3,.rwin 1 x.pl.length (qB x.pl)),(4,.pin plp)],by kernel_rfl,⟨rfl,rfl,rfl,rfl,rfl,trivial⟩,(by repeat first|exact trivial|refine⟨rfl,?_⟩),fun l1 hl1=> ?_⟩⟩
   ·exact Run.tH (g1 l1 hl1) ⟨⟨rfl,ltb rfl⟩,⟨rfl,ltb rfl⟩,⟨rfl,ltb rfl⟩,⟨rfl,trivial⟩,⟨rfl,ltb rfl⟩,⟨rfl,ltb rfl⟩,trivial⟩ (by repeat first|exact trivial|refine⟨⟨rfl,by omega,qC _ rfl⟩,?_⟩|refine⟨⟨rfl,by omega,Os.h _⟩,?_⟩|refine⟨⟨rfl,by omega,pnx hcov rfl⟩,?_⟩) (lbx hLB rfl)
   ·obtain⟨i,l2,rfl,hi,_,hl2⟩:=hl1.next [13,0] rfl rfl rfl
    have hi2:i=13∨i=0:=by simpa using hi
    rcases hi2 with rfl|rfl
    ·refine Run.append (hc w L0 none nofun) rfl rfl rfl rfl rfl rfl rfl rfl rfl rfl rfl rfl rfl rfl rfl (by decide) ⟨by omega,by omega⟩ [(18,_),(19,_),(20,_),(21,_),(22,_),(23,_),(24,_),(25,_),(26,_),(27,_),(28,_),(29,_),(30,_),(31,_),(32,_),(33,_),(34,_),(15,_),(12,_),(13,_),(5,_),(0,_),(1,_),(2,_),(3,_),(4,_)] (AllP.mem (by repeat first|exact trivial|refine⟨⟨rfl,(neb rfl)⟩,?_⟩)) ?_
     refine Run.pS (hc w L0 none nofun) [0,14,15,16] [] [] hl2 ?_
     conv=>whnf
     refine⟨by kernel_rfl,fun l3 hl3=> ?_,.inl rfl⟩
     obtain rfl:=hl3.nil
     refine Run.W2 hc ?_
     conv=>whnf
     rw[ht]at ih
     refine Run.oB (ih trivial) (rq [(17,67),(67,17)]) ?_ ?_ ?_ ?_
     ·intro i hi j hj hne he
      have inv :∀i,i<50→rq [(17,67),(67,17)] (rq [(17,67),(67,17)] i)=i:=by decide
      exact hne (by rw[←inv i hi,he,inv j hj])
     ·exact⟨⟨rfl,ltb rfl⟩,⟨rfl,ltb rfl⟩,⟨wsx (by omega),trivial⟩,trivial⟩
     ·exact(by repeat first|exact trivial|refine⟨⟨rfl,by omega,Os.h _⟩,?_⟩|refine⟨⟨rfl,by omega,qC _ rfl⟩,?_⟩|refine⟨⟨congrArg some (show _=SObj.ren _ (.row 4 (u+1) ((x.m0.take u++[mk0 x.n.S[u]]).flatMap Mrk.cells) 141)by rw[ofx (o:=.row 4 (u+1) ((x.m0.take u++[mk0 x.n.S[u]]).flatMap Mrk.cells) 141) (qF _ _),List.flatMap_append];rfl),by omega,Os.h _⟩,?_⟩|refine⟨⟨congrArg some (ofx (o:=.row 2 x.n.N.length ((List.replicate x.n.N.length jS).flatMap Ste.cells) 139) (qQ _ _)).symm,by omega,Os.h _⟩,?_⟩|refine⟨⟨congrArg some (yG hcov (fun i hi=>zC (qZ (B:=4) rfl hi))).symm,by omega,pnx hcov rfl⟩,?_⟩)
     ·intro p hp
      have:=hLB p hp;exact⟨zC (qZ (B:=4) rfl this),by omega⟩
    ·refine Run.r8 (hc w L0 none nofun) 1 _ ?_
     conv=>whnf
     exact Run.tH (g1 l2 hl2) ⟨⟨rfl,ltb rfl⟩,⟨rfl,ltb rfl⟩,⟨rfl,ltb rfl⟩,⟨rfl,trivial⟩,⟨rfl,ltb rfl⟩,⟨rfl,ltb rfl⟩,trivial⟩ (by repeat first|exact trivial|refine⟨⟨rfl,by omega,qC _ rfl⟩,?_⟩|refine⟨⟨rfl,by omega,Os.h _⟩,?_⟩|refine⟨⟨rfl,by omega,pnx hcov rfl⟩,?_⟩) (lbx hLB rfl)
  ·intro l1 hl1
   obtain⟨i,l2,rfl,hi,_,hl2⟩:=hl1.next [13] rfl rfl rfl
   obtain rfl:i=13:=by simpa using hi
   refine Run.append (hc w L0 none nofun) rfl rfl rfl rfl rfl rfl rfl rfl rfl rfl rfl rfl rfl rfl rfl (by decide) ⟨by omega,by omega⟩ [(18,_),(19,_),(20,_),(21,_),(22,_),(23,_),(24,_),(25,_),(26,_),(27,_),(28,_),(29,_),(30,_),(31,_),(32,_),(33,_),(34,_),(15,_),(12,_),(13,_),(5,_),(0,_),(1,_),(2,_),(3,_),(4,_)] (AllP.mem (by repeat first|exact trivial|refine⟨⟨rfl,(neb rfl)⟩,?_⟩)) ?_
   refine Run.pS (hc w L0 none nofun) [14,15,16] [] [] hl2 ?_
   conv=>whnf
   refine⟨by kernel_rfl,fun l3 hl3=> ?_,.inl rfl⟩
   obtain rfl:=hl3.nil
   refine Run.W2 hc ?_
   conv=>whnf
   rw[ht]at ih
   refine Run.oB (ih trivial) (rq [(17,67),(67,17)]) ?_ ?_ ?_ ?_
   ·intro i hi j hj hne he
    have inv :∀i,i<50→rq [(17,67),(67,17)] (rq [(17,67),(67,17)] i)=i:=by decide
    exact hne (by rw[←inv i hi,he,inv j hj])
   ·exact⟨⟨rfl,ltb rfl⟩,⟨rfl,ltb rfl⟩,⟨wsx (by omega),trivial⟩,trivial⟩
   ·exact(by repeat first|exact trivial|refine⟨⟨rfl,by omega,Os.h _⟩,?_⟩|refine⟨⟨rfl,by omega,qC _ rfl⟩,?_⟩|refine⟨⟨congrArg some (show _=SObj.ren _ (.row 4 (u+1) ((x.m0.take u++[mk0 x.n.S[u]]).flatMap Mrk.cells) 141)by rw[ofx (o:=.row 4 (u+1) ((x.m0.take u++[mk0 x.n.S[u]]).flatMap Mrk.cells) 141) (qF _ _),List.flatMap_append];rfl),by omega,Os.h _⟩,?_⟩|refine⟨⟨congrArg some (ofx (o:=.row 2 x.n.N.length ((List.replicate x.n.N.length jS).flatMap Ste.cells) 139) (qQ _ _)).symm,by omega,Os.h _⟩,?_⟩|refine⟨⟨congrArg some (yG hcov (fun i hi=>zC (qZ (B:=4) rfl hi))).symm,by omega,pnx hcov rfl⟩,?_⟩)
   ·intro p hp
    have:=hLB p hp;exact⟨zC (qZ (B:=4) rfl this),by omega⟩
 ·intro _
  refine Run.W2 hc ?_
  conv=>whnf
  rw[decide_eq_false (show ¬((x.n.S.length:Nat):Int)<(x.n.S.length:Int)by omega)]
  conv=>whnf
  have hm0l:x.m0.length=x.n.S.length:=by simp[Lnt.m0]
  have hsm:=rsums_spec 0 x.n.inp x.n.N x.n.S x.rs x.pl x.m0 hx1 hx2 hx3 hx4 hm0l hx.p1 hx.to0 hx.to1
  rw[hm0l]at hsm
  rw[show x.m0.take x.n.S.length=x.m0 from List.take_of_length_le (by omega)]
  refine Run.r9 (T':=[(9,.ptr 15 0),(51,.ptr 15 0),(52,.ptr 15 0)]) (M':=[(17,.row 4 x.n.S.length (x.m0.flatMap Mrk.cells) 141),(18,.row 1 0 [] 27),(19,.row 1 0 [] 3),(20,.row 1 0 [] 3),(21,.row 1 0 [] 3),(22,.row 1 0 [] 3),(23,.row 1 0 [] 3),(24,.row 1 0 [] 3),(25,.row 1 0 [] 3),(26,.row 1 0 [] 3),(27,.row 1 0 [] 3),(28,.row 1 0 [] 3),(29,.row 1 0 [] 3),(30,.row 1 0 [] 3),(31,.row 1 0 [] 3),(32,.row 1 0 [] 3),(33,.row 1 0 [] 3),(34,.row 1 0 [] 3),(15,.cells [.opq 0,ii x.n.inp,.opq 1,.opq 2,.opq 3,.opq 17,.opq 18,ii 0,.opq 12,.opq 13] 108),(12,.row 2 x.n.N.length ((List.replicate x.n.N.length jS).flatMap Ste.cells) 139),(13,.row 1 16 [.opq 19,.opq 20,.opq 21,.opq 22,.opq 23,.opq 24,.opq 25,.opq 26,.opq 27,.opq 28,.opq 29,.opq 30,.opq 31,.opq 32,.opq 33,.opq 34] 27),(5,.cells [.opq 0,ii x.n.inp,.opq 1] 25),(0,.rwin 8 x.n.N.length (x.n.N.flatMap Prm.vals)),(1,.rwin 4 x.n.S.length (x.n.S.flatMap Syn.vals)),(2,.rwin 10 x.rs.length (x.rs.flatMap Rul.vals)),(3,.rwin 1 x.pl.length (qB x.pl)),(4,.pin plp)]) 100 ⟨⟨rfl,ltb rfl⟩,⟨rfl,ltb rfl⟩,⟨rfl,ltb rfl⟩,trivial⟩ (by repeat first|exact trivial|refine⟨⟨rfl,by omega,Os.h _⟩,?_⟩|refine⟨⟨rfl,by omega,qC _ rfl⟩,?_⟩|refine⟨⟨rfl,by omega,pnx hcov rfl⟩,?_⟩) (lbx hLB rfl) ?_
  refine Run.pM (vs:=[.ptr 0 0]) (caps:=[]) (caps2:=[]) hsm (ent _ _ Try.func72 (by kernel_rfl) rfl) rfl rfl rfl rfl rfl rfl [.ptr 15 0] rfl (fun q=>if q=0 then 15 else if q=1 then 0 else if q=2 then 1 else if q=3 then 12 else if q=4 then 2 else if q=5 then 3 else if q=6 then 17 else if q=7 then 18 else if q=8 then 13 else q+50) rfl (fun q hq=>by have inv :∀q,q<41→(fun q=>if q=0 then 15 else if q=1 then 0 else if q=2 then 1 else if q=3 then 12 else if q=4 then 2 else if q=5 then 3 else if q=6 then 17 else if q=7 then 18 else if q=8 then 13 else q+50) q<100:=(by decide);exact inv q hq) (fun q hq j hj hne=>by have inj :∀i,i<41 → ∀j,j<41→i≠j→(fun q=>if q=0 then 15 else if q=1 then 0 else if q=2 then 1 else if q=3 then 12 else if q=4 then 2 else if q=5 then 3 else if q=6 then 17 else if q=7 then 18 else if q=8 then 13 else q+50) i≠(fun q=>if q=0 then 15 else if q=1 then 0 else if q=2 then 1 else if q=3 then 12 else if q=4 then 2 else if q=5 then 3 else if q=6 then 17 else if q=7 then 18 else if q=8 then 13 else q+50) j:=(by decide);exact inj q hq j hj hne) (by decide) (by repeat first|exact trivial|refine⟨⟨by omega,trivial,⟨_,rfl,Conv.refl _⟩,.inl rfl,fun _=>by simp⟩,?_⟩|refine⟨⟨by omega,trivial,⟨_,rfl,Conv.row (by decide) (xU _)⟩,.inl rfl,fun _=>by simp⟩,?_⟩|refine⟨⟨by omega,by simp[zS,SObj.sc,SV.scs,SV.sc],⟨_,rfl,Conv.refl _⟩,.inr (by simp),fun h=>by cases h⟩,?_⟩) (fun q hq=>by simp at hq;subst hq;exact⟨by omega,_,rfl⟩) (.opq 100) ((100,.row 1 x.rs.length (zT 101 x.rs.length) 27)::(101,.row 1 (cN x.rs.length x.n.N.length 0) ((rsL x.n.S x.pl x.m0 x.rs.length x.n.N.length 0).map fun x=>ii x) 3)::(102,.row 1 (cN x.rs.length x.n.N.length 1) ((rsL x.n.S x.pl x.m0 x.rs.length x.n.N.length 1).map fun x=>ii x) 3)::(103,.row 1 (cN x.rs.length x.n.N.length 2) ((rsL x.n.S x.pl x.m0 x.rs.length x.n.N.length 2).map fun x=>ii x) 3)::(104,.row 1 (cN x.rs.length x.n.N.length 3) ((rsL x.n.S x.pl x.m0 x.rs.length x.n.N.length 3).map fun x=>ii x) 3)::(105,.row 1 (cN x.rs.length x.n.N.length 4) ((rsL x.n.S x.pl x.m0 x.rs.length x.n.N.length 4).map fun x=>ii x) 3)::(106,.row 1 (cN x.rs.length x.n.N.length 5) ((rsL x.n.S x.pl x.m0 x.rs.length x.n.N.length 5).map fun x=>ii x) 3)::(107,.row 1 (cN x.rs.length x.n.N.length 6) ((rsL x.n.S x.pl x.m0 x.rs.length x.n.N.length 6).map fun x=>ii x) 3)::(108,.row 1 (cN x.rs.length x.n.N.length 7) ((rsL x.n.S x.pl x.m0 x.rs.length x.n.N.length 7).map fun x=>ii x) 3)::(109,.row 1 (cN x.rs.length x.n.N.length 8) ((rsL x.n.S x.pl x.m0 x.rs.length x.n.N.length 8).map fun x=>ii x) 3)::(110,.row 1 (cN x.rs.length x.n.N.length 9) ((rsL x.n.S x.pl x.m0 x.rs.length x.n.N.length 9).map fun x=>ii x) 3)::(111,.row 1 (cN x.rs.length x.n.N.length 10) ((rsL x.n.S x.pl x.m0 x.rs.length x.n.N.length 10).map fun x=>ii x) 3)::(112,.row 1 (cN x.rs.length x.n.N.length 11) ((rsL x.n.S x.pl x.m0 x.rs.length x.n.N.length 11).map fun x=>ii x) 3)::(113,.row 1 (cN x.rs.length x.n.N.length 12) ((rsL x.n.S x.pl x.m0 x.rs.length x.n.N.length 12).map fun x=>ii x) 3)::(114,.row 1 (cN x.rs.length x.n.N.length 13) ((rsL x.n.S x.pl x.m0 x.rs.length x.n.N.length 13).map fun x=>ii x) 3)::(115,.row 1 (cN x.rs.length x.n.N.length 14) ((rsL x.n.S x.pl x.m0 x.rs.length x.n.N.length 14).map fun x=>ii x) 3)::(116,.row 1 (cN x.rs.length x.n.N.length 15) ((rsL x.n.S x.pl x.m0 x.rs.length x.n.N.length 15).map fun x=>ii x) 3)::(15,.cells [.opq 0,ii x.n.inp,.opq 1,.opq 2,.opq 3,.opq 17,.opq 18,ii 0,.opq 12,.opq 13] 108)::(17,.row 4 x.n.S.length (x.m0.flatMap Mrk.cells) 141)::(19,.row 1 0 [] 3)::(20,.row 1 0 [] 3)::(21,.row 1 0 [] 3)::(22,.row 1 0 [] 3)::(23,.row 1 0 [] 3)::(24,.row 1 0 [] 3)::(25,.row 1 0 [] 3)::(26,.row 1 0 [] 3)::(27,.row 1 0 [] 3)::(28,.row 1 0 [] 3)::(29,.row 1 0 [] 3)::(30,.row 1 0 [] 3)::(31,.row 1 0 [] 3)::(32,.row 1 0 [] 3)::(33,.row 1 0 [] 3)::(34,.row 1 0 [] 3)::(12,.row 2 x.n.N.length ((List.replicate x.n.N.length jS).flatMap Ste.cells) 139)::(13,.row 1 16 [.opq 19,.opq 20,.opq 21,.opq 22,.opq 23,.opq 24,.opq 25,.opq 26,.opq 27,.opq 28,.opq 29,.opq 30,.opq 31,.opq 32,.opq 33,.opq 34] 27)::(0,.rwin 8 x.n.N.length (x.n.N.flatMap Prm.vals))::(1,.rwin 4 x.n.S.length (x.n.S.flatMap Syn.vals))::(2,.rwin 10 x.rs.length (x.rs.flatMap Rul.vals))::(3,.rwin 1 x.pl.length (qB x.pl))::(4,.pin plp)::[]) 117 rfl rfl
   ⟨.inr ⟨41,_,rfl,rfl,(z5 (b:=42) (b':=101) (fun j hj=>by have inv :∀j,j<16→shR (fun q=>if q=0 then 15 else if q=1 then 0 else if q=2 then 1 else if q=3 then 12 else if q=4 then 2 else if q=5 then 3 else if q=6 then 17 else if q=7 then 18 else if q=8 then 13 else q+50) 41 100 (42+j)=101+j:=(by decide);exact inv j (by omega))).symm,rfl⟩,.inr ⟨42,_,rfl,rfl,(ofx (o:=.row _ _ (List.map _ _) _) (qK _ _)).symm,rfl⟩,.inr ⟨43,_,rfl,rfl,(ofx (o:=.row _ _ (List.map _ _) _) (qK _ _)).symm,rfl⟩,.inr ⟨44,_,rfl,rfl,(ofx (o:=.row _ _ (List.map _ _) _) (qK _ _)).symm,rfl⟩,.inr ⟨45,_,rfl,rfl,(ofx (o:=.row _ _ (List.map _ _) _) (qK _ _)).symm,rfl⟩,.inr ⟨46,_,rfl,rfl,(ofx (o:=.row _ _ (List.map _ _) _) (qK _ _)).symm,rfl⟩,.inr ⟨47,_,rfl,rfl,(ofx (o:=.row _ _ (List.map _ _) _) (qK _ _)).symm,rfl⟩,.inr ⟨48,_,rfl,rfl,(ofx (o:=.row _ _ (List.map _ _) _) (qK _ _)).symm,rfl⟩,.inr ⟨49,_,rfl,rfl,(ofx (o:=.row _ _ (List.map _ _) _) (qK _ _)).symm,rfl⟩,.inr ⟨50,_,rfl,rfl,(ofx (o:=.row _ _ (List.map _ _) _) (qK _ _)).symm,rfl⟩,.inr ⟨51,_,rfl,rfl,(ofx (o:=.row _ _ (List.map _ _) _) (qK _ _)).symm,rfl⟩,.inr ⟨52,_,rfl,rfl,(ofx (o:=.row _ _ (List.map _ _) _) (qK _ _)).symm,rfl⟩,.inr ⟨53,_,rfl,rfl,(ofx (o:=.row _ _ (List.map _ _) _) (qK _ _)).symm,rfl⟩,.inr ⟨54,_,rfl,rfl,(ofx (o:=.row _ _ (List.map _ _) _) (qK _ _)).symm,rfl⟩,.inr ⟨55,_,rfl,rfl,(ofx (o:=.row _ _ (List.map _ _) _) (qK _ _)).symm,rfl⟩,.inr ⟨56,_,rfl,rfl,(ofx (o:=.row _ _ (List.map _ _) _) (qK _ _)).symm,rfl⟩,.inr ⟨57,_,rfl,rfl,(ofx (o:=.row _ _ (List.map _ _) _) (qK _ _)).symm,rfl⟩,.inr ⟨0,_,rfl,rfl,rfl,rfl⟩,.inl ⟨rfl,fun q hq=>by simp at hq;subst hq;exact(show 15≠17 by decide)⟩,.inl ⟨rfl,fun q hq=>by simp at hq;subst hq;exact(show 15≠19 by decide)⟩,.inl ⟨rfl,fun q hq=>by simp at hq;subst hq;exact(show 15≠20 by decide)⟩,.inl ⟨rfl,fun q hq=>by simp at hq;subst hq;exact(show 15≠21 by decide)⟩,.inl ⟨rfl,fun q hq=>by simp at hq;subst hq;exact(show 15≠22 by decide)⟩,.inl ⟨rfl,fun q hq=>by simp at hq;subst hq;exact(show 15≠23 by decide)⟩,.inl ⟨rfl,fun q hq=>by simp at hq;subst hq;exact(show 15≠24 by decide)⟩,.inl ⟨rfl,fun q hq=>by simp at hq;subst hq;exact(show 15≠25 by decide)⟩,.inl ⟨rfl,fun q hq=>by simp at hq;subst hq;exact(show 15≠26 by decide)⟩,.inl ⟨rfl,fun q hq=>by simp at hq;subst hq;exact(show 15≠27 by decide)⟩,.inl ⟨rfl,fun q hq=>by simp at hq;subst hq;exact(show 15≠28 by decide)⟩,.inl ⟨rfl,fun q hq=>by simp at hq;subst hq;exact(show 15≠29 by decide)⟩,.inl ⟨rfl,fun q hq=>by simp at hq;subst hq;exact(show 15≠30 by decide)⟩,.inl ⟨rfl,fun q hq=>by simp at hq;subst hq;exact(show 15≠31 by decide)⟩,.inl ⟨rfl,fun q hq=>by simp at hq;subst hq;exact(show 15≠32 by decide)⟩,.inl ⟨rfl,fun q hq=>by simp at hq;subst hq;exact(show 15≠33 by decide)⟩,.inl ⟨rfl,fun q hq=>by simp at hq;subst hq;exact(show 15≠34 by decide)⟩,.inl ⟨rfl,fun q hq=>by simp at hq;subst hq;exact(show 15≠12 by decide)⟩,.inl ⟨rfl,fun q hq=>by simp at hq;subst hq;exact(show 15≠13 by decide)⟩,.inl ⟨rfl,fun q hq=>by simp at hq;subst hq;exact(show 15≠0 by decide)⟩,.inl ⟨rfl,fun q hq=>by simp at hq;subst hq;exact(show 15≠1 by decide)⟩,.inl ⟨rfl,fun q hq=>by simp at hq;subst hq;exact(show 15≠2 by decide)⟩,.inl ⟨rfl,fun q hq=>by simp at hq;subst hq;exact(show 15≠3 by decide)⟩,.inl ⟨rfl,fun q hq=>by simp at hq;subst hq;exact(show 15≠4 by decide)⟩,trivial⟩ ?_
  refine Run.W2 hc ?_
  conv=>whnf
  rw[←hRR]
  refine SpecR.pR (fun q=>if q<4 then q else if q=4 then 15 else if q=5 then 17 else if q=6 then 100 else if q=7 then 12 else if q=8 then 13 else if q<25 then q+10 else q+76) (fun i hi=>if_pos hi) ?_ (Widens.refl _ _) hLB (by decide) hcov rfl rfl ⟨(show 4<41 by decide),trivial,trivial⟩ (by repeat first|exact trivial|refine⟨⟨rfl,by omega,qC _ rfl⟩,?_⟩|refine⟨⟨rfl,by omega,Os.h _⟩,?_⟩|refine⟨⟨congrArg some (ofx (o:=.row _ _ (List.flatMap Mrk.cells _) _) (qF _ _)).symm,by omega,Os.h _⟩,?_⟩|refine⟨⟨congrArg some (z5 (r:=(fun q=>if q<4 then q else if q=4 then 15 else if q=5 then 17 else if q=6 then 100 else if q=7 then 12 else if q=8 then 13 else if q<25 then q+10 else q+76)) (b:=25) (b':=101) (fun j hj=>by have inv :∀j,j<16→(fun q=>if q<4 then q else if q=4 then 15 else if q=5 then 17 else if q=6 then 100 else if q=7 then 12 else if q=8 then 13 else if q<25 then q+10 else q+76) (25+j)=101+j:=(by decide);exact inv j (by omega))).symm,by omega,qO (by omega)⟩,?_⟩|refine⟨⟨congrArg some (ofx (o:=.row _ _ (List.flatMap Ste.cells _) _) (qQ _ _)).symm,by omega,Os.h _⟩,?_⟩|refine⟨⟨congrArg some (ofx (o:=.row _ _ (List.map _ _) _) (qK _ _)).symm,by omega,Os.h _⟩,?_⟩)
  intro i hi j hj hne
  have inj :∀i,i<41 → ∀j,j<41→i≠j→(fun q=>if q<4 then q else if q=4 then 15 else if q=5 then 17 else if q=6 then 100 else if q=7 then 12 else if q=8 then 13 else if q<25 then q+10 else q+76) i≠(fun q=>if q<4 then q else if q=4 then 15 else if q=5 then 17 else if q=6 then 100 else if q=7 then 12 else if q=8 then 13 else if q<25 then q+10 else q+76) j:=by decide
  exact inj i hi j hj hne
set_option maxHeartbeats 8000000
theorem rNet_spec (tk inp:Int)(S:List Syn)(m:List Mrk)(hS:S.length≤8192)(hm:m.length=S.length) :
  BSpec Try.prog 57 [.ptr 0 0] [(0,.cells (zS (ii tk) inp) 108),(2,.rwin 4 S.length (S.flatMap Syn.vals)),(6,.rwin 4 S.length (m.flatMap Mrk.vals))] 41 [0] (.agg [.opq 1,ii inp,.opq 41]) [(41,.row 4 S.length ((jM S m).flatMap Syn.cells) 55),(0,.cells (zS (ii tk) inp) 108)] 42:=by
 have hc :∀w L' rd,(∀p,rd=some p→p∈L')→Cx.ok ⟨Try.prog,tab,[],57,Try.f57,[],w,L',rd⟩:=fun w L' rd h=>⟨qI,trivial,Try.func57,mixed,h⟩
 refine BSpec.start (tab:=tab) (pf:=[]) (cuts:=[]) Try.func57 rfl ⟨ltb rfl,trivial⟩ rfl fun w L0 plp hL' hLB hcov=>Run.r8 (hc w L0 none nofun) 100 _ ?_
 conv=>whnf
 refine Run.appendC (hc w L0 none nofun) (j:=44) (e:=4) (te:=55) rfl rfl rfl rfl rfl rfl rfl (fun ρ w1 hW=>hW.rowsAt rfl) (one_syn S) rfl rfl rfl rfl (by decide) ⟨by omega,by omega⟩ [(42,.cells [nq,ii 0,nq] 25),(43,.cells [.opq 1,ii inp,.opq 2] 25),(0,.cells (zS (ii tk) inp) 108),(2,.rwin 4 S.length (S.flatMap Syn.vals)),(6,.rwin 4 S.length (m.flatMap Mrk.vals)),(41,.pin plp)] (by repeat first|exact trivial|refine⟨⟨rfl,(neb rfl)⟩,?_⟩) ?_
 refine Run.W2 hc ?_
 conv=>whnf
 refine Run.lJ (T:=fun i=>[(0,.ptr 0 0),(2,.ptr 42 0),(3,.ptr 43 0),(4,ii ((i:Nat):Int))]) (M:=fun i=>[(45,.row 4 S.length ((nowY S m i).flatMap Syn.cells) 55),(42,.cells [nq,ii 0,nq] 25),(43,.cells [.opq 1,ii inp,.opq 45] 25),(0,.cells (zS (ii tk) inp) 108),(2,.rwin 4 S.length (S.flatMap Syn.vals)),(6,.rwin 4 S.length (m.flatMap Mrk.vals)),(41,.pin plp)]) 46 (fun _=>True) S.length ⟨⟨rfl,ltb rfl⟩,⟨rfl,ltb rfl⟩,⟨rfl,ltb rfl⟩,⟨rfl,trivial⟩,trivial⟩ ⟨⟨by rw[show nowY S m 0=S from rfl,syns_v];rfl,by omega,Os.h _⟩,⟨rfl,by omega,qC _ rfl⟩,⟨rfl,by omega,qC _ rfl⟩,⟨rfl,by omega,qC _ rfl⟩,⟨rfl,by omega,Os.h _⟩,⟨rfl,by omega,Os.h _⟩,⟨rfl,by omega,pnx hcov rfl⟩,trivial⟩ (lbx hLB rfl) trivial ?_ ?_
 ·intro u hu _ ih
  refine Run.W2 hc ?_
  conv=>whnf
  rw[decide_eq_true (show((u:Nat):Int)<(S.length:Int)by omega)]
  conv=>whnf
  have e:=s7 S m u
  have hl:=gH S m u
  obtain⟨Y,hY⟩ :∃Y,nowY S m u=Y:=⟨_,rfl⟩
  rw[hY]at e hl ⊢
  unfold nowSt at e
  have huY:u<Y.length:=by omega
  have hum:u<m.length:=by omega
  have hyd:Y.getD u qX=Y[u]:=by simp[List.getD_eq_getElem?_getD,huY]
  have hmd:m.getD u qM=m[u]:=by simp[List.getD_eq_getElem?_getD,hum]
  rw[hyd,hmd]at e
  rw[e]at ih
  refine Run.draw (hc w L0 none nofun) 14 ?_
  rw[show qD 0 14=qD 0 9++(qD 9 2++(qD 11 1++qD 12 2))from rfl]
  simp only[qN]
  conv=>whnf
  refine⟨by omega,?_⟩
  conv=>whnf
  rw[qP (f:=Mrk.vals) (l:=m) u 0 rfl rfl rfl rfl Mrk.vlen (by rw[qE]) hum (by decide) rfl]
  conv=>whnf
  refine⟨by omega,?_⟩
  conv=>whnf
  rw[yY (f:=Syn.cells) (l:=Y) u 2 { Y[u]with w:=m[u].w } rfl rfl rfl rfl rfl (fun _=>rfl) (by rw[qE]) huY (by decide) rfl rfl rfl]
  conv=>whnf
  refine⟨by kernel_rfl,?_⟩
  refine Run.W2 hc ?_
  conv=>whnf
  exact Run.tH (ih trivial) ⟨⟨rfl,ltb rfl⟩,⟨rfl,ltb rfl⟩,⟨rfl,ltb rfl⟩,⟨wsx (by omega),trivial⟩,trivial⟩ (by repeat first|exact trivial|refine⟨⟨rfl,by omega,Os.h _⟩,?_⟩|refine⟨⟨rfl,by omega,qC _ rfl⟩,?_⟩|refine⟨⟨rfl,by omega,pnx hcov rfl⟩,?_⟩) (lbx hLB rfl)
 ·intro _
  refine Run.W2 hc ?_
  conv=>whnf
  rw[decide_eq_false (show ¬((S.length:Nat):Int)<(S.length:Int)by omega),show nowY S m S.length=jM S m by unfold jM;rw[hm]]
  conv=>whnf
  refine SpecR.pR (rq [(41,45),(45,41)]) (fun i hi=>zC (qZ (B:=41) rfl hi)) ?_ (Widens.refl _ _) hLB (by decide) hcov rfl rfl ⟨(show 1<42 by decide),trivial,ltb rfl,trivial⟩ ⟨⟨congrArg some (ofx (o:=.row _ _ (List.flatMap Syn.cells _) _) (yC _ _)).symm,by omega,Os.h _⟩,⟨rfl,by omega,qC _ rfl⟩,trivial⟩
  intro i hi j hj hne
  have inj :∀i,i<42 → ∀j,j<42→i≠j→rq [(41,45),(45,41)] i≠rq [(41,45),(45,41)] j:=by decide
  exact inj i hi j hj hne
def mkRes (pl:List Int)(m:List Mrk)(i:Int):Mrk×Int:=
 if wi i 0 (IntKind.i64.wrap ((m.length:Int)-1))=false then(qM,3)else if pl.getD i.toNat (-1)<0 then(qM,4)else(m.getD i.toNat qM,0)
theorem rMark_spec (tk inp i:Int)(pl:List Int)(m:List Mrk)(hm:m.length=pl.length)(hl:m.length≤8192) :
  BSpec Try.prog 73 [.ptr 0 0,ii i] [(0,.cells (zS (ii tk) inp) 108),(5,.rwin 1 pl.length (qB pl)),(6,.rwin 4 m.length (m.flatMap Mrk.vals))] 41 [0] (.tup [(mkRes pl m i).1.sv,ii (mkRes pl m i).2]) [(0,.cells (zS (ii tk) inp) 108)] 41:=by
 have hsc:SV.scs (· < 41) (zS (ii tk) inp):=by simp[zS,SV.scs,SV.sc]
 have hpf:PF.oks Try.prog [(47,F3 fun n lo hi=>.bool (wi n lo hi))]:=⟨uE,trivial⟩
 have hc :∀w L' rd,(∀p,rd=some p→p∈L')→Cx.ok ⟨Try.prog,tab,[(47,F3 fun n lo hi=>.bool (wi n lo hi))],73,Try.f73,[],w,L',rd⟩:=fun w L' rd h=>⟨qI,hpf,Try.func73,mixed,h⟩
 unfold mkRes
 refine BSpec.start (tab:=tab) (pf:=[(47,F3 fun n lo hi=>.bool (wi n lo hi))]) (cuts:=[]) Try.func73 rfl ⟨(show 0<41 by decide),trivial,trivial⟩ rfl fun w L0 plp hL hLB hcov=>Run.r8 (hc w L0 none nofun) 100 _ ?_
 conv=>whnf
 cases h0:wi i 0 (IntKind.i64.wrap ((m.length:Int)-1))
 case false=>
  rw[if_pos rfl]
  conv=>whnf
  exact SpecR.intro 41 (by decide) hLB (by decide) hcov rfl rfl (by simp[Mrk.sv,Mrk.cells,SV.sc,SV.scs]) ⟨⟨rfl,by omega,hsc⟩,trivial⟩
 rw[if_neg (by decide)]
 have h1:=wi_iff.1 h0
 rw[show IntKind.i64.wrap ((m.length:Int)-1)=(m.length:Int)-1 from zL (by omega) (by omega)]at h1
 obtain⟨k,rfl⟩:=Int.eq_ofNat_of_zero_le h1.1
 have hk:k<m.length:=by omega
 have hkp:k<pl.length:=by omega
 have hpd:pl.getD k (-1)=pl[k]:=by simp[List.getD_eq_getElem?_getD,hkp]
 have hmd:m.getD k qM=m[k]:=by simp[List.getD_eq_getElem?_getD,hk]
 rw[show((k:Nat):Int).toNat=k from Int.toNat_natCast k,hpd,hmd]
 conv=>whnf
 refine⟨by omega,?_⟩
 conv=>whnf
 rw[qY k rfl rfl rfl rfl (by rw[qE,Nat.mul_one]) (zA hkp)]
 conv=>whnf
 cases h2:decide (pl[k]<0)
 case true=>
  rw[if_pos (of_decide_eq_true h2)]
  conv=>whnf
  exact SpecR.intro 41 (by decide) hLB (by decide) hcov rfl rfl (by simp[Mrk.sv,Mrk.cells,SV.sc,SV.scs]) ⟨⟨rfl,by omega,hsc⟩,trivial⟩
 rw[if_neg (of_decide_eq_false h2)]
 conv=>whnf
 refine⟨by omega,?_⟩
 conv=>whnf
 rw[zZ (f:=Mrk.vals) (l:=m) k rfl rfl rfl rfl rfl Mrk.vlen (by rw[qE]) hk]
 conv=>whnf
 exact SpecR.intro 41 (by decide) hLB (by decide) hcov rfl rfl (by simp[Mrk.sv,Mrk.cells,SV.sc,SV.scs]) ⟨⟨rfl,by omega,hsc⟩,trivial⟩
theorem Mark_spec (tk inp i:Int)(rg:Nat→SV)(N:Nat)(sv:List Value)(pl:List Int)(m:List Mrk)(hsc:SV.scs (· < 24) (qH (ii tk) inp rg (.mp 7)))(hN:1≤N)(hm:m.length=pl.length)(hl:m.length≤8192) :
  BSpec Try.prog 36 [.ptr 0 0,ii i] [(0,.cells (qH (ii tk) inp rg (.mp 7)) 96),(3,.rwin 2 N sv),(5,.rwin 1 pl.length (qB pl)),(6,.rwin 4 m.length (m.flatMap Mrk.vals))] 24 [0] (.tup [(mkRes pl m i).1.sv,ii (mkRes pl m i).2]) [(0,.cells (qH (ii tk) inp rg (.mp 7)) 96)] 24:=by
 have hpf:PF.oks Try.prog [(67,FIs),(44,F3 fun n lo hi=>.bool (wi n lo hi))]:=⟨is_pure,kF,trivial⟩
 have hc :∀w L' rd,(∀p,rd=some p→p∈L')→Cx.ok ⟨Try.prog,tab,[(67,FIs),(44,F3 fun n lo hi=>.bool (wi n lo hi))],36,Try.f36,[],w,L',rd⟩:=fun w L' rd h=>⟨qI,hpf,Try.func36,mixed,h⟩
 have fin:(SObj.cells (qH (ii tk) inp rg (.mp 7)) 96).ren (sh 24 24) = .cells (qH (ii tk) inp rg (.mp 7)) 96:=by
  simp only[SObj.ren]
  rw[zU (fun i hi=>kI i hi) _ hsc]
 unfold mkRes
 refine BSpec.start (tab:=tab) (pf:=[(67,FIs),(44,F3 fun n lo hi=>.bool (wi n lo hi))]) (cuts:=[]) Try.func36 rfl ⟨(show 0<24 by decide),trivial,trivial⟩ rfl fun w L0 plp hL hLB hcov=>Run.r8 (hc w L0 none nofun) 100 _ ?_
 conv=>whnf
 rw[decide_eq_true (show(0:Int)<(N:Int)by omega)]
 conv=>whnf
 cases h0:wi i 0 (IntKind.i64.wrap ((m.length:Int)-1))
 case false=>
  rw[if_pos rfl]
  conv=>whnf
  exact SpecR.intro 24 (by decide) hLB (by decide) hcov rfl rfl (by simp[Mrk.sv,Mrk.cells,SV.sc,SV.scs]) ⟨⟨by rw[fin];rfl,by omega,hsc⟩,trivial⟩
 rw[if_neg (by decide)]
 have h1:=wi_iff.1 h0
 rw[show IntKind.i64.wrap ((m.length:Int)-1)=(m.length:Int)-1 from zL (by omega) (by omega)]at h1
 obtain⟨k,rfl⟩:=Int.eq_ofNat_of_zero_le h1.1
 have hk:k<m.length:=by omega
 have hkp:k<pl.length:=by omega
 have hpd:pl.getD k (-1)=pl[k]:=by simp[List.getD_eq_getElem?_getD,hkp]
 have hmd:m.getD k qM=m[k]:=by simp[List.getD_eq_getElem?_getD,hk]
 rw[show((k:Nat):Int).toNat=k from Int.toNat_natCast k,hpd,hmd]
 conv=>whnf
 refine⟨by omega,?_⟩
 conv=>whnf
 rw[qY k rfl rfl rfl rfl (by rw[qE,Nat.mul_one]) (zA hkp)]
 conv=>whnf
 cases h2:decide (pl[k]<0)
 case true=>
  rw[if_pos (of_decide_eq_true h2)]
  conv=>whnf
  exact SpecR.intro 24 (by decide) hLB (by decide) hcov rfl rfl (by simp[Mrk.sv,Mrk.cells,SV.sc,SV.scs]) ⟨⟨by rw[fin];rfl,by omega,hsc⟩,trivial⟩
 rw[if_neg (of_decide_eq_false h2)]
 conv=>whnf
 refine⟨by omega,?_⟩
 conv=>whnf
 rw[zZ (f:=Mrk.vals) (l:=m) k rfl rfl rfl rfl rfl Mrk.vlen (by rw[qE]) hk]
 conv=>whnf
 exact SpecR.intro 24 (by decide) hLB (by decide) hcov rfl rfl (by simp[Mrk.sv,Mrk.cells,SV.sc,SV.scs]) ⟨⟨by rw[fin];rfl,by omega,hsc⟩,trivial⟩
abbrev smM (tk inp:Int)(N:List Prm)(S:List Syn)(st:List Ste)(pl:List Int)(m:List Mrk):List (Nat×SObj):=[(0,.cells (qH (ii tk) inp (fun k=>.mp (8+k)) (.mp 7)) 96),(1,.rwin 8 N.length (N.flatMap Prm.vals)),(2,.rwin 4 S.length (S.flatMap Syn.vals)),(3,.rwin 2 N.length (st.flatMap fun s=>[.int .i64 s.v,.int .i64 s.rest])),(5,.rwin 1 pl.length (qB pl)),(6,.rwin 4 S.length (m.flatMap Mrk.vals)),(24,.cells [.opq 25,ii inp,.opq 26,.opq 28,.opq 29,.opq 30,.opq 31,ii tk,.opq 27,.opq 32] 108),(25,.rwin 8 N.length (N.flatMap Prm.vals)),(26,.rwin 4 S.length (S.flatMap Syn.vals)),(29,.rwin 1 pl.length (qB pl)),(30,.rwin 4 S.length (m.flatMap Mrk.vals))]
theorem smM_in (tk inp:Int)(N:List Prm)(S:List Syn)(st:List Ste)(pl:List Int)(m:List Mrk){n:Nat}(hn:65≤n):In n (smM tk inp N S st pl m):=
 ⟨⟨by omega,by simp[qH,SObj.sc,SV.scs,SV.sc];omega⟩,⟨by omega,Os.h _⟩,⟨by omega,Os.h _⟩,⟨by omega,Os.h _⟩,⟨by omega,Os.h _⟩,⟨by omega,Os.h _⟩,⟨by omega,by simp[SObj.sc,SV.scs,SV.sc];omega⟩,⟨by omega,Os.h _⟩,⟨by omega,Os.h _⟩,⟨by omega,Os.h _⟩,⟨by omega,Os.h _⟩,trivial⟩
theorem sameMarks_spec (tk inp:Int)(N:List Prm)(S:List Syn)(st:List Ste)(pl:List Int)(m:List Mrk)(hp:pl.length=S.length)(hm:m.length=S.length)(hS:S.length≤8192)(hN:N.length≤1024)(hN1:1≤N.length) :
  BSpec Try.prog 40 [.ptr 0 0,.ptr 24 0] (smM tk inp N S st pl m) 65 [0,24] (.v (.bool true)) [(0,.cells (qH (ii tk) inp (fun k=>.mp (8+k)) (.mp 7)) 96),(24,.cells [.opq 25,ii inp,.opq 26,.opq 28,.opq 29,.opq 30,.opq 31,ii tk,.opq 27,.opq 32] 108)] 65:=by
 have hc :∀w L' rd,(∀p,rd=some p→p∈L')→Cx.ok ⟨Try.prog,tab,[],40,Try.f40,[],w,L',rd⟩:=fun w L' rd h=>⟨qI,trivial,Try.func40,mixed,h⟩
 have hnl:(jM S m).length=S.length:=gH S m _
 refine BSpec.start (tab:=tab) (pf:=[]) (cuts:=[]) Try.func40 rfl ⟨(show 0<65 by decide),ltb rfl,trivial⟩ rfl fun w L0 plp hL hLB hcov=>Run.r8 (hc w L0 none nofun) 100 _ ?_
 have hpin :∀n,66≤n→SObj.sc (· < n) (.pin plp):=fun n hn p hp=>Nat.lt_of_lt_of_le (hcov.1 p hp) (by omega)
 generalize hRR:SpecR _ _ _ _ _ _=RR
 conv=>whnf
 have hnet:=Net_spec (ii tk) inp (fun k=>.mp (8+k)) N S st m (by simp[qH,SV.scs,SV.sc]) hm hS hN hN1
 unfold nowM at hnet
 rw[hm]at hnet
 refine Run.pI hnet (ent _ _ Try.func28 (by kernel_rfl) rfl) rfl rfl rfl rfl rfl rfl rfl [.ptr 0 0] rfl id rfl (fun q hq=>by show q<66;omega) _ rfl (fun q _ j _ hne=>hne) rfl
  ⟨⟨by omega,qC _ rfl⟩,⟨by omega,Os.h _⟩,⟨by omega,Os.h _⟩,⟨by omega,Os.h _⟩,⟨by omega,Os.h _⟩,trivial⟩ rfl (by repeat first|exact trivial|refine⟨⟨_,rfl,Conv.refl _⟩,?_⟩) (fun q hq=>by simp at hq;subst hq;simp)
  (.tup [.agg [.opq 66,ii inp,.opq 67],ii 0]) [(66,.row 8 N.length ((N.flatMap Prm.vals).map .v) 60),(67,.row 4 S.length ((jM S m).flatMap Syn.cells) 55),(0,.cells (qH (ii tk) inp (fun k=>.mp (8+k)) (.mp 7)) 96)] [(65,.pin plp),(1,.rwin 8 N.length (N.flatMap Prm.vals)),(2,.rwin 4 S.length (S.flatMap Syn.vals)),(3,.rwin 2 N.length (st.flatMap fun s=>[.int .i64 s.v,.int .i64 s.rest])),(5,.rwin 1 pl.length (qB pl)),(6,.rwin 4 S.length (m.flatMap Mrk.vals)),(24,.cells [.opq 25,ii inp,.opq 26,.opq 28,.opq 29,.opq 30,.opq 31,ii tk,.opq 27,.opq 32] 108),(25,.rwin 8 N.length (N.flatMap Prm.vals)),(26,.rwin 4 S.length (S.flatMap Syn.vals)),(29,.rwin 1 pl.length (qB pl)),(30,.rwin 4 S.length (m.flatMap Mrk.vals))] 68 rfl rfl
  ⟨⟨24,_,rfl,rfl,(ofx (o:=.row 8 N.length ((N.flatMap Prm.vals).map .v) 60) (qR _ _)).symm,rfl⟩,⟨25,_,rfl,rfl,(ofx (o:=.row 4 S.length ((jM S m).flatMap Syn.cells) 55) (yC _ _)).symm,rfl⟩,⟨0,_,rfl,rfl,rfl,rfl⟩,trivial⟩ rfl rfl ?_
 refine Run.W2 hc ?_
 conv=>whnf
 refine Run.pI (rNet_spec tk inp S m hS hm) (ent _ _ Try.func57 (by kernel_rfl) rfl) rfl rfl rfl rfl rfl rfl rfl [.ptr 24 0] rfl (24+·) rfl (fun q hq=>by show 24+q<69;omega) _ rfl (fun q _ j _ hne=>by intro h;exact hne (Nat.add_left_cancel h)) rfl
  ⟨⟨by omega,qC _ rfl⟩,⟨by omega,Os.h _⟩,⟨by omega,Os.h _⟩,trivial⟩ rfl (by repeat first|exact trivial|refine⟨⟨_,rfl,Conv.refl _⟩,?_⟩) (fun q hq=>by simp at hq;subst hq;simp)
  (.agg [.opq 25,ii inp,.opq 69]) [(69,.row 4 S.length ((jM S m).flatMap Syn.cells) 55),(24,.cells [.opq 25,ii inp,.opq 26,.opq 28,.opq 29,.opq 30,.opq 31,ii tk,.opq 27,.opq 32] 108)] [(68,.cells [.opq 66,ii inp,.opq 67] 25),(66,.row 8 N.length ((N.flatMap Prm.vals).map .v) 60),(67,.row 4 S.length ((jM S m).flatMap Syn.cells) 55),(65,.pin plp),(0,.cells (qH (ii tk) inp (fun k=>.mp (8+k)) (.mp 7)) 96),(1,.rwin 8 N.length (N.flatMap Prm.vals)),(2,.rwin 4 S.length (S.flatMap Syn.vals)),(3,.rwin 2 N.length (st.flatMap fun s=>[.int .i64 s.v,.int .i64 s.rest])),(5,.rwin 1 pl.length (qB pl)),(6,.rwin 4 S.length (m.flatMap Mrk.vals)),(25,.rwin 8 N.length (N.flatMap Prm.vals)),(26,.rwin 4 S.length (S.flatMap Syn.vals)),(29,.rwin 1 pl.length (qB pl)),(30,.rwin 4 S.length (m.flatMap Mrk.vals))] 70 rfl rfl
  ⟨⟨41,_,rfl,rfl,(ofx (o:=.row 4 S.length ((jM S m).flatMap Syn.cells) 55) (yC _ _)).symm,rfl⟩,⟨0,_,rfl,rfl,rfl,rfl⟩,trivial⟩ rfl rfl ?_
 refine Run.W2 hc ?_
 conv=>whnf
 rw[show((S.length:Int) != (S.length:Int))=false by simp]
 conv=>whnf
 rw[show(inp != inp)=false by simp]
 conv=>whnf
 rw[show((N.length:Int) != (N.length:Int))=false by simp]
 conv=>whnf
 have hIn:In 71 ([(68,.cells [.opq 66,ii inp,.opq 67] 25),(70,.cells [.opq 25,ii inp,.opq 69] 25),(66,.row 8 N.length ((N.flatMap Prm.vals).map .v) 60),(67,.row 4 S.length ((jM S m).flatMap Syn.cells) 55),(69,.row 4 S.length ((jM S m).flatMap Syn.cells) 55),(65,.pin plp)]++smM tk inp N S st pl m):=⟨⟨by omega,qC _ rfl⟩,⟨by omega,qC _ rfl⟩,⟨by omega,Os.h _⟩,⟨by omega,Os.h _⟩,⟨by omega,Os.h _⟩,⟨by omega,hpin 71 (by omega)⟩,smM_in tk inp N S st pl m (by omega)⟩
 have hL71 :∀p∈L0,p.1<71:=fun p hp=>by have:=hLB p hp;omega
 refine Run.pT (T:=fun i=>[(0,.ptr 0 0),(1,.ptr 24 0),(4,.v (.bool false)),(5,.ptr 68 0),(7,.ptr 70 0),(8,ii ((i:Nat):Int))]) (M:=fun _=>([(68,.cells [.opq 66,ii inp,.opq 67] 25),(70,.cells [.opq 25,ii inp,.opq 69] 25),(66,.row 8 N.length ((N.flatMap Prm.vals).map .v) 60),(67,.row 4 S.length ((jM S m).flatMap Syn.cells) 55),(69,.row 4 S.length ((jM S m).flatMap Syn.cells) 55),(65,.pin plp)]++smM tk inp N S st pl m)) 71 (fun _=>True) N.length rfl rfl rfl hIn hL71 trivial ?_ ?_
 ·intro i hi _ ih
  refine Run.W2 hc ?_
  conv=>whnf
  rw[decide_eq_true (show((i:Nat):Int)<(N.length:Int)by omega)]
  conv=>whnf
  have hsu:IntKind.i64.wrap (((i:Nat):Int)+1)=((i+1:Nat):Int):=zH (by omega)
  refine Run.draw (hc w L0 none nofun) 11 ?_
  rw[show qD 0 11=qD 0 4++(qD 4 1++(qD 5 4++(qD 9 1++qD 10 1)))from rfl]
  simp only[qN]
  conv=>whnf
  refine⟨by omega,?_⟩
  conv=>whnf
  rw[vD (f:=fun p:Prm=>p.vals.map SV.v) (l:=N) (m:=N.length) (te:=60) i rfl rfl (by rw[show N.flatMap (fun p:Prm=>p.vals.map SV.v)=(N.flatMap Prm.vals).map SV.v from List.map_flatMap.symm];rfl) rfl rfl (fun p=>rfl) (by rw[qE]) hi]
  conv=>whnf
  refine⟨by omega,?_⟩
  conv=>whnf
  rw[zZ (f:=Prm.vals) (l:=N) i rfl rfl rfl rfl rfl Prm.vlen (by rw[qE]) hi]
  conv=>whnf
  refine⟨by kernel_rfl,?_⟩
  refine Run.W2 hc ?_
  obtain⟨p,hp'⟩ :∃p,N[i]=p:=⟨_,rfl⟩
  rw[hp']
  obtain⟨p1,p2,p3,p4,p5,p6,p7,p8⟩:=p
  conv=>whnf
  rw[show(!(p1==p1&&(p2==p2&&(p3==p3&&(p4==p4&&(p5==p5&&(p6==p6&&(p7==p7&&(p8==p8&&true)))))))))=false by simp]
  conv=>whnf
  exact Run.pN (ih trivial) (by rw[hsu];rfl) rfl rfl hIn hL71
 ·intro _
  refine Run.W2 hc ?_
  conv=>whnf
  rw[decide_eq_false (show ¬((N.length:Nat):Int)<(N.length:Int)by omega)]
  conv=>whnf
  refine Run.pT (T:=fun u=>[(0,.ptr 0 0),(1,.ptr 24 0),(4,.v (.bool false)),(5,.ptr 68 0),(7,.ptr 70 0),(9,ii (((u:Nat):Int)-1))]) (M:=fun _=>([(68,.cells [.opq 66,ii inp,.opq 67] 25),(70,.cells [.opq 25,ii inp,.opq 69] 25),(66,.row 8 N.length ((N.flatMap Prm.vals).map .v) 60),(67,.row 4 S.length ((jM S m).flatMap Syn.cells) 55),(69,.row 4 S.length ((jM S m).flatMap Syn.cells) 55),(65,.pin plp)]++smM tk inp N S st pl m)) 71 (fun _=>True) (S.length+2) rfl rfl rfl hIn hL71 trivial ?_ ?_
  ·intro u hu _ ih
   refine Run.W2 hc ?_
   conv=>whnf
   rw[decide_eq_true (show((u:Nat):Int)-1≤(S.length:Int)by omega)]
   conv=>whnf
   have hsu:IntKind.i64.wrap (((u:Nat):Int)-1+1)=((u+1:Nat):Int)-1:=by rw[show((u:Nat):Int)-1+1=((u+1:Nat):Int)-1 by omega];exact zL (by omega) (by omega)
   obtain⟨x,hx⟩ :∃x,((u:Nat):Int)-1=x:=⟨_,rfl⟩
   have hx0 : -1≤x:=by omega
   have hx1:x≤(S.length:Int):=by omega
   rw[hx]at hsu ⊢
   have hmk:=Mark_spec tk inp x (fun k=>.mp (8+k)) N.length (st.flatMap fun s=>[.int .i64 s.v,.int .i64 s.rest]) pl m (by simp[qH,SV.scs,SV.sc]) hN1 (hm.trans hp.symm) (by omega)
   have hmr:=rMark_spec tk inp x pl m (hm.trans hp.symm) (by omega)
   rw[hm]at hmk hmr
   obtain⟨⟨mk,er⟩,hmr2⟩ :∃r,mkRes pl m x=r:=⟨_,rfl⟩
   rw[hmr2]at hmk hmr
   refine Run.pI hmk (ent _ _ Try.func36 (by kernel_rfl) rfl) rfl rfl rfl rfl rfl rfl rfl [.ptr 0 0,ii x] rfl id rfl (fun q hq=>by show q<71;omega) _ rfl (fun q _ j _ hne=>hne) rfl
    ⟨⟨by omega,qC _ rfl⟩,⟨by omega,Os.h _⟩,⟨by omega,Os.h _⟩,⟨by omega,Os.h _⟩,trivial⟩ rfl (by repeat first|exact trivial|refine⟨⟨_,rfl,Conv.refl _⟩,?_⟩) (fun q hq=>by simp at hq;subst hq;simp)
    (.tup [mk.sv,ii er]) [(0,.cells (qH (ii tk) inp (fun k=>.mp (8+k)) (.mp 7)) 96)] [(68,.cells [.opq 66,ii inp,.opq 67] 25),(70,.cells [.opq 25,ii inp,.opq 69] 25),(66,.row 8 N.length ((N.flatMap Prm.vals).map .v) 60),(67,.row 4 S.length ((jM S m).flatMap Syn.cells) 55),(69,.row 4 S.length ((jM S m).flatMap Syn.cells) 55),(65,.pin plp),(1,.rwin 8 N.length (N.flatMap Prm.vals)),(2,.rwin 4 S.length (S.flatMap Syn.vals)),(3,.rwin 2 N.length (st.flatMap fun s=>[.int .i64 s.v,.int .i64 s.rest])),(5,.rwin 1 pl.length (qB pl)),(6,.rwin 4 S.length (m.flatMap Mrk.vals)),(24,.cells [.opq 25,ii inp,.opq 26,.opq 28,.opq 29,.opq 30,.opq 31,ii tk,.opq 27,.opq 32] 108),(25,.rwin 8 N.length (N.flatMap Prm.vals)),(26,.rwin 4 S.length (S.flatMap Syn.vals)),(29,.rwin 1 pl.length (qB pl)),(30,.rwin 4 S.length (m.flatMap Mrk.vals))] 71 rfl rfl ⟨⟨0,_,rfl,rfl,rfl,rfl⟩,trivial⟩ rfl rfl ?_
   refine Run.W2 hc ?_
   conv=>whnf
   refine Run.pI hmr (ent _ _ Try.func73 (by kernel_rfl) rfl) rfl rfl rfl rfl rfl rfl rfl [.ptr 24 0,ii x] rfl (24+·) rfl (fun q hq=>by show 24+q<72;omega) _ rfl (fun q _ j _ hne=>by intro h;exact hne (Nat.add_left_cancel h)) rfl
    ⟨⟨by omega,qC _ rfl⟩,⟨by omega,Os.h _⟩,⟨by omega,Os.h _⟩,trivial⟩ rfl (by repeat first|exact trivial|refine⟨⟨_,rfl,Conv.refl _⟩,?_⟩) (fun q hq=>by simp at hq;subst hq;simp)
    (.tup [mk.sv,ii er]) [(24,.cells [.opq 25,ii inp,.opq 26,.opq 28,.opq 29,.opq 30,.opq 31,ii tk,.opq 27,.opq 32] 108)] ((71,.cells mk.cells 84)::[(68,.cells [.opq 66,ii inp,.opq 67] 25),(70,.cells [.opq 25,ii inp,.opq 69] 25),(66,.row 8 N.length ((N.flatMap Prm.vals).map .v) 60),(67,.row 4 S.length ((jM S m).flatMap Syn.cells) 55),(69,.row 4 S.length ((jM S m).flatMap Syn.cells) 55),(65,.pin plp),(0,.cells (qH (ii tk) inp (fun k=>.mp (8+k)) (.mp 7)) 96),(1,.rwin 8 N.length (N.flatMap Prm.vals)),(2,.rwin 4 S.length (S.flatMap Syn.vals)),(3,.rwin 2 N.length (st.flatMap fun s=>[.int .i64 s.v,.int .i64 s.rest])),(5,.rwin 1 pl.length (qB pl)),(6,.rwin 4 S.length (m.flatMap Mrk.vals)),(25,.rwin 8 N.length (N.flatMap Prm.vals)),(26,.rwin 4 S.length (S.flatMap Syn.vals)),(29,.rwin 1 pl.length (qB pl)),(30,.rwin 4 S.length (m.flatMap Mrk.vals))]) 72 rfl rfl ⟨⟨0,_,rfl,rfl,rfl,rfl⟩,trivial⟩ rfl rfl ?_
   refine Run.W2 hc ?_
   conv=>whnf
   obtain⟨m1,m2,m3,m4⟩:=mk
   refine Run.draw (hc w L0 none nofun) 32 ?_
   rw[show qD 0 32=qD 0 3++(qD 3 4++(qD 7 4++(qD 11 6++(qD 17 6++(qD 23 1++(qD 24 4++(qD 28 1++qD 29 3)))))))from rfl]
   simp only[qN]
   conv=>whnf
   rw[show(!(m1==m1&&(m2==m2&&(m3==m3&&(m4==m4&&true)))))=false by simp]
   conv=>whnf
   rw[show(er != er)=false by simp]
   conv=>whnf
   cases h0:decide (0≤x)
   case false=>
    conv=>whnf
    refine⟨by kernel_rfl,?_⟩
    refine Run.W2 hc ?_
    conv=>whnf
    exact Run.pN (ih trivial) (by rw[hsu];rfl) rfl rfl hIn hL71
   conv=>whnf
   cases h1:decide (x<(S.length:Int))
   case false=>
    conv=>whnf
    refine⟨by kernel_rfl,?_⟩
    refine Run.W2 hc ?_
    conv=>whnf
    exact Run.pN (ih trivial) (by rw[hsu];rfl) rfl rfl hIn hL71
   have h0':=of_decide_eq_true h0
   have h1':=of_decide_eq_true h1
   obtain⟨k,rfl⟩:=Int.eq_ofNat_of_zero_le h0'
   have hk:k<(jM S m).length:=by omega
   conv=>whnf
   refine⟨by omega,?_⟩
   conv=>whnf
   rw[vD (f:=Syn.cells) (l:=jM S m) k rfl rfl rfl rfl rfl Syn.clen (by rw[qE]) hk]
   conv=>whnf
   refine⟨by omega,?_⟩
   conv=>whnf
   rw[vD (f:=Syn.cells) (l:=jM S m) k rfl rfl rfl rfl rfl Syn.clen (by rw[qE]) hk]
   obtain⟨y,hy⟩ :∃y,(jM S m)[k]=y:=⟨_,rfl⟩
   rw[hy]
   obtain⟨y1,y2,y3,y4⟩:=y
   conv=>whnf
   rw[show(!(y1==y1&&(y2==y2&&(y3==y3&&(y4==y4&&true)))))=false by simp]
   conv=>whnf
   refine⟨by kernel_rfl,?_⟩
   refine Run.W2 hc ?_
   conv=>whnf
   exact Run.pN (ih trivial) (by rw[hsu];rfl) rfl rfl hIn hL71
  ·intro _
   refine Run.W2 hc ?_
   conv=>whnf
   rw[decide_eq_false (show ¬(((S.length+2:Nat):Nat):Int)-1≤(S.length:Int)by omega)]
   conv=>whnf
   rw[←hRR]
   exact SpecR.intro 65 (by decide) hLB (by decide) hcov rfl rfl trivial ⟨⟨rfl,by omega,qC _ rfl⟩,⟨rfl,by omega,qC _ rfl⟩,trivial⟩
set_option maxHeartbeats 4000000
theorem is_atO (b off:Nat)(x0 x1 x2 x3:Value)(p:Option Addr)(n cap:Nat)(w:World)(hb:b<w.heap.size)(h :∀j x,[x0,x1,x2,x3,Value.slice p n cap][j]? = some x→w.cell? ⟨b,off+j,none⟩=some x) :
  Calls Try.prog 67 #[.pointer (some ⟨b,off,none⟩)] w fun e w'=>e = .returned (.bool (decide (0<(n:Int))))∧Ext w w':=by
 have hc:Cx.ok ⟨Try.prog,tab,[],67,Try.f67,[],w,[],none⟩:=⟨qI,trivial,Try.func67,mixed,fun _ h=>by cases h⟩
 have hW:WI w [] (envM b off) (Sx.look [(0,.win [x0,x1,x2,x3,Value.slice p n cap])]) (· < 1) w:=WI.tell (fun y hy=>by
   obtain rfl:=List.mem_singleton.1 hy
   exact⟨(show 0<1 by decide),trivial,hb,(fun p hp=>by cases hp),h⟩) (fun x hx y hy hne=>by
   obtain rfl:=List.mem_singleton.1 hx
   obtain rfl:=List.mem_singleton.1 hy
   exact absurd rfl hne) (fun x hx ho=>by
   obtain rfl:=List.mem_singleton.1 hx
   exact ho.elim) (fun p hp=>by cases hp)
 have ha : #[Value.pointer (some ⟨b,off,none⟩)]=(SV.concs (envM b off) [.ptr 0 0]).toArray:=by simp[SV.concs,SV.conc,envM]
 rw[ha]
 refine Run.calls (tab:=tab) (pf:=[]) (cuts:=[]) Try.func67 rfl (envM b off) [.ptr 0 0] [(0,.win [x0,x1,x2,x3,Value.slice p n cap])] 1 ⟨ltb rfl,trivial⟩ rfl hW (Run.r8 hc 100 _ ?_)
 conv=>whnf
 exact⟨fun ρ w' hW _=>⟨rfl,hW.toExt⟩⟩
theorem now_at (b:Nat)(tk:Int)(x1 x2 x3:Value)(p:Option Addr)(n cap:Nat)(w:World)(hb:b<w.heap.size)(h :∀j x,[Value.int .i64 tk,x1,x2,x3,Value.slice p n cap][j]? = some x→w.cell? ⟨b,0+j,none⟩=some x) :
  Calls Try.prog 37 #[.pointer (some ⟨b,0,none⟩)] w fun e w'=>e = .returned (.int .i64 (if 0<(n:Int)then tk else 0))∧Ext w w':=by
 have hc:Cx.ok ⟨Try.prog,tab,[],37,Try.f37,[],w,[],none⟩:=⟨qI,trivial,Try.func37,mixed,fun _ h=>by cases h⟩
 have hW:WI w [] (envM b 0) (Sx.look [(0,.win [Value.int .i64 tk,x1,x2,x3,Value.slice p n cap])]) (· < 1) w:=WI.tell (fun y hy=>by
   obtain rfl:=List.mem_singleton.1 hy
   exact⟨(show 0<1 by decide),trivial,hb,(fun p hp=>by cases hp),h⟩) (fun x hx y hy hne=>by
   obtain rfl:=List.mem_singleton.1 hx
   obtain rfl:=List.mem_singleton.1 hy
   exact absurd rfl hne) (fun x hx ho=>by
   obtain rfl:=List.mem_singleton.1 hx
   exact ho.elim) (fun p hp=>by cases hp)
 refine Run.calls (tab:=tab) (pf:=[]) (cuts:=[]) Try.func37 rfl (envM b 0) [.ptr 0 0] [(0,.win [Value.int .i64 tk,x1,x2,x3,Value.slice p n cap])] 1 ⟨ltb rfl,trivial⟩ rfl hW (Run.r8 hc 100 _ ?_)
 conv=>whnf
 refine Run.pD (g:=67) (vs:=[.ptr 0 0]) (caps:=[]) (.v (.bool (decide (0<(n:Int))))) (fun ρ w1 hW1=>by
  obtain⟨_,_,h1,_,h3⟩:=hW1.mem 0 _ rfl
  have hx:=hW1.toExt
  have:=is_atO (ρ.s 0) (ρ.o 0) (.int .i64 tk) x1 x2 x3 p n cap w1 (Nat.lt_of_lt_of_le h1 hx.size) (fun j x hj=>by
   have h4:=h3 j x hj
   simp only[World.cell?]at h4 ⊢
   rw[hx.keep _ h1];exact h4)
  exact this) (ent _ _ Try.func67 (by kernel_rfl) rfl) rfl rfl rfl rfl rfl rfl rfl trivial ?_
 refine Run.r8 hc 100 _ ?_
 conv=>whnf
 cases hn:decide (0<(n:Int))
 ·conv=>whnf
  exact⟨fun ρ w' hW _=>⟨by rw[if_neg (of_decide_eq_false hn)];rfl,hW.toExt⟩⟩
 ·conv=>whnf
  exact⟨fun ρ w' hW _=>⟨by rw[if_pos (of_decide_eq_true hn)];rfl,hW.toExt⟩⟩
def FNow:Mem→List SV→Option (List Nat×SV):=fun M args=>match args with
 | [.ptr j 0]=>match M j with
  |some (.cells (.v (.int .i64 tk)::_::_::_ :: .opq q::_) _)=>match gL M q 2 with
   |some n=>some ([j,q],ii (if 0<(n:Int)then tk else 0))
   |none=>none
  |_=>none
 |_=>none
theorem now_pure:Pure Try.prog 37 FNow where
 ent:=ent _ _ Try.func37 (by kernel_rfl) rfl
 sc S M args bs v hv _:=by
  unfold FNow at hv
  split at hv
  ·split at hv
   ·split at hv
    ·obtain⟨rfl,rfl⟩:=Prod.mk.inj (Option.some.inj hv);trivial
    ·cases hv
   ·cases hv
  ·cases hv
 cong M M' args bs v hv hb:=by
  unfold FNow at hv ⊢
  split at hv
  ·rename_i j
   split at hv
   ·rename_i tk c1 c2 c3 q r te hM
    split at hv
    ·rename_i n hn
     obtain⟨rfl,rfl⟩:=Prod.mk.inj (Option.some.inj hv)
     simp only[hb j (by simp),hM,rA (hb q (by simp)),hn]
    ·cases hv
   ·cases hv
  ·cases hv
 run w0 L ρ M S args bs v w hW hv:=by
  unfold FNow at hv
  split at hv
  ·rename_i j
   split at hv
   ·rename_i tk c1 c2 c3 q r te hM
    split at hv
    ·rename_i n hn
     obtain⟨rfl,rfl⟩:=Prod.mk.inj (Option.some.inj hv)
     have hl:=rowLen_at hW hn
     obtain⟨_,_,ho,hh⟩:=hW.mem _ _ hM
     have:=now_at (ρ.s j) tk (c1.conc ρ) (c2.conc ρ) (c3.conc ρ) (ρ.h q).1 (ρ.h q).2.1 (ρ.h q).2.2 w (Array.getElem?_eq_some_iff.1 hh).1 (fun i x hx=>by
      unfold World.cell?
      rw[show(⟨ρ.s j,0+i,none⟩:Addr).block=ρ.s j from rfl,hh]
      have hi:i<5:=by have:=(List.getElem?_eq_some_iff.1 hx).1;simpa using this
      have:i=0∨i=1∨i=2∨i=3∨i=4:=by omega
      rcases this with rfl|rfl|rfl|rfl|rfl<;>simpa[SV.concs,SV.conc]using hx)
     rw[hl]at this
     show Calls _ _ #[.pointer (some ⟨ρ.s j,ρ.o j+0,none⟩)] _ _
     rw[ho]
     exact this
    ·cases hv
   ·cases hv
  ·cases hv
theorem rnew_bad (vN vS:Value)(n:Net)(vR:Value)(rs:List Rul)(vP:Value)(pl:List Int)(w:World)(h:zD n rs pl≠0)(hn:vK w vN vS n)(hr:RowsAt w vR 10 rs.length (rs.flatMap Rul.vals))(hpl:RowsAt w vP 1 pl.length (qB pl)) :
  Calls Try.prog 38 #[xL vN vS n,vR,vP] w fun e w'=>e = .returned (.tuple #[.pointer none,.int .i64 (zD n rs pl)])∧Ext w w':=by
 have hc :∀L,Cx.ok ⟨Try.prog,tab,[],38,Try.f38,[],w,L,none⟩:=fun L=>⟨qI,trivial,Try.func38,mixed,fun _ h=>by cases h⟩
 obtain⟨h1,h2⟩:=hn
 obtain⟨N,inp,S⟩:=n
 simp only at h1 h2
 have hrows:AllP (fun x:Value×Nat×Nat×List Value=>RowsAt w x.1 x.2.1 x.2.2.1 x.2.2.2) [(vN,8,N.length,N.flatMap Prm.vals),(vS,4,S.length,S.flatMap Syn.vals),(vR,10,rs.length,rs.flatMap Rul.vals),(vP,1,pl.length,qB pl)]:=⟨h1,h2,hr,hpl,trivial⟩
 refine Run.pH Try.func38 rfl _ hrows [.agg [.opq 0,ii inp,.opq 1],.opq 2,.opq 3] [xL vN vS ⟨N,inp,S⟩,vR,vP] [(0,.rwin 8 N.length (N.flatMap Prm.vals)),(1,.rwin 4 S.length (S.flatMap Syn.vals)),(2,.rwin 10 rs.length (rs.flatMap Rul.vals)),(3,.rwin 1 pl.length (qB pl))] 4 rfl rfl
  (by show [Value.agg [(SV.opq 0).conc _,.int .i64 inp,(SV.opq 1).conc _].toArray,(SV.opq 2).conc _,(SV.opq 3).conc _]=_;rw[qS hrows (k:=0) rfl,qS hrows (k:=1) rfl,qS hrows (k:=2) rfl,qS hrows (k:=3) rfl];rfl) (by simp[SV.scs,SV.sc]) rfl (Run.r8 (hc _) 1000 _ ?_)
 conv=>whnf
 obtain⟨ck,hck⟩ :∃ck,zD ⟨N,inp,S⟩ rs pl=ck:=⟨_,rfl⟩
 refine Run.pD (g:=16) (vs:=[.agg [.opq 0,ii inp,.opq 1],.opq 2,.opq 3]) (caps:=[]) (ii ck) (fun ρ w1 hW=>by
  have:=gW ((SV.opq 0).conc ρ) ((SV.opq 1).conc ρ) ⟨N,inp,S⟩ ((SV.opq 2).conc ρ) rs ((SV.opq 3).conc ρ) pl w1 ⟨hW.rowsAt rfl,hW.rowsAt rfl⟩ (hW.rowsAt rfl) (hW.rowsAt rfl)
  rw[hck]at this
  exact this) (ent _ _ Try.func16 (by kernel_rfl) rfl) rfl rfl rfl rfl rfl rfl rfl trivial ?_
 refine Run.W1 (hc _) ?_
 conv=>whnf
 rw[show(ck != 0)=true by rw[←hck];simpa using h]
 conv=>whnf
 exact⟨fun ρ w' hW _=>⟨by rw[hck];rfl,hW.toExt⟩⟩
set_option maxHeartbeats 8000000
theorem Rul.clen (r:Rul):r.cells.length=10:=rfl
theorem rwOf_nil (R:Nat):j9 R []=List.replicate R 0:=rfl
section
variable {tab:Tab} {pf:PF} {T:Tm} {M:Mem} {n:Nat} {t:TypeId} {x y:Operand} {ti:TI} {j e m:Nat} {o:SObj} {vs:List Value}
end
end Go.Proofs.Ytnnlpdgnlccbjaa
namespace Go.Proofs.Ytnnlpdgnlccbjaa
open Go.Sx
set_option maxRecDepth 100000
set_option maxHeartbeats 16000000
theorem equal_run (vA vB:Value)(a b:List Int)(w:World)(hA:RowsAt w vA 1 a.length (qB a))(hB:RowsAt w vB 1 b.length (qB b))(hl:a.length≤1000000) :
  Calls Try.prog 31 #[vA,vB] w fun e w'=>e = .returned (.bool (decide (a=b)))∧Ext w w':=by
 have hc :∀L,Cx.ok ⟨Try.prog,tab,[],31,Try.f31,[],w,L,none⟩:=fun L=>⟨qI,trivial,Try.func31,mixed,fun _ h=>by cases h⟩
 have hrows:AllP (fun x:Value×Nat×Nat×List Value=>RowsAt w x.1 x.2.1 x.2.2.1 x.2.2.2) [(vA,1,a.length,qB a),(vB,1,b.length,qB b)]:=⟨hA,hB,trivial⟩
 refine Run.pH Try.func31 rfl _ hrows [.opq 0,.opq 1] [vA,vB] [(0,.rwin 1 a.length (qB a)),(1,.rwin 1 b.length (qB b))] 2 rfl rfl
  (by show [(SV.opq 0).conc _,(SV.opq 1).conc _]=_;rw[qS hrows (k:=0) rfl,qS hrows (k:=1) rfl]) (by simp[SV.scs,SV.sc]) rfl (Run.r8 (hc _) 1000 _ ?_)
 conv=>whnf
 cases e1:((a.length:Int) != (b.length:Int))
 case true=>
  conv=>whnf
  have e1':a≠b:=fun h=>by rw[h]at e1;simp at e1
  exact⟨fun ρ w' hW _=>⟨by rw[decide_eq_false e1'];rfl,hW.toExt⟩⟩
 have hl2:(a.length:Int)=(b.length:Int):=by simpa using e1
 have hlen:a.length=b.length:=by omega
 conv=>whnf
 refine Run.r9 (T':=[(0,.opq 0),(1,.opq 1),(5,ii ((0:Nat):Int))]) (M':=[(0,.rwin 1 a.length (qB a)),(1,.rwin 1 b.length (qB b))]) 2 ⟨⟨rfl,ltb rfl⟩,⟨rfl,ltb rfl⟩,⟨rfl,trivial⟩,trivial⟩ ⟨⟨rfl,by omega,Os.h _⟩,⟨rfl,by omega,Os.h _⟩,trivial⟩ (fun q hq=>by cases hq) ?_
 refine Run.pE (T:=fun i=>[(0,.opq 0),(1,.opq 1),(5,ii (i:Int))]) (M:=fun _=>[(0,.rwin 1 a.length (qB a)),(1,.rwin 1 b.length (qB b))]) (fun i=> ∀j (h:j<a.length) (h':j<b.length),j<i→a[j]=b[j]) a.length (fun j h h' hj=>absurd hj (by omega)) ?_ ?_
 ·intro i hi hJ ih
  have hi2:i<b.length:=by omega
  refine Run.W1 (hc _) ?_
  conv=>whnf
  rw[decide_eq_true (show(i:Int)<(a.length:Int)by omega)]
  conv=>whnf
  refine Run.draw (hc _) 9 ?_
  rw[show qD 0 9=qD 0 3++(qD 3 1++(qD 4 3++(qD 7 1++qD 8 1)))from rfl]
  simp only[qN]
  conv=>whnf
  refine⟨by omega,?_⟩
  conv=>whnf
  rw[qY i rfl rfl rfl rfl (by rw[qE,Nat.mul_one]) (zA hi)]
  conv=>whnf
  refine⟨by omega,?_⟩
  conv=>whnf
  rw[qY i rfl rfl rfl rfl (by rw[qE,Nat.mul_one]) (zA hi2)]
  conv=>whnf
  refine⟨by kernel_rfl,?_⟩
  refine Run.W1 (hc _) ?_
  conv=>whnf
  cases e2:(a[i] != b[i])
  case true=>
   conv=>whnf
   have hne:a≠b:=fun h=>by subst h;simp at e2
   exact⟨fun ρ w' hW _=>⟨by rw[decide_eq_false hne];rfl,hW.toExt⟩⟩
  have heq:a[i]=b[i]:=by simpa using e2
  conv=>whnf
  exact Run.r9 (T':=[(0,.opq 0),(1,.opq 1),(5,ii ((i+1:Nat):Int))]) (M':=[(0,.rwin 1 a.length (qB a)),(1,.rwin 1 b.length (qB b))]) 2 ⟨⟨rfl,ltb rfl⟩,⟨rfl,ltb rfl⟩,⟨wsx (by omega),trivial⟩,trivial⟩ ⟨⟨rfl,by omega,Os.h _⟩,⟨rfl,by omega,Os.h _⟩,trivial⟩ (fun q hq=>by cases hq) (ih (fun j h h' hj=>by
   by_cases e:j=i
   ·subst e;exact heq
   ·exact hJ j h h' (by omega)))
 ·intro hJ
  refine Run.W1 (hc _) ?_
  conv=>whnf
  rw[decide_eq_false (show ¬((a.length:Nat):Int)<(a.length:Int)by omega)]
  conv=>whnf
  have hab:a=b:=List.ext_getElem hlen fun j h h'=>hJ j h h' (by omega)
  exact⟨fun ρ w' hW _=>⟨by rw[decide_eq_true hab];rfl,hW.toExt⟩⟩
end Go.Proofs.Ytnnlpdgnlccbjaa
