/-
  Laws of the executor, and walks of functions (part 10). The conditions stand with each law.
-/
import Derived.Test.YtnnlpdgnlccbjaaMLi
namespace Go.Proofs.Ytnnlpdgnlccbjaa
open Go.Sx
set_option maxRecDepth 100000
set_option maxHeartbeats 4000000
def fromM (ins:List Int):List (Nat×SObj):=[(0,.kwin false []),(1,.rwin 1 ins.length (qD ins)),(2,.cells [.mp 0] 165),(3,.cells [.v (.slice none 0 0)] 27),(4,.cells [.opq 1] 27)]
def FromI (ρ0:Env)(ins:List Int)(w:World):Prop:= ∃ ρ L,WI w L ρ (Sx.look (fromM ins)) (· < 5) w∧(∀p∈L,p.1=2∨p.1=3∨p.1=4)∧Env.agree (· < 5) ρ0 ρ
theorem from_iter (ρ0:Env)(ins:List Int)(hlen:ins.length<4611686018427387904):IterW Try.prog 106 [.pointer (some ⟨ρ0.s 2,0,none⟩),.pointer (some ⟨ρ0.s 3,0,none⟩),.pointer (some ⟨ρ0.s 4,0,none⟩)] (FromI ρ0 ins) []:=by
 intro l J hext hI hy w hw
 have hc :∀w' L',Cx.ok ⟨Try.prog,tab,[],106,Try.f106,[],w',L',none⟩:=fun w' L'=>⟨qI,trivial,Try.func106,mixed,fun _ h=>by cases h⟩
 obtain⟨ρ,L,hW,hL,hag⟩:=hI 0 w hw
 have hcap :∀k,k<5→(∃cs t,Sx.look (fromM ins) k=some (.cells cs t))→Value.pointer (some ⟨ρ0.s k,0,none⟩)=(SV.ptr k 0).conc ρ:=by
  intro k hk ⟨cs,t,hm⟩
  have h24:=hag k hk
  have h0:ρ.o k=0:=(hW.mem k _ hm).2.2.1
  simp only[SV.conc,h24.1,h0]
 rw[hcap 2 (by decide) ⟨_,_,rfl⟩,hcap 3 (by decide) ⟨_,_,rfl⟩,hcap 4 (by decide) ⟨_,_,rfl⟩]
 have hargs:(#[.func (.yield l) #[] #[]]++[(SV.ptr 2 0).conc ρ,(SV.ptr 3 0).conc ρ,(SV.ptr 4 0).conc ρ].toArray:Array Value)=(SV.concs ρ [.v (.func (.yield l) #[] #[]),.ptr 2 0,.ptr 3 0,.ptr 4 0]).toArray:=by simp[SV.concs,SV.conc]
 rw[hargs]
 have hWp:=hW.addPin hag
 refine Run.calls (tab:=tab) (pf:=[]) (cuts:=[]) Try.func106 rfl ρ [.v (.func (.yield l) #[] #[]),.ptr 2 0,.ptr 3 0,.ptr 4 0] _ 6 (by simp[SV.scs,SV.sc]) rfl hWp (Run.s0 (hc w L) 2000 _ ?_)
 conv=>whnf
 refine Run.W1 (hc w L) ?_
 conv=>whnf
 refine Run.lJ (T:=fun i=>[(5,.fn 107 [.ptr 2 0,.ptr 6 0]),(22,.opq 1),(23,ii (ins.length:Int)),(24,ii ((i:Nat):Int))]) (M:=fun i=>[(6,.cells [.v (.func (.yield l) #[] #[])] 193),(5,.pin (xC 5 ρ0)),(0,.kwin false []),(1,.rwin 1 ins.length (qD ins)),(2,.cells [.mp 0] 165),(3,.cells [nq] 27),(4,.cells [.opq 1] 27)]) 7 (fun _=>True) (ins.length) ⟨⟨rfl,⟨(show 2<7 by decide),ltb rfl,trivial⟩⟩,⟨rfl,ltb rfl⟩,⟨rfl,trivial⟩,⟨rfl,trivial⟩,trivial⟩ (by repeat first|exact trivial|refine⟨⟨rfl,ltb rfl,qE _ rfl⟩,?_⟩|refine⟨⟨rfl,ltb rfl,fun p hp=>Nat.lt_of_lt_of_le ((vC 5 ρ0).1 p hp) (by decide)⟩,?_⟩|refine⟨⟨rfl,ltb rfl,trivial⟩,?_⟩) (fun p hp=>by rcases hL p hp with e|e|e<;>rw[e]<;>decide) ?_ ?_ ?_
 ·exact trivial
 ·intro i hi hJ ih
  refine Run.W1 (hc w L) ?_
  conv=>whnf
  rw[decide_eq_true (show((i:Nat):Int)<(ins.length:Int)by omega)]
  conv=>whnf
  refine⟨by omega,?_⟩
  conv=>whnf
  rw[yS i rfl rfl rfl rfl (by rw[qQ,Nat.mul_one]) (xL hi)]
  conv=>whnf
  refine Run.rI (vs:=[ii (IntKind.i64.wrap (-1-ins[i]))]) (caps:=[.ptr 1 0,.ptr 2 0]) (caps2:=[.ptr 2 0,.ptr 6 0]) (each_spec (IntKind.i64.wrap (-1-ins[i]))) (ent _ _ Try.func107 (by kernel_rfl) rfl) rfl rfl rfl rfl rfl rfl [ii (IntKind.i64.wrap (-1-ins[i]))] rfl (rq [(1,2),(2,6)]) rfl (fun i hi=>by have:i=0∨i=1∨i=2:=(by omega);rcases this with rfl|rfl|rfl<;>decide) (fun i hi j hj hne=>by have inj :∀i,i<3 → ∀j,j<3→i≠j→rq [(1,2),(2,6)] i≠rq [(1,2),(2,6)] j:=(by decide);exact inj i hi j hj hne) (by decide)
   ⟨⟨by omega,trivial,⟨_,rfl,Conv.refl _⟩,.inl rfl,fun _=>by simp⟩,⟨by omega,by simp[SObj.sc,SV.scs,SV.sc],⟨_,rfl,Conv.refl _⟩,.inr (by simp),fun h=>by cases h⟩,trivial⟩ (fun i hi=>by simp at hi;subst hi;exact⟨by omega,_,rfl⟩) (.v (.bool true)) [(6,.cells [.v (.func (.yield l) #[] #[])] 193),(5,.pin (xC 5 ρ0)),(0,.kwin false []),(1,.rwin 1 ins.length (qD ins)),(2,.cells [.mp 0] 165),(3,.cells [nq] 27),(4,.cells [.opq 1] 27)] 7 rfl rfl
   ⟨.inl ⟨rfl,fun i hi=>by simp at hi;subst hi;exact(show(2:Nat)≠6 by decide)⟩,.inl ⟨rfl,fun i hi=>by simp at hi;subst hi;exact(show(2:Nat)≠5 by decide)⟩,.inl ⟨rfl,fun i hi=>by simp at hi;subst hi;exact(show(2:Nat)≠0 by decide)⟩,.inl ⟨rfl,fun i hi=>by simp at hi;subst hi;exact(show(2:Nat)≠1 by decide)⟩,.inr ⟨1,_,rfl,rfl,rfl,rfl⟩,.inl ⟨rfl,fun i hi=>by simp at hi;subst hi;exact(show(2:Nat)≠3 by decide)⟩,.inl ⟨rfl,fun i hi=>by simp at hi;subst hi;exact(show(2:Nat)≠4 by decide)⟩,trivial⟩ ?_
  refine Run.W1 (hc w L) ?_
  conv=>whnf
  exact Run.tH (ih (trivial)) ⟨⟨rfl,⟨(show 2<7 by decide),ltb rfl,trivial⟩⟩,⟨rfl,ltb rfl⟩,⟨rfl,trivial⟩,⟨wsx (by omega),trivial⟩,trivial⟩ (by repeat first|exact trivial|refine⟨⟨rfl,ltb rfl,qE _ rfl⟩,?_⟩|refine⟨⟨rfl,ltb rfl,fun p hp=>Nat.lt_of_lt_of_le ((vC 5 ρ0).1 p hp) (by decide)⟩,?_⟩|refine⟨⟨rfl,ltb rfl,trivial⟩,?_⟩) (fun p hp=>by rcases hL p hp with e|e|e<;>rw[e]<;>decide)
 ·intro hJ
  refine Run.W1 (hc w L) ?_
  conv=>whnf
  rw[decide_eq_false (show ¬((ins.length:Nat):Int)<(ins.length:Int)by omega)]
  conv=>whnf
  refine⟨fun ρ1 w1 hW1 _=>⟨⟨_,rfl⟩,?_⟩⟩
  have ha1:Env.agree (· < 5) ρ0 ρ1:=hW1.agreeOf (q:=5) rfl
  refine hext 0 w w1 hw (hW.sameExt hW1 fun p hp=> ?_)
  have hag1:Env.agree (· < 5) ρ ρ1:=hag.symm.trans ha1 fun _ h=>h
  rcases hL p hp with e|e|e<;>refine⟨_,_,by rw[e];rfl,by rw[e];rfl,jE hag1 _ (by simp[SV.scs,SV.sc])⟩
theorem FromI.of {w0 w:World}{L:List (Nat×Nat)}{ρ:Env}{M:List (Nat×SObj)}{n:Nat}(hW:WI w0 L ρ (Sx.look M) (· < n) w)(q:Nat)(pl2:List (Nat×Nat×Nat×(Option Addr×Nat×Nat)))(ins:List Int)(hcov:jW q pl2)(hq:Sx.look M q=some (.pin pl2))(hq26:26≤q)
  (m2:Sx.look M 2=some (.kwin false [])) (m20:Sx.look M 20=some (.rwin 1 ins.length (qD ins))) (m23:Sx.look M 23=some (.cells [.mp 2] 165)) (m24:Sx.look M 24=some (.cells [nq] 27)) (m25:Sx.look M 25=some (.cells [.opq 20] 27)):FromI ((envPl pl2).ren (rq [(0,2),(1,20),(2,23),(3,24),(4,25)])) ins w:=by
 refine⟨ρ.ren (rq [(0,2),(1,20),(2,23),(3,24),(4,25)]),[(2,ρ.s 23),(3,ρ.s 24),(4,ρ.s 25)],?_,by simp,fun i hi=> ?_⟩
 ·refine hW.again (WI.ext_refl w) (rq [(0,2),(1,20),(2,23),(3,24),(4,25)]) _ (fromM ins) 5 (fun p hp=> ?_) (fun x hx=> ?_) (fun x hx y hy h=> ?_)
  ·simp only[List.mem_cons,List.not_mem_nil,or_false]at hp
   rcases hp with rfl|rfl|rfl
   ·exact⟨by omega,rfl,⟨(2,.cells [.mp 0] 165),by simp[fromM],rfl⟩,_,m23,trivial⟩
   ·exact⟨by omega,rfl,⟨(3,.cells [nq] 27),by simp[fromM],rfl⟩,_,m24,trivial⟩
   ·exact⟨by omega,rfl,⟨(4,.cells [.opq 1] 27),by simp[fromM],rfl⟩,_,m25,trivial⟩
  ·simp only[fromM,List.mem_cons,List.not_mem_nil,or_false]at hx
   rcases hx with rfl|rfl|rfl|rfl|rfl
   ·exact⟨by omega,trivial,fun h=>h.elim,_,m2,.inl rfl,by simp[SObj.away],fun _ p hp=>by simp at hp;rcases hp with rfl|rfl|rfl<;>simp⟩
   ·exact⟨by omega,trivial,fun h=>h.elim,_,m20,.inl rfl,by simp[SObj.away],fun _ p hp=>by simp at hp;rcases hp with rfl|rfl|rfl<;>simp⟩
   ·exact⟨by omega,by simp[SObj.sc,SV.scs,SV.sc],fun _=>⟨(2,ρ.s 23),by simp,rfl⟩,_,m23,.inl rfl,by simp[SObj.away],fun h=>by cases h⟩
   ·exact⟨by omega,by simp[SObj.sc,SV.scs,SV.sc],fun _=>⟨(3,ρ.s 24),by simp,rfl⟩,_,m24,.inl rfl,by simp[SObj.away],fun h=>by cases h⟩
   ·exact⟨by omega,by simp[SObj.sc,SV.scs,SV.sc],fun _=>⟨(4,ρ.s 25),by simp,rfl⟩,_,m25,.inl rfl,by simp[SObj.away],fun h=>by cases h⟩
  ·have key :∀z∈fromM ins,z.1<5:=fun z hz=>by
    simp only[fromM,List.mem_cons,List.not_mem_nil,or_false]at hz
    rcases hz with rfl|rfl|rfl|rfl|rfl<;>simp
   have inj :∀i,i<5 → ∀j,j<5→i≠j→rq [(0,2),(1,20),(2,23),(3,24),(4,25)] i≠rq [(0,2),(1,20),(2,23),(3,24),(4,25)] j:=by decide
   exact inj _ (key x hx) _ (key y hy) h
 ·have hag:=hW.envPl hcov hq
  have hi:i<5:=hi
  have hlt :∀i,i<5→rq [(0,2),(1,20),(2,23),(3,24),(4,25)] i<26:=by decide
  exact hag _ (Nat.lt_of_lt_of_le (hlt i hi) hq26)
def simM (inp tk:Int):List (Nat×SObj):=[(0,.cells (simC inp tk) 170),(1,.rwin 8 1 ([zB].flatMap Prm.vals)),(2,.kwin false []),(3,.row 2 1 [ii 0,ii 0] 139),(4,.row 1 1 [ii 0] 3),(5,.row 1 1 [ii 0] 3),(6,.row 1 1 [ii 0] 3),(7,.row 1 1 [ii 0] 3),(8,.row 1 1 [ii 0] 3),(9,.row 1 1 [ii 0] 3),(10,.row 1 1 [ii 0] 3),(11,.row 1 1 [ii 0] 3),(12,.row 1 1 [ii 0] 3),(13,.row 1 1 [ii 0] 3),(14,.row 1 1 [ii 0] 3),(15,.row 1 1 [ii 0] 3),(16,.row 1 1 [ii 0] 3),(17,.row 1 1 [ii 0] 3),(18,.row 1 1 [ii 0] 3),(19,.row 1 1 [ii 0] 3)]
theorem sim_spec (inp tk:Int)(ins:List Int)(h0:0≤tk)(h1:tk<4611686018427387904)(hlen:ins.length<4611686018427387904):BSpec Try.prog 60 [.ptr 0 0,.opq 20] (simM inp tk++[(20,.rwin 1 ins.length (qD ins))]) 21 [0,3,4,5,6,7,8,9,10,11,12,13,14,15,16,17,18,19] (.v (.slice none 0 0)) (simM inp (W (tk+1))) 21:=by
 obtain⟨vd,hvd⟩ :∃f,vld=f:=⟨_,rfl⟩
 obtain⟨sS,hsS⟩ :∃f,jR=f:=⟨_,rfl⟩
 obtain⟨sB,hsB⟩ :∃f,yO=f:=⟨_,rfl⟩
 have hpf:PF.oks Try.prog [(80,vV vld jR yO)]:=⟨sD,trivial⟩
 have hv1:vd zB jC=0:=by rw[←hvd];decide
 have hS1:sS zB jC 0=jC:=by rw[←hsS];rfl
 have hB1:sB zB jC 0=false:=by rw[←hsB];decide
 rw[hvd,hsS,hsB]at hpf
 have hc :∀w L' rd,(∀p,rd=some p→p∈L')→Cx.ok ⟨Try.prog,tab,[(80,vV vd sS sB)],60,Try.f60,[],w,L',rd⟩:=fun w L' rd h=>⟨qI,hpf,Try.func60,mixed,h⟩
 refine BSpec.start (tab:=tab) (pf:=[(80,vV vd sS sB)]) (cuts:=[]) Try.func60 rfl ⟨(show 0<21 by decide),ltb rfl,trivial⟩ rfl fun w L0 plp hL hLB hcov=>Run.s0 (hc w L0 none nofun) 100 _ ?_
 conv=>whnf
 refine Run.rF (vs:=[.ptr 0 0,ii 0]) (caps:=[]) (row_spec inp tk h0 h1) (ent _ _ Try.func93 (by kernel_rfl) rfl) rfl rfl rfl rfl rfl rfl rfl (by decide) (by decide)
  ⟨⟨by omega,kT _ _,⟨_,rfl,Conv.refl _⟩,.inr (by simp),fun h=>by cases h⟩,trivial⟩ (fun i hi=>by simp at hi;subst hi;exact⟨by omega,_,rfl⟩) (.opq (4+zE tk)) [(21,.pin plp),(22,.cells [.ptr 0 0] 124),(0,.cells (simC inp tk) 170),(1,.rwin 8 1 ([zB].flatMap Prm.vals)),(2,.kwin false []),(3,.row 2 1 [ii 0,ii 0] 139),(4,.row 1 1 [ii 0] 3),(5,.row 1 1 [ii 0] 3),(6,.row 1 1 [ii 0] 3),(7,.row 1 1 [ii 0] 3),(8,.row 1 1 [ii 0] 3),(9,.row 1 1 [ii 0] 3),(10,.row 1 1 [ii 0] 3),(11,.row 1 1 [ii 0] 3),(12,.row 1 1 [ii 0] 3),(13,.row 1 1 [ii 0] 3),(14,.row 1 1 [ii 0] 3),(15,.row 1 1 [ii 0] 3),(16,.row 1 1 [ii 0] 3),(17,.row 1 1 [ii 0] 3),(18,.row 1 1 [ii 0] 3),(19,.row 1 1 [ii 0] 3),(20,.rwin 1 ins.length (qD ins))] 23 (by show _=SV.opq (sh 20 23 (4+zE tk));rw[yY (by have:=yI (t:=tk);omega)]) rfl (by repeat first|exact trivial|refine⟨.inr ⟨0,_,rfl,rfl,by rw[oren_fix (S:=(· < 20)) (fun i hi=>x5 i hi) (o:=.cells (simC inp tk) 170) (kT _ _)],rfl⟩,?_⟩|refine⟨.inl ⟨rfl,by simp⟩,?_⟩) ?_
 have hk16:=yI (t:=tk)
 generalize zE tk=k at hk16 ⊢
 rcases lt16 hk16 with rfl|rfl|rfl|rfl|rfl|rfl|rfl|rfl|rfl|rfl|rfl|rfl|rfl|rfl|rfl|rfl
 all_goals
  refine Run.W2 hc ?_
  conv=>whnf
  refine Run.W2 hc ?_
  conv=>whnf
  refine⟨by decide,?_⟩
  conv=>whnf
  refine Run.draw (hc w L0 none nofun) 25 ?_
  rw[show qG 0 25=qG 0 7++(qG 7 7++(qG 14 3++qG 17 8))from rfl]
  simp only[qV]
  conv=>whnf
  refine⟨by decide,?_⟩
  conv=>whnf
  refine⟨by decide,?_⟩
  conv=>whnf
  rw[uP (F:=vV vd sS sB) rfl rfl rfl rfl (FTick_eq vd sS sB _ zB jC 0 hv1),hS1,hB1]
  conv=>whnf
  refine⟨by kernel_rfl,?_⟩
  refine Run.W2 hc ?_
  conv=>whnf
  refine Run.draw (hc w L0 none nofun) 8 ?_
  rw[show qG 0 8=qG 0 7++qG 7 1 from rfl]
  simp only[qV]
  conv=>whnf
  refine⟨by decide,?_⟩
  conv=>whnf
  refine⟨by kernel_rfl,?_⟩
  refine Run.W2 hc ?_
  conv=>whnf
  refine Run.W2 hc ?_
  conv=>whnf
  refine Run.clear1 (hc w L0 none nofun) rfl rfl rfl rfl rfl rfl rfl rfl rfl rfl rfl ?_
  refine Run.s6 (T':=[(2,.ptr 22 0),(5,nq),(1,.opq 20)]) (M':=[(21,.pin plp),(22,.cells [.ptr 0 0] 124),(0,.cells (simC inp tk) 170),(1,.rwin 8 1 ([zB].flatMap Prm.vals)),(2,.kwin false []),(3,.row 2 1 [ii 0,ii 0] 139),(4,.row 1 1 [ii 0] 3),(5,.row 1 1 [ii 0] 3),(6,.row 1 1 [ii 0] 3),(7,.row 1 1 [ii 0] 3),(8,.row 1 1 [ii 0] 3),(9,.row 1 1 [ii 0] 3),(10,.row 1 1 [ii 0] 3),(11,.row 1 1 [ii 0] 3),(12,.row 1 1 [ii 0] 3),(13,.row 1 1 [ii 0] 3),(14,.row 1 1 [ii 0] 3),(15,.row 1 1 [ii 0] 3),(16,.row 1 1 [ii 0] 3),(17,.row 1 1 [ii 0] 3),(18,.row 1 1 [ii 0] 3),(19,.row 1 1 [ii 0] 3),(20,.rwin 1 ins.length (qD ins))]) 23 ⟨⟨rfl,ltb rfl⟩,⟨rfl,trivial⟩,⟨rfl,ltb rfl⟩,trivial⟩ (by repeat first|exact trivial|refine⟨⟨rfl,by omega,pnx hcov rfl⟩,?_⟩|refine⟨⟨rfl,ltb rfl,qE _ rfl⟩,?_⟩|refine⟨⟨rfl,by omega,SV.s7 (by decide) (kT _ _)⟩,?_⟩|refine⟨⟨rfl,ltb rfl,trivial⟩,?_⟩) (lbx hLB rfl) ?_
  refine Run.W2 hc ?_
  conv=>whnf
  refine Run.rI (vs:=[.mp 0,nq,.opq 1]) (caps:=[]) (caps2:=[]) from_spec (ent _ _ Try.func94 (by kernel_rfl) rfl) rfl rfl rfl rfl rfl rfl [.mp 2,nq,.opq 20] rfl (rq [(0,2),(1,20)]) rfl (fun i hi=>by have:i=0∨i=1:=(by omega);rcases this with rfl|rfl<;>decide) (fun i hi j hj hne=>by have inj :∀i,i<2 → ∀j,j<2→i≠j→rq [(0,2),(1,20)] i≠rq [(0,2),(1,20)] j:=(by decide);exact inj i hi j hj hne) (by decide)
   trivial (fun i hi=>by cases hi) (.fn 106 [.ptr 23 0,.ptr 24 0,.ptr 25 0]) [(23,.cells [.mp 2] 165),(24,.cells [nq] 27),(25,.cells [.opq 20] 27),(21,.pin plp),(22,.cells [.ptr 0 0] 124),(0,.cells (simC inp tk) 170),(1,.rwin 8 1 ([zB].flatMap Prm.vals)),(2,.kwin false []),(3,.row 2 1 [ii 0,ii 0] 139),(4,.row 1 1 [ii 0] 3),(5,.row 1 1 [ii 0] 3),(6,.row 1 1 [ii 0] 3),(7,.row 1 1 [ii 0] 3),(8,.row 1 1 [ii 0] 3),(9,.row 1 1 [ii 0] 3),(10,.row 1 1 [ii 0] 3),(11,.row 1 1 [ii 0] 3),(12,.row 1 1 [ii 0] 3),(13,.row 1 1 [ii 0] 3),(14,.row 1 1 [ii 0] 3),(15,.row 1 1 [ii 0] 3),(16,.row 1 1 [ii 0] 3),(17,.row 1 1 [ii 0] 3),(18,.row 1 1 [ii 0] 3),(19,.row 1 1 [ii 0] 3),(20,.rwin 1 ins.length (qD ins))] 26 rfl rfl (by repeat first|exact trivial|refine⟨.inr ⟨2,_,rfl,rfl,rfl,rfl⟩,?_⟩|refine⟨.inr ⟨3,_,rfl,rfl,rfl,rfl⟩,?_⟩|refine⟨.inr ⟨4,_,rfl,rfl,rfl,rfl⟩,?_⟩|refine⟨.inl ⟨rfl,fun i hi=>by cases hi⟩,?_⟩) ?_
  refine Run.W2 hc ?_
  conv=>whnf
  refine Run.rQ fun pl2 hcov2=> ?_
  refine Run.s6 (T':=[(63,.fn 106 [.ptr 23 0,.ptr 24 0,.ptr 25 0]),(2,.ptr 22 0),(5,nq)]) (M':=[(26,.pin pl2),(23,.cells [.mp 2] 165),(24,.cells [nq] 27),(25,.cells [.opq 20] 27),(21,.pin plp),(22,.cells [.ptr 0 0] 124),(0,.cells (simC inp tk) 170),(1,.rwin 8 1 ([zB].flatMap Prm.vals)),(2,.kwin false []),(3,.row 2 1 [ii 0,ii 0] 139),(4,.row 1 1 [ii 0] 3),(5,.row 1 1 [ii 0] 3),(6,.row 1 1 [ii 0] 3),(7,.row 1 1 [ii 0] 3),(8,.row 1 1 [ii 0] 3),(9,.row 1 1 [ii 0] 3),(10,.row 1 1 [ii 0] 3),(11,.row 1 1 [ii 0] 3),(12,.row 1 1 [ii 0] 3),(13,.row 1 1 [ii 0] 3),(14,.row 1 1 [ii 0] 3),(15,.row 1 1 [ii 0] 3),(16,.row 1 1 [ii 0] 3),(17,.row 1 1 [ii 0] 3),(18,.row 1 1 [ii 0] 3),(19,.row 1 1 [ii 0] 3),(20,.rwin 1 ins.length (qD ins))]) 27 ⟨⟨rfl,⟨(show 23<27 by decide),(show 24<27 by decide),ltb rfl,trivial⟩⟩,⟨rfl,ltb rfl⟩,⟨rfl,trivial⟩,trivial⟩ (by repeat first|exact trivial|refine⟨⟨rfl,by omega,fun p hp=>Nat.lt_of_lt_of_le (hcov2.1 p hp) (show 26≤27 by decide)⟩,?_⟩|refine⟨⟨rfl,ltb rfl,qE _ rfl⟩,?_⟩|refine⟨⟨rfl,by omega,pnx hcov rfl⟩,?_⟩|refine⟨⟨rfl,by omega,SV.s7 (by decide) (kT _ _)⟩,?_⟩|refine⟨⟨rfl,ltb rfl,trivial⟩,?_⟩) (lbx hLB rfl) ?_
  refine Run.rangeF (T0:=[(2,.ptr 22 0),(5,nq)]) (caps:=[.ptr 23 0,.ptr 24 0,.ptr 25 0]) rfl (x:=.tmp 63) rfl rfl (ent _ _ Try.func106 (by kernel_rfl) rfl) hcov2 rfl (by decide)
   (fun _=>[(26,.pin pl2),(23,.cells [.mp 2] 165),(24,.cells [nq] 27),(25,.cells [.opq 20] 27),(21,.pin plp),(22,.cells [.ptr 0 0] 124),(0,.cells (simC inp tk) 170),(1,.rwin 8 1 ([zB].flatMap Prm.vals)),(2,.kwin false []),(3,.row 2 1 [ii 0,ii 0] 139),(4,.row 1 1 [ii 0] 3),(5,.row 1 1 [ii 0] 3),(6,.row 1 1 [ii 0] 3),(7,.row 1 1 [ii 0] 3),(8,.row 1 1 [ii 0] 3),(9,.row 1 1 [ii 0] 3),(10,.row 1 1 [ii 0] 3),(11,.row 1 1 [ii 0] 3),(12,.row 1 1 [ii 0] 3),(13,.row 1 1 [ii 0] 3),(14,.row 1 1 [ii 0] 3),(15,.row 1 1 [ii 0] 3),(16,.row 1 1 [ii 0] 3),(17,.row 1 1 [ii 0] 3),(18,.row 1 1 [ii 0] 3),(19,.row 1 1 [ii 0] 3),(20,.rwin 1 ins.length (qD ins))]) 29
   [] (by simp) ?_ ?_ (by decide) (fun _=>rfl) ?_ ?_ (FromI ((envPl pl2).ren (rq [(0,2),(1,20),(2,23),(3,24),(4,25)])) ins) ?_ ?_ ?_ ?_
  ·exact AllP.mem (l:=[64]) ⟨Nat.le_of_ble_eq_true rfl,trivial⟩
  ·intro v hv;cases hv
  ·exact AllP.mem ⟨⟨rfl,ltb rfl⟩,⟨rfl,trivial⟩,trivial⟩
  ·exact AllP.mem (by repeat first|exact trivial|refine⟨⟨rfl,by omega⟩,?_⟩)
  ·intro ρ w1 hW1
   have hag:=hW1.envPl hcov2 rfl
   have key :∀k,k<26→(∃cs t,Sx.look ([(26,.pin pl2),(23,.cells [.mp 2] 165),(24,.cells [nq] 27),(25,.cells [.opq 20] 27),(21,.pin plp),(22,.cells [.ptr 0 0] 124),(0,.cells (simC inp tk) 170),(1,.rwin 8 1 ([zB].flatMap Prm.vals)),(2,.kwin false []),(3,.row 2 1 [ii 0,ii 0] 139),(4,.row 1 1 [ii 0] 3),(5,.row 1 1 [ii 0] 3),(6,.row 1 1 [ii 0] 3),(7,.row 1 1 [ii 0] 3),(8,.row 1 1 [ii 0] 3),(9,.row 1 1 [ii 0] 3),(10,.row 1 1 [ii 0] 3),(11,.row 1 1 [ii 0] 3),(12,.row 1 1 [ii 0] 3),(13,.row 1 1 [ii 0] 3),(14,.row 1 1 [ii 0] 3),(15,.row 1 1 [ii 0] 3),(16,.row 1 1 [ii 0] 3),(17,.row 1 1 [ii 0] 3),(18,.row 1 1 [ii 0] 3),(19,.row 1 1 [ii 0] 3),(20,.rwin 1 ins.length (qD ins))]:List (Nat×SObj)) k=some (.cells cs t))→(SV.ptr k 0).conc ρ=Value.pointer (some ⟨(envPl pl2).s k,0,none⟩):=by
    intro k hk ⟨cs,t,hm⟩
    have ho:ρ.o k=0:=(hW1.mem k _ hm).2.2.1
    simp only[SV.conc,ho,(hag k hk).1]
   have e:SV.concs ρ [.ptr 23 0,.ptr 24 0,.ptr 25 0]=[Value.pointer (some ⟨((envPl pl2).ren (rq [(0,2),(1,20),(2,23),(3,24),(4,25)])).s 2,0,none⟩),Value.pointer (some ⟨((envPl pl2).ren (rq [(0,2),(1,20),(2,23),(3,24),(4,25)])).s 3,0,none⟩),Value.pointer (some ⟨((envPl pl2).ren (rq [(0,2),(1,20),(2,23),(3,24),(4,25)])).s 4,0,none⟩)]:=by
    simp only[SV.concs,key 23 (by decide) ⟨_,_,rfl⟩,key 24 (by decide) ⟨_,_,rfl⟩,key 25 (by decide) ⟨_,_,rfl⟩]
    rfl
   rw[e]
   exact from_iter _ ins hlen
  ·intro i L' ρ' a d w' hwid hW'
   exact FromI.of hW' 26 pl2 ins hcov2 rfl (by decide) rfl rfl rfl rfl rfl
  ·intro i v hv;simp at hv
  ·intro L' a d hwid hd hLp
   have hlid :∀p∈L',p.1<29:=fun p hp=>by
    rcases hLp p hp with h|h|h
    ·omega
    ·omega
    ·have:=hLB p h;omega
   refine Run.W1 (hc w L' none (fun q hq=>by cases hq)) ?_
   conv=>whnf
   refine Run.retD (hc w L' none (fun q hq=>by cases hq)) rfl 27 d hd rfl (.inr ⟨_,rfl⟩) rfl ?_
   refine SpecR.rS 29 (by decide) hwid hLB (by decide) hcov rfl rfl trivial ?_
   exact(by repeat first|exact trivial|refine⟨⟨rfl,by omega,Os.h _⟩,?_⟩|refine⟨⟨rfl,by omega,qE _ rfl⟩,?_⟩|refine⟨⟨by rw[oren_fix (S:=(· < 20)) (fun i hi=>x5 i (by omega)) (o:=.cells (simC inp (W (tk+1))) 170) (kT _ _)];rfl,by omega,SV.s7 (by decide) (kT _ _)⟩,?_⟩)
set_option maxHeartbeats 8000000
def nAt (t:Int):List Evt→Nat
 | []=>0
 |x::l=>if x.tick=t then nAt t l+1 else 0
theorem nAt_le (t:Int) :∀l:List Evt,nAt t l≤l.length
 | []=>Nat.le_refl _
 |x::l=>by
  unfold nAt
  have:=nAt_le t l
  split
  ·simp;omega
  ·omega
theorem nAt_lt {t:Int} :∀{l:List Evt} {i:Nat},i<nAt t l → ∃h:i<l.length,l[i].tick=t
 | [],i,h=>by simp[nAt]at h
 |x::l,i,h=>by
  unfold nAt at h
  split at h
  ·rename_i e
   cases i with
   |zero=>exact⟨by simp,e⟩
   |succ i=>
    obtain⟨h1,h2⟩:=nAt_lt (t:=t) (l:=l) (i:=i) (by omega)
    exact⟨by simpa using h1,by simpa using h2⟩
  ·omega
theorem nAt_end {t:Int} :∀{l:List Evt} (h:nAt t l<l.length),l[nAt t l].tick≠t
 | [],h=>by simp at h
 |x::l,h=>by
  unfold nAt at h
  split at h
  ·rename_i e
   have h':nAt t l<l.length:=by simpa using h
   have:=nAt_end h'
   simp only[nAt,if_pos e,List.getElem_cons_succ]
   exact this
  ·rename_i e
   simp only[nAt,if_neg e,List.getElem_cons_zero]
   exact e
def evR (l:List Evt):Nat→List Evt
 | 0=>l
 |i+1=>(evR l i).drop (nAt i (evR l i))
theorem w9 (l:List Evt) :∀i,(evR l i).length≤l.length
 | 0=>Nat.le_refl _
 |i+1=>by
  unfold evR
  rw[List.length_drop]
  have:=w9 l i
  omega
def zF (l:List Evt)(j:Nat):List Int:=(l.take j).map (·.id)
theorem vI {l:List Evt}{j:Nat}(h:j≤l.length):(zF l j).length=j:=by simp[zF];omega
theorem tM {l:List Evt}{j:Nat}(h:j<l.length):zF l (j+1)=zF l j++[l[j].id]:=by
 unfold zF
 rw[←List.take_append_getElem h,List.map_append];rfl
theorem yQ {e:Nat}{α : Type}{f : α → List Value}(hf :∀a,(f a).length=e) :∀(l:List α) (k:Nat),(l.flatMap f).drop (k*e)=(l.drop k).flatMap f
 |l,0=>by simp
 | [],k+1=>by simp
 |a::l,k+1=>by
  rw[List.flatMap_cons,List.drop_succ_cons,←yQ hf l k,Nat.add_mul,Nat.one_mul,Nat.add_comm (k*e) e,←List.drop_drop,List.drop_left' (hf a)]
theorem u0 {tab:Tab}{pf:PF}{T:Tm}{M:Mem}{n:Nat}{t:TypeId}{x:Operand}{lo:Option Operand}{ti:TI}{te:TypeId}{sz bytes b e m:Nat}{vs:List Value}(l:Nat)(ht:Sx.look tab t=some ti)(hs:ti.sh = .slc te sz bytes)(hx:ev T x=some (.opq b))(hM:M b=some (.rwin e m vs))(he:e=sz)(hlo:evO T lo=some (some (l:Int)))(hl:l≤m) :
  opF tab pf T M n (.slice t x lo none none)=some (.new (.opq n) (.rwin e (m-l) (vs.drop (l*e)))):=by
 subst he
 have hno:evO T none=some none:=rfl
 simp only[opF,gB,ht,hs,hx,hM,hlo,hno,Nat.beq_refl]
 rw[decide_eq_true (p:=0≤(l:Int)∧(l:Int)≤(m:Int)) ⟨by omega,by omega⟩]
 simp only[Int.toNat_natCast]
theorem ints_iv (l:List Int):(l.map fun x=>ii x)=(qD l).map .v:=by simp[qD]
theorem nrun_run (vN:Value)(inp:Int)(vE:Value)(l:List Evt)(ticks:Int)(w:World)(hN:RowsAt w vN 8 1 ([zB].flatMap Prm.vals))(hE:RowsAt w vE 2 l.length (l.flatMap Evt.vals)) :
  Calls Try.prog 24 #[netV vN (.slice none 0 0) ⟨[zB],inp,[]⟩,vE,.int .i64 ticks] w fun e w'=>e = .returned (.tuple #[.slice none 0 0,.int .i64 (zO ⟨[zB],inp,[]⟩ l ticks 10000)])∧Ext w w':=by
 have hc :∀L' rd,(∀p,rd=some p→p∈L')→Cx.ok ⟨Try.prog,tab,[],24,Try.f24,[],w,L',rd⟩:=fun L' rd h=>⟨qI,trivial,Try.func24,mixed,h⟩
 have hc2 :∀L' rd,(∀p,rd=some p→p∈L')→Cx.ok ⟨Try.prog,tab,[(2000,fun _ _=>none)],61,Try.f61,[],w,L',rd⟩:=fun L' rd h=>⟨qI,⟨trivial,trivial⟩,Try.func61,mixed,h⟩
 have hrows:AllP (fun x:Value×Nat×Nat×List Value=>RowsAt w x.1 x.2.1 x.2.2.1 x.2.2.2) [(vN,8,1,[zB].flatMap Prm.vals),(vE,2,l.length,l.flatMap Evt.vals)]:=⟨hN,hE,trivial⟩
 refine Run.rH Try.func24 rfl _ hrows [.agg [.opq 0,ii inp,nq],.opq 1,ii ticks] [netV vN (.slice none 0 0) ⟨[zB],inp,[]⟩,vE,.int .i64 ticks] [(0,.rwin 8 1 ([zB].flatMap Prm.vals)),(1,.rwin 2 l.length (l.flatMap Evt.vals))] 2 rfl rfl
  (by show [Value.agg [(SV.opq 0).conc _,.int .i64 inp,.slice none 0 0].toArray,(SV.opq 1).conc _,_]=_;rw[qM hrows (k:=0) rfl,qM hrows (k:=1) rfl];rfl) (by simp[SV.scs,SV.sc]) rfl (Run.s0 (hc [] none nofun) 1000 _ ?_)
 conv=>whnf
 obtain⟨ck,hck⟩ :∃ck,zO ⟨[zB],inp,[]⟩ l ticks 10000=ck:=⟨_,rfl⟩
 have h0S :∀w',RowsAt w' (.slice none 0 0) 4 0 []:=fun w'=>⟨rfl,none,0,rfl,Nat.le_refl _,.inl rfl⟩
 refine Run.rB (g:=58) (vs:=[.agg [.opq 0,ii inp,nq],.opq 1,ii ticks,ii 10000]) (caps:=[]) (ii ck) (fun ρ w1 hW=>by
  rw[←hck]
  exact t5 ((SV.opq 0).conc ρ) (.slice none 0 0) ⟨[zB],inp,[]⟩ ((SV.opq 1).conc ρ) l ticks 10000 w1 ⟨hW.rowsAt rfl,h0S w1⟩ (hW.rowsAt rfl)) (ent _ _ Try.func58 (by kernel_rfl) rfl) rfl rfl rfl rfl rfl rfl rfl trivial ?_
 refine Run.W1 (hc [] none nofun) ?_
 conv=>whnf
 cases e1:ck != 0
 case true=>
  conv=>whnf
  exact⟨fun ρ w' hW _=>⟨by rw[hck];rfl,hW.toExt⟩⟩
 have e1':ck=0:=by simpa using e1
 conv=>whnf
 have hargs:wi ticks 0 10000=true∧l.length≤65536:=by
  rw[e1']at hck
  unfold zO at hck
  split at hck
  ·rename_i h1;exact absurd hck h1
  split at hck
  ·cases hck
  rename_i h2
  refine⟨by simpa using h2,?_⟩
  unfold yJ at hck
  split at hck
  ·cases hck
  ·omega
 obtain⟨hti,hll⟩:=hargs
 obtain⟨ht0,ht1⟩:=wi_iff.1 hti
 obtain⟨K,rfl⟩ :∃K:Nat,ticks=(K:Int):=⟨ticks.toNat,by omega⟩
 refine Run.rF (vs:=[.agg [.opq 0,ii inp,nq]]) (caps:=[]) (start_spec inp) (ent _ _ Try.func59 (by kernel_rfl) rfl) rfl rfl rfl rfl rfl rfl rfl (by decide) (by decide)
  ⟨⟨by omega,trivial,⟨_,rfl,Conv.refl _⟩,.inl rfl,fun _=>by simp⟩,trivial⟩ (fun i hi=>by cases hi) (.ptr 3 0) [(3,.cells [.opq 4,ii inp,nq,.mp 5,ii 0,.opq 6,.opq 7,.opq 8,.opq 9,.opq 10,.opq 11,.opq 12,.opq 13,.opq 14,.opq 15,.opq 16,.opq 17,.opq 18,.opq 19,.opq 20,.opq 21,.opq 22] 170),(4,.row 8 1 (([zB].flatMap Prm.vals).map .v) 60),(5,.kmap false true []),(6,.row 2 1 [ii 0,ii 0] 139),(7,.row 1 1 [ii 0] 3),(8,.row 1 1 [ii 0] 3),(9,.row 1 1 [ii 0] 3),(10,.row 1 1 [ii 0] 3),(11,.row 1 1 [ii 0] 3),(12,.row 1 1 [ii 0] 3),(13,.row 1 1 [ii 0] 3),(14,.row 1 1 [ii 0] 3),(15,.row 1 1 [ii 0] 3),(16,.row 1 1 [ii 0] 3),(17,.row 1 1 [ii 0] 3),(18,.row 1 1 [ii 0] 3),(19,.row 1 1 [ii 0] 3),(20,.row 1 1 [ii 0] 3),(21,.row 1 1 [ii 0] 3),(22,.row 1 1 [ii 0] 3),(2,.cells [.opq 0,ii inp,nq] 25),(0,.rwin 8 1 ([zB].flatMap Prm.vals)),(1,.rwin 2 l.length (l.flatMap Evt.vals))] 23 rfl rfl
  ⟨.inr ⟨1,_,rfl,rfl,rfl,rfl⟩,.inr ⟨2,_,rfl,rfl,by simp only[SObj.ren,rens_v],rfl⟩,.inr ⟨3,_,rfl,rfl,rfl,rfl⟩,.inr ⟨4,_,rfl,rfl,rfl,rfl⟩,.inr ⟨5,_,rfl,rfl,rfl,rfl⟩,.inr ⟨6,_,rfl,rfl,rfl,rfl⟩,.inr ⟨7,_,rfl,rfl,rfl,rfl⟩,.inr ⟨8,_,rfl,rfl,rfl,rfl⟩,.inr ⟨9,_,rfl,rfl,rfl,rfl⟩,.inr ⟨10,_,rfl,rfl,rfl,rfl⟩,.inr ⟨11,_,rfl,rfl,rfl,rfl⟩,.inr ⟨12,_,rfl,rfl,rfl,rfl⟩,.inr ⟨13,_,rfl,rfl,rfl,rfl⟩,.inr ⟨14,_,rfl,rfl,rfl,rfl⟩,.inr ⟨15,_,rfl,rfl,rfl,rfl⟩,.inr ⟨16,_,rfl,rfl,rfl,rfl⟩,.inr ⟨17,_,rfl,rfl,rfl,rfl⟩,.inr ⟨18,_,rfl,rfl,rfl,rfl⟩,.inr ⟨19,_,rfl,rfl,rfl,rfl⟩,.inr ⟨20,_,rfl,rfl,rfl,rfl⟩,.inl ⟨rfl,by simp⟩,.inl ⟨rfl,by simp⟩,.inl ⟨rfl,by simp⟩,trivial⟩ ?_
 refine Run.W1 (hc [] none nofun) ?_
 conv=>whnf
 refine Run.rQ fun plq hcovq=> ?_
 have hne1 :∀x∈([(23,.cells [.opq 25] 128),(24,.pin plq),(25,.rwin 2 (evR l 0).length ((evR l 0).flatMap Evt.vals)),(3,.cells [.opq 4,ii inp,nq,.mp 5,ii ((0:Nat):Int),.opq 6,.opq 7,.opq 8,.opq 9,.opq 10,.opq 11,.opq 12,.opq 13,.opq 14,.opq 15,.opq 16,.opq 17,.opq 18,.opq 19,.opq 20,.opq 21,.opq 22] 170),(4,.row 8 1 (([zB].flatMap Prm.vals).map .v) 60),(5,.kmap false true []),(6,.row 2 1 [ii 0,ii 0] 139),(7,.row 1 1 [ii 0] 3),(8,.row 1 1 [ii 0] 3),(9,.row 1 1 [ii 0] 3),(10,.row 1 1 [ii 0] 3),(11,.row 1 1 [ii 0] 3),(12,.row 1 1 [ii 0] 3),(13,.row 1 1 [ii 0] 3),(14,.row 1 1 [ii 0] 3),(15,.row 1 1 [ii 0] 3),(16,.row 1 1 [ii 0] 3),(17,.row 1 1 [ii 0] 3),(18,.row 1 1 [ii 0] 3),(19,.row 1 1 [ii 0] 3),(20,.row 1 1 [ii 0] 3),(21,.row 1 1 [ii 0] 3),(22,.row 1 1 [ii 0] 3)]:List (Nat×SObj)),x.1≠1:=AllP.mem ⟨(show 23≠1 by decide),(show 24≠1 by decide),(show 25≠1 by decide),(show 3≠1 by decide),(show 4≠1 by decide),(show 5≠1 by decide),(show 6≠1 by decide),(show 7≠1 by decide),(show 8≠1 by decide),(show 9≠1 by decide),(show 10≠1 by decide),(show 11≠1 by decide),(show 12≠1 by decide),(show 13≠1 by decide),(show 14≠1 by decide),(show 15≠1 by decide),(show 16≠1 by decide),(show 17≠1 by decide),(show 18≠1 by decide),(show 19≠1 by decide),(show 20≠1 by decide),(show 21≠1 by decide),(show 22≠1 by decide),trivial⟩
 have hrqe :∀i,rq [(25,1)] i=if i=25 then 1 else i:=fun i=>by
  unfold rq
  rw[qP]
  by_cases e:i=25
  ·rw[if_pos e.symm,if_pos e]
  ·rw[if_neg (Ne.symm e),if_neg e];rfl
 refine Run.less (s':=⟨[(9,.ptr 3 0),(10,.ptr 23 0),(11,nq),(27,ii (K:Int)),(28,ii ((0:Nat):Int))],[(23,.cells [.opq 25] 128),(24,.pin plq),(25,.rwin 2 (evR l 0).length ((evR l 0).flatMap Evt.vals)),(3,.cells [.opq 4,ii inp,nq,.mp 5,ii ((0:Nat):Int),.opq 6,.opq 7,.opq 8,.opq 9,.opq 10,.opq 11,.opq 12,.opq 13,.opq 14,.opq 15,.opq 16,.opq 17,.opq 18,.opq 19,.opq 20,.opq 21,.opq 22] 170),(4,.row 8 1 (([zB].flatMap Prm.vals).map .v) 60),(5,.kmap false true []),(6,.row 2 1 [ii 0,ii 0] 139),(7,.row 1 1 [ii 0] 3),(8,.row 1 1 [ii 0] 3),(9,.row 1 1 [ii 0] 3),(10,.row 1 1 [ii 0] 3),(11,.row 1 1 [ii 0] 3),(12,.row 1 1 [ii 0] 3),(13,.row 1 1 [ii 0] 3),(14,.row 1 1 [ii 0] 3),(15,.row 1 1 [ii 0] 3),(16,.row 1 1 [ii 0] 3),(17,.row 1 1 [ii 0] 3),(18,.row 1 1 [ii 0] 3),(19,.row 1 1 [ii 0] 3),(20,.row 1 1 [ii 0] 3),(21,.row 1 1 [ii 0] 3),(22,.row 1 1 [ii 0] 3)],26,[],_⟩) (rq [(25,1)]) ⟨AllP.mem ⟨⟨rfl,ltb rfl⟩,⟨rfl,ltb rfl⟩,⟨rfl,trivial⟩,⟨rfl,trivial⟩,⟨rfl,trivial⟩,trivial⟩,AllP.mem (by repeat first|exact trivial|refine⟨⟨rfl,ltb rfl,qE _ rfl⟩,?_⟩|refine⟨⟨rfl,ltb rfl,trivial⟩,?_⟩|refine⟨⟨congrArg some (jK hcovq (fun i hi=>zG (zA (B:=24) rfl hi))).symm,(show 24<26 by decide),fun p hp=>Nat.lt_of_lt_of_le (hcovq.1 p hp) (show 24≤26 by decide)⟩,?_⟩|refine⟨⟨congrArg some (ofx (o:=.row 8 1 (([zB].flatMap Prm.vals).map .v) 60) (qL _ _)).symm,(show 4<26 by decide),qL _ _⟩,?_⟩),(fun x hx y hy h=> ?_),(fun p hp=>by cases hp),rfl,rfl⟩ ?_
 ·have h1:=hne1 x hx
  have h2:=hne1 y hy
  rw[hrqe,hrqe]
  split<;>split<;>omega
 refine Run.rD (T:=fun i=>[(9,.ptr 3 0),(10,.ptr 23 0),(11,nq),(27,ii (K:Int)),(28,ii ((i:Nat):Int))]) (M:=fun i=>[(23,.cells [.opq 25] 128),(24,.pin plq),(25,.rwin 2 (evR l i).length ((evR l i).flatMap Evt.vals)),(3,.cells [.opq 4,ii inp,nq,.mp 5,ii ((i:Nat):Int),.opq 6,.opq 7,.opq 8,.opq 9,.opq 10,.opq 11,.opq 12,.opq 13,.opq 14,.opq 15,.opq 16,.opq 17,.opq 18,.opq 19,.opq 20,.opq 21,.opq 22] 170),(4,.row 8 1 (([zB].flatMap Prm.vals).map .v) 60),(5,.kmap false true []),(6,.row 2 1 [ii 0,ii 0] 139),(7,.row 1 1 [ii 0] 3),(8,.row 1 1 [ii 0] 3),(9,.row 1 1 [ii 0] 3),(10,.row 1 1 [ii 0] 3),(11,.row 1 1 [ii 0] 3),(12,.row 1 1 [ii 0] 3),(13,.row 1 1 [ii 0] 3),(14,.row 1 1 [ii 0] 3),(15,.row 1 1 [ii 0] 3),(16,.row 1 1 [ii 0] 3),(17,.row 1 1 [ii 0] 3),(18,.row 1 1 [ii 0] 3),(19,.row 1 1 [ii 0] 3),(20,.row 1 1 [ii 0] 3),(21,.row 1 1 [ii 0] 3),(22,.row 1 1 [ii 0] 3)]) (fun _=>True) K trivial ?_ ?_
 ·intro i hi hJ ih
  refine Run.W1 (hc [] none nofun) ?_
  conv=>whnf
  obtain⟨X,hX⟩ :∃X,evR l i=X:=⟨_,rfl⟩
  have hXl:X.length≤65536:=by rw[←hX];exact Nat.le_trans (w9 l i) hll
  rw[hX]
  have hev:evR l (i+1)=X.drop (nAt ((i:Nat):Int) X):=by show(evR l i).drop (nAt i (evR l i))=_;rw[hX]
  have hnl:=nAt_le ((i:Nat):Int) X
  rw[decide_eq_true (show((i:Nat):Int)<(K:Int)by omega)]
  conv=>whnf
  refine Run.inlineF (T0:=[(9,.ptr 3 0),(10,.ptr 23 0),(11,nq),(12,ii ((i:Nat):Int)),(27,ii (K:Int)),(28,ii ((i:Nat):Int)),(31,.ptr 3 0)]) rfl rfl rfl rfl rfl rfl rfl (ent _ _ Try.func61 (by kernel_rfl) rfl) Try.func61 rfl rfl [] [(2000,fun _ _=>none)] hcovq rfl (fun v M' n'=>v = .opq 26∧M'=[(26,.row 1 (zF X (nAt ((i:Nat):Int) X)).length ((zF X (nAt ((i:Nat):Int) X)).map fun x=>ii x) 3),(23,.cells [.opq 25] 128),(24,.pin plq),(25,.rwin 2 (X.drop (nAt ((i:Nat):Int) X)).length ((X.drop (nAt ((i:Nat):Int) X)).flatMap Evt.vals)),(3,.cells [.opq 4,ii inp,nq,.mp 5,ii ((i:Nat):Int),.opq 6,.opq 7,.opq 8,.opq 9,.opq 10,.opq 11,.opq 12,.opq 13,.opq 14,.opq 15,.opq 16,.opq 17,.opq 18,.opq 19,.opq 20,.opq 21,.opq 22] 170),(4,.row 8 1 (([zB].flatMap Prm.vals).map .v) 60),(5,.kmap false true []),(6,.row 2 1 [ii 0,ii 0] 139),(7,.row 1 1 [ii 0] 3),(8,.row 1 1 [ii 0] 3),(9,.row 1 1 [ii 0] 3),(10,.row 1 1 [ii 0] 3),(11,.row 1 1 [ii 0] 3),(12,.row 1 1 [ii 0] 3),(13,.row 1 1 [ii 0] 3),(14,.row 1 1 [ii 0] 3),(15,.row 1 1 [ii 0] 3),(16,.row 1 1 [ii 0] 3),(17,.row 1 1 [ii 0] 3),(18,.row 1 1 [ii 0] 3),(19,.row 1 1 [ii 0] 3),(20,.row 1 1 [ii 0] 3),(21,.row 1 1 [ii 0] 3),(22,.row 1 1 [ii 0] 3)]∧n'=27) ?_ ?_ ?_
  ·exact AllP.mem (by repeat first|exact trivial|refine⟨⟨rfl,ltb rfl⟩,?_⟩|refine⟨⟨rfl,trivial⟩,?_⟩)
  ·refine Run.s0 (hc2 [] none nofun) 100 _ ?_
   conv=>whnf
   refine Run.nils (T':=[(0,.ptr 23 0),(1,ii ((i:Nat):Int)),(5,.opq 26)]) (M':=[(26,.row 1 (zF X 0).length ((zF X 0).map fun x=>ii x) 3),(23,.cells [.opq 25] 128),(24,.pin plq),(25,.rwin 2 (X.drop 0).length ((X.drop 0).flatMap Evt.vals)),(3,.cells [.opq 4,ii inp,nq,.mp 5,ii ((i:Nat):Int),.opq 6,.opq 7,.opq 8,.opq 9,.opq 10,.opq 11,.opq 12,.opq 13,.opq 14,.opq 15,.opq 16,.opq 17,.opq 18,.opq 19,.opq 20,.opq 21,.opq 22] 170),(4,.row 8 1 (([zB].flatMap Prm.vals).map .v) 60),(5,.kmap false true []),(6,.row 2 1 [ii 0,ii 0] 139),(7,.row 1 1 [ii 0] 3),(8,.row 1 1 [ii 0] 3),(9,.row 1 1 [ii 0] 3),(10,.row 1 1 [ii 0] 3),(11,.row 1 1 [ii 0] 3),(12,.row 1 1 [ii 0] 3),(13,.row 1 1 [ii 0] 3),(14,.row 1 1 [ii 0] 3),(15,.row 1 1 [ii 0] 3),(16,.row 1 1 [ii 0] 3),(17,.row 1 1 [ii 0] 3),(18,.row 1 1 [ii 0] 3),(19,.row 1 1 [ii 0] 3),(20,.row 1 1 [ii 0] 3),(21,.row 1 1 [ii 0] 3),(22,.row 1 1 [ii 0] 3)]) 1 (fun _=>.row 1 0 [] 3) (fun _ _=>.inl ⟨_,_,rfl⟩) ⟨⟨_,rfl,.inl rfl⟩,⟨_,rfl,.inl rfl⟩,⟨_,rfl,.inr (.inl ⟨rfl,0,by decide,rfl⟩)⟩,trivial⟩ (by repeat first|exact trivial|refine⟨.inl ⟨0,by decide,rfl⟩,?_⟩|refine⟨.inr ⟨_,rfl,.inl rfl⟩,?_⟩) ?_
   refine Run.rD (T:=fun _=>[(0,.ptr 23 0),(1,ii ((i:Nat):Int)),(5,.opq 26)]) (M:=fun j=>[(26,.row 1 (zF X j).length ((zF X j).map fun x=>ii x) 3),(23,.cells [.opq 25] 128),(24,.pin plq),(25,.rwin 2 (X.drop j).length ((X.drop j).flatMap Evt.vals)),(3,.cells [.opq 4,ii inp,nq,.mp 5,ii ((i:Nat):Int),.opq 6,.opq 7,.opq 8,.opq 9,.opq 10,.opq 11,.opq 12,.opq 13,.opq 14,.opq 15,.opq 16,.opq 17,.opq 18,.opq 19,.opq 20,.opq 21,.opq 22] 170),(4,.row 8 1 (([zB].flatMap Prm.vals).map .v) 60),(5,.kmap false true []),(6,.row 2 1 [ii 0,ii 0] 139),(7,.row 1 1 [ii 0] 3),(8,.row 1 1 [ii 0] 3),(9,.row 1 1 [ii 0] 3),(10,.row 1 1 [ii 0] 3),(11,.row 1 1 [ii 0] 3),(12,.row 1 1 [ii 0] 3),(13,.row 1 1 [ii 0] 3),(14,.row 1 1 [ii 0] 3),(15,.row 1 1 [ii 0] 3),(16,.row 1 1 [ii 0] 3),(17,.row 1 1 [ii 0] 3),(18,.row 1 1 [ii 0] 3),(19,.row 1 1 [ii 0] 3),(20,.row 1 1 [ii 0] 3),(21,.row 1 1 [ii 0] 3),(22,.row 1 1 [ii 0] 3)]) (fun _=>True) ((nAt ((i:Nat):Int) X)) trivial ?_ ?_
   ·intro j hj _ ih2
    obtain⟨hj1,hj2⟩:=nAt_lt hj
    have h0:0<(X.drop j).length:=by rw[List.length_drop];omega
    have e0:(X.drop j)[0]=X[j]:=by simp
    refine Run.W1 (hc2 [] none nofun) ?_
    conv=>whnf
    rw[decide_eq_true (show(0:Int)<((X.drop j).length:Int)by omega)]
    conv=>whnf
    refine⟨by omega,?_⟩
    conv=>whnf
    rw[q9 (f:=Evt.vals) (l:=X.drop j) (c:=.int .i64 (X.drop j)[0].tick) 0 0 rfl rfl rfl rfl Evt.vlen rfl h0 (by decide) rfl]
    conv=>whnf
    rw[e0,hj2,show(((i:Nat):Int)==((i:Nat):Int))=true by simp]
    conv=>whnf
    refine⟨by omega,?_⟩
    conv=>whnf
    rw[q9 (f:=Evt.vals) (l:=X.drop j) (c:=.int .i64 (X.drop j)[0].id) 0 1 rfl rfl rfl rfl Evt.vlen rfl h0 (by decide) rfl]
    conv=>whnf
    rw[e0]
    conv=>whnf
    have hil:=vI (show j≤X.length by omega)
    refine⟨by omega,?_⟩
    conv=>whnf
    rw[u0 1 rfl rfl rfl rfl rfl rfl (by omega),yQ Evt.vlen,List.drop_drop,show(X.drop j).length-1=(X.drop (j+1)).length by simp;omega]
    conv=>whnf
    refine Run.rC (T':=[(0,.ptr 23 0),(1,ii ((i:Nat):Int)),(5,.opq 26)]) (M':=[(26,.row 1 (zF X (j+1)).length ((zF X (j+1)).map fun x=>ii x) 3),(23,.cells [.opq 25] 128),(24,.pin plq),(25,.rwin 2 (X.drop (j+1)).length ((X.drop (j+1)).flatMap Evt.vals)),(3,.cells [.opq 4,ii inp,nq,.mp 5,ii ((i:Nat):Int),.opq 6,.opq 7,.opq 8,.opq 9,.opq 10,.opq 11,.opq 12,.opq 13,.opq 14,.opq 15,.opq 16,.opq 17,.opq 18,.opq 19,.opq 20,.opq 21,.opq 22] 170),(4,.row 8 1 (([zB].flatMap Prm.vals).map .v) 60),(5,.kmap false true []),(6,.row 2 1 [ii 0,ii 0] 139),(7,.row 1 1 [ii 0] 3),(8,.row 1 1 [ii 0] 3),(9,.row 1 1 [ii 0] 3),(10,.row 1 1 [ii 0] 3),(11,.row 1 1 [ii 0] 3),(12,.row 1 1 [ii 0] 3),(13,.row 1 1 [ii 0] 3),(14,.row 1 1 [ii 0] 3),(15,.row 1 1 [ii 0] 3),(16,.row 1 1 [ii 0] 3),(17,.row 1 1 [ii 0] 3),(18,.row 1 1 [ii 0] 3),(19,.row 1 1 [ii 0] 3),(20,.row 1 1 [ii 0] 3),(21,.row 1 1 [ii 0] 3),(22,.row 1 1 [ii 0] 3)]) (rq [(26,28),(28,26),(25,29),(29,25)]) 27 ?_ ?_ ?_ ?_ (ih2 trivial)
    ·intro i hi j hj hne he
     have inv :∀i,i<27→rq [(26,28),(28,26),(25,29),(29,25)] (rq [(26,28),(28,26),(25,29),(29,25)] i)=i:=by decide
     exact hne (by rw[←inv i hi,he,inv j hj])
    ·exact⟨⟨rfl,ltb rfl⟩,⟨rfl,trivial⟩,⟨rfl,ltb rfl⟩,trivial⟩
    ·exact(by repeat first|exact trivial|refine⟨⟨rfl,by omega,qE _ rfl⟩,?_⟩|refine⟨⟨rfl,by omega,Os.h _⟩,?_⟩|refine⟨⟨by rw[ofx (o:=.row 1 (zF X (j+1)).length ((zF X (j+1)).map fun x=>ii x) 3) (qB _ _),tM hj1,List.length_append,List.map_append];rfl,by omega,Os.h _⟩,?_⟩|refine⟨⟨congrArg some (jK hcovq (fun i hi=>zG (zA (B:=24) rfl hi))).symm,by omega,fun p hp=>Nat.lt_of_lt_of_le (hcovq.1 p hp) (show 24≤27 by decide)⟩,?_⟩|refine⟨⟨congrArg some (ofx (o:=.row 8 1 (([zB].flatMap Prm.vals).map .v) 60) (qL _ _)).symm,by omega,Os.h _⟩,?_⟩)
    ·intro p hp;cases hp
   ·intro _
    refine Run.W1 (hc2 [] none nofun) ?_
    conv=>whnf
    by_cases hlt:(nAt ((i:Nat):Int) X)<X.length
    ·have h0:0<(X.drop (nAt ((i:Nat):Int) X)).length:=by rw[List.length_drop];omega
     have e0:(X.drop (nAt ((i:Nat):Int) X))[0]=X[(nAt ((i:Nat):Int) X)]:=by simp
     have hne:=nAt_end hlt
     rw[decide_eq_true (show(0:Int)<((X.drop (nAt ((i:Nat):Int) X)).length:Int)by omega)]
     conv=>whnf
     refine⟨by omega,?_⟩
     conv=>whnf
     rw[q9 (f:=Evt.vals) (l:=X.drop (nAt ((i:Nat):Int) X)) (c:=.int .i64 (X.drop (nAt ((i:Nat):Int) X))[0].tick) 0 0 rfl rfl rfl rfl Evt.vlen rfl h0 (by decide) rfl]
     conv=>whnf
     rw[e0,show(X[(nAt ((i:Nat):Int) X)].tick==((i:Nat):Int))=false by simpa using hne]
     conv=>whnf
     exact⟨fun ρ w' hW _=>⟨ρ,.opq 26,[(26,.row 1 (zF X (nAt ((i:Nat):Int) X)).length ((zF X (nAt ((i:Nat):Int) X)).map fun x=>ii x) 3),(23,.cells [.opq 25] 128),(24,.pin plq),(25,.rwin 2 (X.drop (nAt ((i:Nat):Int) X)).length ((X.drop (nAt ((i:Nat):Int) X)).flatMap Evt.vals)),(3,.cells [.opq 4,ii inp,nq,.mp 5,ii ((i:Nat):Int),.opq 6,.opq 7,.opq 8,.opq 9,.opq 10,.opq 11,.opq 12,.opq 13,.opq 14,.opq 15,.opq 16,.opq 17,.opq 18,.opq 19,.opq 20,.opq 21,.opq 22] 170),(4,.row 8 1 (([zB].flatMap Prm.vals).map .v) 60),(5,.kmap false true []),(6,.row 2 1 [ii 0,ii 0] 139),(7,.row 1 1 [ii 0] 3),(8,.row 1 1 [ii 0] 3),(9,.row 1 1 [ii 0] 3),(10,.row 1 1 [ii 0] 3),(11,.row 1 1 [ii 0] 3),(12,.row 1 1 [ii 0] 3),(13,.row 1 1 [ii 0] 3),(14,.row 1 1 [ii 0] 3),(15,.row 1 1 [ii 0] 3),(16,.row 1 1 [ii 0] 3),(17,.row 1 1 [ii 0] 3),(18,.row 1 1 [ii 0] 3),(19,.row 1 1 [ii 0] 3),(20,.row 1 1 [ii 0] 3),(21,.row 1 1 [ii 0] 3),(22,.row 1 1 [ii 0] 3)],27,rfl,rfl,(show 26<27 by decide),hW,rfl,rfl,rfl⟩⟩
    ·have h0:(X.drop (nAt ((i:Nat):Int) X)).length=0:=by rw[List.length_drop];omega
     rw[decide_eq_false (show ¬(0:Int)<((X.drop (nAt ((i:Nat):Int) X)).length:Int)by omega)]
     conv=>whnf
     exact⟨fun ρ w' hW _=>⟨ρ,.opq 26,[(26,.row 1 (zF X (nAt ((i:Nat):Int) X)).length ((zF X (nAt ((i:Nat):Int) X)).map fun x=>ii x) 3),(23,.cells [.opq 25] 128),(24,.pin plq),(25,.rwin 2 (X.drop (nAt ((i:Nat):Int) X)).length ((X.drop (nAt ((i:Nat):Int) X)).flatMap Evt.vals)),(3,.cells [.opq 4,ii inp,nq,.mp 5,ii ((i:Nat):Int),.opq 6,.opq 7,.opq 8,.opq 9,.opq 10,.opq 11,.opq 12,.opq 13,.opq 14,.opq 15,.opq 16,.opq 17,.opq 18,.opq 19,.opq 20,.opq 21,.opq 22] 170),(4,.row 8 1 (([zB].flatMap Prm.vals).map .v) 60),(5,.kmap false true []),(6,.row 2 1 [ii 0,ii 0] 139),(7,.row 1 1 [ii 0] 3),(8,.row 1 1 [ii 0] 3),(9,.row 1 1 [ii 0] 3),(10,.row 1 1 [ii 0] 3),(11,.row 1 1 [ii 0] 3),(12,.row 1 1 [ii 0] 3),(13,.row 1 1 [ii 0] 3),(14,.row 1 1 [ii 0] 3),(15,.row 1 1 [ii 0] 3),(16,.row 1 1 [ii 0] 3),(17,.row 1 1 [ii 0] 3),(18,.row 1 1 [ii 0] 3),(19,.row 1 1 [ii 0] 3),(20,.row 1 1 [ii 0] 3),(21,.row 1 1 [ii 0] 3),(22,.row 1 1 [ii 0] 3)],27,rfl,rfl,(show 26<27 by decide),hW,rfl,rfl,rfl⟩⟩
  ·rintro v M' n' ⟨rfl,rfl,rfl⟩
   have hnl2:(zF X (nAt ((i:Nat):Int) X)).length≤65536:=by rw[vI hnl];omega
   have hisn :∀k:Nat,(3+0≠k∧3+3≠k∧(k<7∨22<k)) → ∀q∈([0,3,4,5,6,7,8,9,10,11,12,13,14,15,16,17,18,19]:List Nat),(fun q=>if q=20 then 26 else 3+q) q≠k:=by
    intro k hk q hq
    have hq2:q=0∨q=3∨(4≤q∧q≤19):=by simp at hq;omega
    show(if q=20 then 26 else 3+q)≠k
    rw[if_neg (by omega)];omega
   refine Run.W1 (hc [] none nofun) ?_
   conv=>whnf
   refine Run.rI (vs:=[.ptr 0 0,.opq 20]) (caps:=[]) (caps2:=[]) (sim_spec inp ((i:Nat):Int) (zF X (nAt ((i:Nat):Int) X)) (by omega) (by omega) (by omega)) (ent _ _ Try.func60 (by kernel_rfl) rfl) rfl rfl rfl rfl rfl rfl [.ptr 3 0,.opq 26] rfl (fun q=>if q=20 then 26 else 3+q) rfl (fun q hq=>by show(if q=20 then 26 else 3+q)<27;split<;>omega) (fun q hq j hj hne=>by show(if q=20 then 26 else 3+q)≠(if j=20 then 26 else 3+j);split<;>split<;>omega) (by decide) (by repeat first|exact trivial|refine⟨⟨by omega,SV.s7 (by decide) (kT _ _),⟨_,rfl,Conv.refl _⟩,.inr (by simp),fun h=>by cases h⟩,?_⟩|refine⟨⟨by omega,trivial,⟨_,rfl,Conv.row (by decide) rfl⟩,.inl rfl,fun _=>by simp⟩,?_⟩|refine⟨⟨by omega,trivial,⟨_,rfl,Conv.map⟩,.inl rfl,fun _=>by simp⟩,?_⟩|refine⟨⟨by omega,trivial,⟨_,rfl,Conv.row (by decide) (ints_iv _)⟩,.inl rfl,fun _=>by simp⟩,?_⟩|refine⟨⟨by omega,by simp[SObj.sc,SV.scs,SV.sc],⟨_,rfl,Conv.refl _⟩,.inr (by simp),fun h=>by cases h⟩,?_⟩) (fun q hq=>by
     have hq2:q=0∨q=3∨q=4∨q=5∨q=6∨q=7∨q=8∨q=9∨q=10∨q=11∨q=12∨q=13∨q=14∨q=15∨q=16∨q=17∨q=18∨q=19:=by simpa using hq
     rcases hq2 with rfl|rfl|rfl|rfl|rfl|rfl|rfl|rfl|rfl|rfl|rfl|rfl|rfl|rfl|rfl|rfl|rfl|rfl<;>exact⟨by omega,_,rfl⟩) (nq) [(26,.row 1 (zF X (nAt ((i:Nat):Int) X)).length ((zF X (nAt ((i:Nat):Int) X)).map fun x=>ii x) 3),(23,.cells [.opq 25] 128),(24,.pin plq),(25,.rwin 2 (X.drop (nAt ((i:Nat):Int) X)).length ((X.drop (nAt ((i:Nat):Int) X)).flatMap Evt.vals)),(3,.cells [.opq 4,ii inp,nq,.mp 5,ii ((i+1:Nat):Int),.opq 6,.opq 7,.opq 8,.opq 9,.opq 10,.opq 11,.opq 12,.opq 13,.opq 14,.opq 15,.opq 16,.opq 17,.opq 18,.opq 19,.opq 20,.opq 21,.opq 22] 170),(4,.row 8 1 (([zB].flatMap Prm.vals).map .v) 60),(5,.kmap false true []),(6,.row 2 1 [ii 0,ii 0] 139),(7,.row 1 1 [ii 0] 3),(8,.row 1 1 [ii 0] 3),(9,.row 1 1 [ii 0] 3),(10,.row 1 1 [ii 0] 3),(11,.row 1 1 [ii 0] 3),(12,.row 1 1 [ii 0] 3),(13,.row 1 1 [ii 0] 3),(14,.row 1 1 [ii 0] 3),(15,.row 1 1 [ii 0] 3),(16,.row 1 1 [ii 0] 3),(17,.row 1 1 [ii 0] 3),(18,.row 1 1 [ii 0] 3),(19,.row 1 1 [ii 0] 3),(20,.row 1 1 [ii 0] 3),(21,.row 1 1 [ii 0] 3),(22,.row 1 1 [ii 0] 3)] 27 rfl rfl
    ⟨.inl ⟨rfl,hisn 26 (by decide)⟩,.inl ⟨rfl,hisn 23 (by decide)⟩,.inl ⟨rfl,hisn 24 (by decide)⟩,.inl ⟨rfl,hisn 25 (by decide)⟩,.inr ⟨0,_,rfl,rfl,by rw[show W (((i:Nat):Int)+1)=((i+1:Nat):Int)from z8 (by omega)];rfl,rfl⟩,.inl ⟨rfl,hisn 4 (by decide)⟩,.inl ⟨rfl,hisn 5 (by decide)⟩,.inr ⟨3,_,rfl,rfl,rfl,rfl⟩,.inr ⟨4,_,rfl,rfl,rfl,rfl⟩,.inr ⟨5,_,rfl,rfl,rfl,rfl⟩,.inr ⟨6,_,rfl,rfl,rfl,rfl⟩,.inr ⟨7,_,rfl,rfl,rfl,rfl⟩,.inr ⟨8,_,rfl,rfl,rfl,rfl⟩,.inr ⟨9,_,rfl,rfl,rfl,rfl⟩,.inr ⟨10,_,rfl,rfl,rfl,rfl⟩,.inr ⟨11,_,rfl,rfl,rfl,rfl⟩,.inr ⟨12,_,rfl,rfl,rfl,rfl⟩,.inr ⟨13,_,rfl,rfl,rfl,rfl⟩,.inr ⟨14,_,rfl,rfl,rfl,rfl⟩,.inr ⟨15,_,rfl,rfl,rfl,rfl⟩,.inr ⟨16,_,rfl,rfl,rfl,rfl⟩,.inr ⟨17,_,rfl,rfl,rfl,rfl⟩,.inr ⟨18,_,rfl,rfl,rfl,rfl⟩,.inr ⟨19,_,rfl,rfl,rfl,rfl⟩,trivial⟩ ?_
   refine Run.W1 (hc [] none nofun) ?_
   conv=>whnf
   refine Run.W1 (hc [] none nofun) ?_
   conv=>whnf
   refine Run.tH (ih trivial) ?_ ?_ (fun p hp=>by cases hp)
   ·exact⟨⟨rfl,ltb rfl⟩,⟨rfl,ltb rfl⟩,⟨rfl,trivial⟩,⟨rfl,trivial⟩,⟨wsx (by omega),trivial⟩,trivial⟩
   ·exact(by repeat first|exact trivial|refine⟨⟨rfl,by omega,qE _ rfl⟩,?_⟩|refine⟨⟨rfl,by omega,fun p hp=>Nat.lt_of_lt_of_le (hcovq.1 p hp) (show 24≤26 by decide)⟩,?_⟩|refine⟨⟨rfl,by omega,Os.h _⟩,?_⟩|refine⟨⟨by rw[hev];rfl,by omega,trivial⟩,?_⟩)
 ·intro _
  refine Run.W1 (hc [] none nofun) ?_
  conv=>whnf
  rw[decide_eq_false (show ¬((K:Nat):Int)<(K:Int)by omega)]
  conv=>whnf
  exact⟨fun ρ w' hW _=>⟨by rw[hck,e1'];rfl,hW.toExt⟩⟩
end Go.Proofs.Ytnnlpdgnlccbjaa
namespace Go.Sx
def WeakO (o o':SObj):Prop:=o'=o ∨ ∃pk l,o = .kmap pk true l∧o' = .kmap pk false l
theorem Run.weak {c:Cx}{T:List (Nat×SV)}{M M':List (Nat×SObj)}{n:Nat}{D:List Deferred}{todo:List Item}{R:Ending→World→Prop}(hM:AllP (fun x=> ∃o,look M x.1=some o∧WeakO o x.2) M')(h:Run c ⟨T,M',n,D,todo⟩ R):Run c ⟨T,M,n,D,todo⟩ R:=by
 refine⟨fun ρ a w hi=>h.go ρ a w ⟨hi.sz,hi.tm,hi.df,⟨?_,?_,?_,hi.wi.lid,hi.wi.keep,hi.wi.size,hi.wi.os,hi.wi.tape,hi.wi.output⟩⟩⟩
 ·intro i o hi'
  obtain⟨o0,h1,h2⟩:=hM.mem _ (qF hi')
  obtain⟨g1,g2,g3⟩:=hi.wi.mem i o0 h1
  rcases h2 with h2|⟨pk,l,rfl,h2⟩
  ·simp only at h2;subst h2;exact⟨g1,g2,g3⟩
  ·simp only at h2;subst h2
   refine⟨g1,trivial,g3.1,?_⟩
   rcases g3.2 with g|⟨g,_⟩
   ·exact .inl g
   ·cases g
 ·intro i j oi oj hi' hj' hne ho ho'
  obtain⟨o1,h1,h2⟩:=hM.mem _ (qF hi')
  obtain⟨o2,h3,h4⟩:=hM.mem _ (qF hj')
  refine hi.wi.dist i j o1 o2 h1 h3 hne ?_ ?_
  ·rcases h2 with h2|⟨pk,l,rfl,h2⟩<;>simp only at h2<;>subst h2<;>exact ho
  ·rcases h4 with h4|⟨pk,l,rfl,h4⟩<;>simp only at h4<;>subst h4<;>exact ho'
 ·intro i o hi' ho
  obtain⟨o1,h1,h2⟩:=hM.mem _ (qF hi')
  refine hi.wi.new i o1 h1 ?_
  rcases h2 with h2|⟨pk,l,rfl,h2⟩<;>simp only at h2<;>subst h2<;>exact ho
end Go.Sx
namespace Go.Proofs.Ytnnlpdgnlccbjaa
open Go.Sx
set_option maxRecDepth 100000
set_option maxHeartbeats 4000000
def nPz (t:Int):List Prz→Nat
 | []=>0
 |x::l=>if x.tick=t then nPz t l+1 else 0
theorem nPz_le (t:Int) :∀l:List Prz,nPz t l≤l.length
 | []=>Nat.le_refl _
 |x::l=>by
  unfold nPz
  have:=nPz_le t l
  split
  ·simp;omega
  ·omega
theorem nPz_lt {t:Int} :∀{l:List Prz} {i:Nat},i<nPz t l → ∃h:i<l.length,l[i].tick=t
 | [],i,h=>by simp[nPz]at h
 |x::l,i,h=>by
  unfold nPz at h
  split at h
  ·rename_i e
   cases i with
   |zero=>exact⟨by simp,e⟩
   |succ i=>
    obtain⟨h1,h2⟩:=nPz_lt (t:=t) (l:=l) (i:=i) (by omega)
    exact⟨by simpa using h1,by simpa using h2⟩
  ·omega
theorem nPz_end {t:Int} :∀{l:List Prz} (h:nPz t l<l.length),l[nPz t l].tick≠t
 | [],h=>by simp at h
 |x::l,h=>by
  unfold nPz at h
  split at h
  ·rename_i e
   have h':nPz t l<l.length:=by simpa using h
   have:=nPz_end h'
   simp only[nPz,if_pos e,List.getElem_cons_succ]
   exact this
  ·rename_i e
   simp only[nPz,if_neg e,List.getElem_cons_zero]
   exact e
def pzR (l:List Prz):Nat→List Prz
 | 0=>l
 |i+1=>(pzR l i).drop (nPz i (pzR l i))
theorem pzR_len (l:List Prz) :∀i,(pzR l i).length≤l.length
 | 0=>Nat.le_refl _
 |i+1=>by
  unfold pzR
  rw[List.length_drop]
  have:=pzR_len l i
  omega
theorem pzR_mem (l:List Prz) :∀i x,x∈pzR l i→x∈l
 | 0,_,h=>h
 |i+1,x,h=>pzR_mem l i x (List.mem_of_mem_drop h)
def rwSt (r:List Int)(x:Prz):List Int:=r.set x.id.toNat x.val
def rwY (R:Nat)(l:List Prz)(j:Nat):List Int:=(l.take j).foldl rwSt (List.replicate R 0)
theorem rwY_succ {R:Nat}{l:List Prz}{j:Nat}(h:j<l.length):rwY R l (j+1)=(rwY R l j).set l[j].id.toNat l[j].val:=by
 unfold rwY
 rw[←List.take_append_getElem h,List.foldl_append];rfl
theorem rwY_len (R:Nat)(l:List Prz)(j:Nat):(rwY R l j).length=R:=by
 unfold rwY
 have :∀(l:List Prz) (r:List Int),(l.foldl rwSt r).length=r.length:=by
  intro l
  induction l with
  |nil=>intro r;rfl
  |cons a l ih=>intro r;rw[List.foldl_cons,ih];simp[rwSt]
 rw[this,List.length_replicate]
theorem pzs_rule {rules:Int}{l:List Prz}(h:jX rules l=0)(h0:0≤rules∧rules≤16) :∀x∈l,0≤x.id∧x.id<rules ∧ -128≤x.val∧x.val≤127:=by
 intro x hx
 unfold jX at h
 split at h
 ·cases h
 obtain⟨i,hi,rfl⟩:=List.getElem_of_mem hx
 have:=xK h i (by simpa using hi)
 simp only[List.getElem_range]at this
 unfold pzAt at this
 have e:l.getD i prz0=l[i]:=by simp[List.getD_eq_getElem?_getD,hi]
 rw[e]at this
 split at this
 ·cases this
 rename_i hw
 simp only[Bool.not_eq_false,Bool.and_eq_true,wi_iff]at hw
 have e2:W (rules-1)=rules-1:=zL (by omega) (by omega)
 rw[e2]at hw
 omega
def trIn (l:List Evt)(i:Nat):List Int:=zF (evR l i) (nAt i (evR l i))
def trRw (R:Nat)(p:List Prz)(i:Nat):List Int:=rwY R (pzR p i) (nPz i (pzR p i))
def trS (x:Lnt)(l:List Evt)(p:List Prz):Nat→Lst
 | 0=>x.new
 |i+1=>lN x (trS x l p i) (trIn l i) (trRw x.rs.length p i)
def spk (t:Int)(o:List Int):List Evt:=o.map fun a=>⟨t,a⟩
def trO (x:Lnt)(l:List Evt)(p:List Prz):Nat→List Evt
 | 0=>[]
 |i+1=>trO x l p i++spk i (lOut x (trS x l p i))
theorem tB (x:Lnt)(l:List Evt)(p:List Prz) :∀i,i≤10000→(trS x l p i).tick=(i:Int)
 | 0,_=>rfl
 |i+1,h=>by
  show W ((trS x l p i).tick+1)=_
  rw[tB x l p i (by omega),zL (by omega) (by omega)];rfl
theorem gD {x:Lnt}(hx:NetOK x)(l:List Evt)(p:List Prz) :∀i,i≤10000→LInv x (trS x l p i)
 | 0,_=>LInv.start hx
 |i+1,h=>(gD hx l p i (by omega)).next hx (by rw[tB x l p i (by omega)];omega) _ _
theorem lOut_len (x:Lnt)(s:Lst):(lOut x s).length≤x.n.N.length:=wB ..
theorem trO_len (x:Lnt)(l:List Evt)(p:List Prz) :∀i,(trO x l p i).length≤i*x.n.N.length
 | 0=>by simp[trO]
 |i+1=>by
  have h1:=trO_len x l p i
  have h2:=lOut_len x (trS x l p i)
  simp only[trO,spk,List.length_append,List.length_map]
  rw[Nat.add_mul];omega
theorem spk_take {t:Int}{o:List Int}{j:Nat}(h:j<o.length):spk t (o.take (j+1))=spk t (o.take j)++[⟨t,o[j]⟩]:=by
 unfold spk
 rw[←List.take_append_getElem h,List.map_append];rfl
theorem evts_v (l:List Evt):l.flatMap Evt.cells=(l.flatMap Evt.vals).map .v:=by
 induction l with
 |nil=>rfl
 |cons a l ih=>rw[List.flatMap_cons,List.flatMap_cons,List.map_append,ih];rfl
theorem zT (S:Nat→Prop)(l:List Evt):SV.scs S (l.flatMap Evt.cells):=by rw[evts_v];exact qL _ _
end Go.Proofs.Ytnnlpdgnlccbjaa
namespace Go.Proofs.Ytnnlpdgnlccbjaa
open Go.Sx
instance (l:List Evt):Vs (l.flatMap Evt.cells):=⟨fun S=>zT S l⟩
set_option maxRecDepth 100000
set_option maxHeartbeats 8000000
theorem tZ {tab:Tab}{pf:PF}{T:Tm}{M:Mem}{n:Nat}{t:TypeId}{x:Operand}{ti:TI}{j off e m:Nat}{l:List Int}{te:TypeId}(i:Nat)(ht:Sx.look tab t=some ti)(hx:ev T x=some (.ptr j off))(hM:M j=some (.row e m (l.map fun x=>ii x) te))(hag:ti.sh.isAgg=false)(hoff:off=i)(hi:i<l.length) :
  opF tab pf T M n (.load t x)=some (.val none (ii l[i])):=by
 subst hoff
 exact xW off ht hx hM hag rfl (by simp[hi])
theorem joinL {G:Prop}{c:Cx}{R:Ending→World→Prop}{q:List Item}(T:List (Nat×SV))(M:List (Nat×SObj))(n:Nat)(h1:Run c ⟨T,M,n,[],q⟩ R→G)(h2:Run c ⟨T,M,n,[],q⟩ R):G:=h1 h2
def trainM (x:Lnt)(l:List Evt)(p:List Prz):List (Nat×SObj):=newM x++[(4,.rwin 2 l.length (l.flatMap Evt.vals)),(5,.rwin 3 p.length (p.flatMap Prz.vals))]
theorem tC (x:Lnt)(l:List Evt)(p:List Prz)(K:Nat)(h:qZ x.n x.rs x.pl=0)(hp:zO ⟨[zB],x.n.inp,[]⟩ l (K:Int) 10000=0)(hz:jX (x.rs.length:Int) p=0)(hK:K*x.n.N.length≤65536) :
  BSpec Try.prog 20 [.agg [.opq 0,ii x.n.inp,.opq 1],.opq 2,.opq 3,.opq 4,.opq 5,ii (K:Int)] (trainM x l p) 6 [] (.tup [.opq 6,.agg [.opq 7,ii x.n.inp,.opq 8],ii 0])
   [(6,.row 2 (trO x l p K).length ((trO x l p K).flatMap Evt.cells) 62),(7,.row 8 x.n.N.length ((x.n.N.flatMap Prm.vals).map .v) 60),(8,.row 4 x.n.S.length ((nowL x.n.S (trS x l p K).m).flatMap Syn.cells) 55)] 9:=by
 have hx:NetOK x:=uH h
 have hx1:=hx.N2
 have hx2:=hx.S1
 have hx3:=hx.rl
 have hx4:x.pl.length=x.n.S.length:=hx.lpl
 have hpz:=pzs_rule hz ⟨by omega,by omega⟩
 have hll:l.length≤65536:=by
  unfold zO at hp
  split at hp
  ·rename_i h1;exact absurd hp h1
  split at hp
  ·cases hp
  unfold yJ at hp
  split at hp
  ·cases hp
  ·omega
 have hpl:p.length≤65536:=by
  unfold jX at hz
  split at hz
  ·cases hz
  ·omega
 have hK2:K≤10000:=by
  unfold zO at hp
  split at hp
  ·rename_i h1;exact absurd hp h1
  split at hp
  ·cases hp
  rename_i h2
  have:=wi_iff.1 (show wi (K:Int) 0 10000=true by simpa using h2)
  omega
 have hc :∀w L' rd,(∀p,rd=some p→p∈L')→Cx.ok ⟨Try.prog,tab,[(2000,fun _ _=>none)],20,Try.f20,[],w,L',rd⟩:=fun w L' rd h=>⟨qI,⟨trivial,trivial⟩,Try.func20,mixed,h⟩
 refine BSpec.start (tab:=tab) (pf:=[(2000,fun _ _=>none)]) (cuts:=[]) Try.func20 rfl ⟨⟨(show 0<6 by decide),trivial,ltb rfl,trivial⟩,(show 2<6 by decide),(show 3<6 by decide),(show 4<6 by decide),(show 5<6 by decide),trivial,trivial⟩ rfl fun w L0 plp hL hLB hcov=>Run.s0 (hc w L0 none nofun) 100 _ ?_
 conv=>whnf
 refine Run.rF (vs:=[.agg [.opq 0,ii x.n.inp,.opq 1],.opq 2,.opq 3]) (caps:=[]) (new_ok x h) (ent _ _ Try.func25 (by kernel_rfl) rfl) rfl rfl rfl rfl rfl rfl rfl (by decide) (by decide) (by repeat first|exact trivial|refine⟨⟨by omega,trivial,⟨_,rfl,Conv.refl _⟩,.inl rfl,fun _=>by simp⟩,?_⟩) (fun i hi=>by cases hi) (.tup [.ptr 9 0,ii 0]) ((9,.cells [ii 0,.opq 10,ii x.n.inp,.opq 11,.opq 12,.mp 17,.mp 18,.mp 19,.mp 20,.mp 21,.mp 22,.mp 23,.mp 24,.mp 25,.mp 26,.mp 27,.mp 28,.mp 29,.mp 30,.mp 31,.mp 32,.opq 13,.opq 14,.opq 15,.mp 16] 96)::(10,.row 8 x.n.N.length ((x.n.N.flatMap Prm.vals).map .v) 60)::(11,.row 4 x.n.S.length ((x.n.S.flatMap Syn.vals).map .v) 55)::(12,.row 2 x.n.N.length ((List.replicate x.n.N.length jC).flatMap Ste.cells) 139)::(13,.row 10 x.rs.length ((x.rs.flatMap Rul.vals).map .v) 36)::(14,.row 1 x.pl.length ((qD x.pl).map .v) 3)::(15,.row 4 x.pl.length (x.m0.flatMap Mrk.cells) 84)::(16,.kmap true true x.tot)::(17,.kmap false false [])::(18,.kmap false false [])::(19,.kmap false false [])::(20,.kmap false false [])::(21,.kmap false false [])::(22,.kmap false false [])::(23,.kmap false false [])::(24,.kmap false false [])::(25,.kmap false false [])::(26,.kmap false false [])::(27,.kmap false false [])::(28,.kmap false false [])::(29,.kmap false false [])::(30,.kmap false false [])::(31,.kmap false false [])::(32,.kmap false false [])::(8,.cells [nq,ii 0,nq] 25)::(7,.cells [.opq 0,ii x.n.inp,.opq 1] 25)::(6,.pin plp)::(0,.rwin 8 x.n.N.length (x.n.N.flatMap Prm.vals))::(1,.rwin 4 x.n.S.length (x.n.S.flatMap Syn.vals))::(2,.rwin 10 x.rs.length (x.rs.flatMap Rul.vals))::(3,.rwin 1 x.pl.length (qD x.pl))::(4,.rwin 2 l.length (l.flatMap Evt.vals))::(5,.rwin 3 p.length (p.flatMap Prz.vals))::[]) 33 rfl rfl
  ⟨.inr ⟨4,_,rfl,rfl,rfl,rfl⟩,.inr ⟨5,_,rfl,rfl,by rw[ofx (o:=.row 8 x.n.N.length ((x.n.N.flatMap Prm.vals).map .v) 60) (qL _ _)],rfl⟩,.inr ⟨6,_,rfl,rfl,by rw[ofx (o:=.row 4 x.n.S.length ((x.n.S.flatMap Syn.vals).map .v) 55) (qL _ _)],rfl⟩,.inr ⟨7,_,rfl,rfl,by rw[ofx (o:=.row 2 x.n.N.length ((List.replicate x.n.N.length jC).flatMap Ste.cells) 139) (qS _ _)],rfl⟩,.inr ⟨8,_,rfl,rfl,by rw[ofx (o:=.row 10 x.rs.length ((x.rs.flatMap Rul.vals).map .v) 36) (qL _ _)],rfl⟩,.inr ⟨9,_,rfl,rfl,by rw[ofx (o:=.row 1 x.pl.length ((qD x.pl).map .v) 3) (qL _ _)],rfl⟩,.inr ⟨10,_,rfl,rfl,by rw[ofx (o:=.row 4 x.n.S.length (x.m0.flatMap Mrk.cells) 84) (qN _ _),←hx4],rfl⟩,.inr ⟨11,_,rfl,rfl,rfl,rfl⟩,.inr ⟨12,_,rfl,rfl,rfl,rfl⟩,.inr ⟨13,_,rfl,rfl,rfl,rfl⟩,.inr ⟨14,_,rfl,rfl,rfl,rfl⟩,.inr ⟨15,_,rfl,rfl,rfl,rfl⟩,.inr ⟨16,_,rfl,rfl,rfl,rfl⟩,.inr ⟨17,_,rfl,rfl,rfl,rfl⟩,.inr ⟨18,_,rfl,rfl,rfl,rfl⟩,.inr ⟨19,_,rfl,rfl,rfl,rfl⟩,.inr ⟨20,_,rfl,rfl,rfl,rfl⟩,.inr ⟨21,_,rfl,rfl,rfl,rfl⟩,.inr ⟨22,_,rfl,rfl,rfl,rfl⟩,.inr ⟨23,_,rfl,rfl,rfl,rfl⟩,.inr ⟨24,_,rfl,rfl,rfl,rfl⟩,.inr ⟨25,_,rfl,rfl,rfl,rfl⟩,.inr ⟨26,_,rfl,rfl,rfl,rfl⟩,.inr ⟨27,_,rfl,rfl,rfl,rfl⟩,.inl ⟨rfl,by simp⟩,.inl ⟨rfl,by simp⟩,.inl ⟨rfl,by simp⟩,.inl ⟨rfl,by simp⟩,.inl ⟨rfl,by simp⟩,.inl ⟨rfl,by simp⟩,.inl ⟨rfl,by simp⟩,.inl ⟨rfl,by simp⟩,.inl ⟨rfl,by simp⟩,trivial⟩ ?_
 refine Run.W2 hc ?_
 conv=>whnf
 have h0S :∀w',RowsAt w' (.slice none 0 0) 4 0 []:=fun w'=>⟨rfl,none,0,rfl,Nat.le_refl _,.inl rfl⟩
 refine Run.rB (g:=24) (vs:=[.agg [.slc 33 0 1 1,ii x.n.inp,nq],.opq 4,ii (K:Int)]) (caps:=[]) (.tup [nq,ii 0]) (fun ρ w1 hW=>by
  have:=nrun_run ((SV.slc 33 0 1 1).conc ρ) x.n.inp ((SV.opq 4).conc ρ) l (K:Int) w1 (hW.rowsAtS (i:=33) rfl rfl (by decide)) (hW.rowsAt rfl)
  rw[hp]at this
  exact this) (ent _ _ Try.func24 (by kernel_rfl) rfl) rfl rfl rfl rfl rfl rfl rfl ⟨trivial,trivial,trivial⟩ ?_
 refine Run.W2 hc ?_
 conv=>whnf
 refine Run.rB (g:=51) (vs:=[ii (x.rs.length:Int),.opq 5]) (caps:=[]) (ii 0) (fun ρ w1 hW=>by
  have:=tT (x.rs.length:Int) ((SV.opq 5).conc ρ) p w1 (hW.rowsAt rfl)
  rw[hz]at this
  exact this) (ent _ _ Try.func51 (by kernel_rfl) rfl) rfl rfl rfl rfl rfl rfl rfl trivial ?_
 refine Run.W2 hc ?_
 conv=>whnf
 refine Run.nils (T':=[(1,.opq 2),(3,.opq 4),(4,.opq 5),(13,.ptr 8 0),(15,.ptr 9 0),(20,.opq 34),(60,ii (K:Int)),(61,ii 0)]) (M':=((34,.row 2 0 [] 62)::(9,.cells [ii 0,.opq 10,ii x.n.inp,.opq 11,.opq 12,.mp 17,.mp 18,.mp 19,.mp 20,.mp 21,.mp 22,.mp 23,.mp 24,.mp 25,.mp 26,.mp 27,.mp 28,.mp 29,.mp 30,.mp 31,.mp 32,.opq 13,.opq 14,.opq 15,.mp 16] 96)::(10,.row 8 x.n.N.length ((x.n.N.flatMap Prm.vals).map .v) 60)::(11,.row 4 x.n.S.length ((x.n.S.flatMap Syn.vals).map .v) 55)::(12,.row 2 x.n.N.length ((List.replicate x.n.N.length jC).flatMap Ste.cells) 139)::(13,.row 10 x.rs.length ((x.rs.flatMap Rul.vals).map .v) 36)::(14,.row 1 x.pl.length ((qD x.pl).map .v) 3)::(15,.row 4 x.pl.length (x.m0.flatMap Mrk.cells) 84)::(16,.kmap true true x.tot)::(17,.kmap false false [])::(18,.kmap false false [])::(19,.kmap false false [])::(20,.kmap false false [])::(21,.kmap false false [])::(22,.kmap false false [])::(23,.kmap false false [])::(24,.kmap false false [])::(25,.kmap false false [])::(26,.kmap false false [])::(27,.kmap false false [])::(28,.kmap false false [])::(29,.kmap false false [])::(30,.kmap false false [])::(31,.kmap false false [])::(32,.kmap false false [])::(8,.cells [nq,ii 0,nq] 25)::(7,.cells [.opq 0,ii x.n.inp,.opq 1] 25)::(6,.pin plp)::(0,.rwin 8 x.n.N.length (x.n.N.flatMap Prm.vals))::(1,.rwin 4 x.n.S.length (x.n.S.flatMap Syn.vals))::(2,.rwin 10 x.rs.length (x.rs.flatMap Rul.vals))::(3,.rwin 1 x.pl.length (qD x.pl))::(4,.rwin 2 l.length (l.flatMap Evt.vals))::(5,.rwin 3 p.length (p.flatMap Prz.vals))::[])) 1 (fun _=>.row 2 0 [] 62) (fun _ _=>.inl ⟨_,_,rfl⟩) (by repeat first|exact trivial|refine⟨⟨_,rfl,.inl rfl⟩,?_⟩|refine⟨⟨_,rfl,.inr (.inl ⟨rfl,0,by decide,rfl⟩)⟩,?_⟩) (by repeat first|exact trivial|refine⟨.inl ⟨0,by decide,rfl⟩,?_⟩|refine⟨.inr ⟨_,rfl,.inl rfl⟩,?_⟩) ?_
 have hne45 :∀x_1∈(((34,.row 2 (trO x l p 0).length ((trO x l p 0).flatMap Evt.cells) 62)::(35,.rwin 2 (evR l 0).length ((evR l 0).flatMap Evt.vals))::(36,.rwin 3 (pzR p 0).length ((pzR p 0).flatMap Prz.vals))::(9,.cells [ii ((0:Nat):Int),.opq 10,ii x.n.inp,.opq 11,.opq 12,.mp 17,.mp 18,.mp 19,.mp 20,.mp 21,.mp 22,.mp 23,.mp 24,.mp 25,.mp 26,.mp 27,.mp 28,.mp 29,.mp 30,.mp 31,.mp 32,.opq 13,.opq 14,.opq 15,.mp 16] 96)::(10,.row 8 x.n.N.length ((x.n.N.flatMap Prm.vals).map .v) 60)::(11,.row 4 x.n.S.length ((x.n.S.flatMap Syn.vals).map .v) 55)::(12,.row 2 x.n.N.length ((trS x l p 0).st.flatMap Ste.cells) 139)::(13,.row 10 x.rs.length ((x.rs.flatMap Rul.vals).map .v) 36)::(14,.row 1 x.pl.length ((qD x.pl).map .v) 3)::(15,.row 4 x.pl.length ((trS x l p 0).m.flatMap Mrk.cells) 84)::(16,.kmap true true x.tot)::(17,.kmap false false (qA ((trS x l p 0).sm 0)))::(18,.kmap false false (qA ((trS x l p 0).sm 1)))::(19,.kmap false false (qA ((trS x l p 0).sm 2)))::(20,.kmap false false (qA ((trS x l p 0).sm 3)))::(21,.kmap false false (qA ((trS x l p 0).sm 4)))::(22,.kmap false false (qA ((trS x l p 0).sm 5)))::(23,.kmap false false (qA ((trS x l p 0).sm 6)))::(24,.kmap false false (qA ((trS x l p 0).sm 7)))::(25,.kmap false false (qA ((trS x l p 0).sm 8)))::(26,.kmap false false (qA ((trS x l p 0).sm 9)))::(27,.kmap false false (qA ((trS x l p 0).sm 10)))::(28,.kmap false false (qA ((trS x l p 0).sm 11)))::(29,.kmap false false (qA ((trS x l p 0).sm 12)))::(30,.kmap false false (qA ((trS x l p 0).sm 13)))::(31,.kmap false false (qA ((trS x l p 0).sm 14)))::(32,.kmap false false (qA ((trS x l p 0).sm 15)))::(8,.cells [nq,ii 0,nq] 25)::(6,.pin plp)::(2,.rwin 10 x.rs.length (x.rs.flatMap Rul.vals))::[]):List (Nat×SObj)),x_1.1≠4∧x_1.1≠5:=AllP.mem ⟨(show 34≠4∧34≠5 by decide),(show 35≠4∧35≠5 by decide),(show 36≠4∧36≠5 by decide),(show 9≠4∧9≠5 by decide),(show 10≠4∧10≠5 by decide),(show 11≠4∧11≠5 by decide),(show 12≠4∧12≠5 by decide),(show 13≠4∧13≠5 by decide),(show 14≠4∧14≠5 by decide),(show 15≠4∧15≠5 by decide),(show 16≠4∧16≠5 by decide),(show 17≠4∧17≠5 by decide),(show 18≠4∧18≠5 by decide),(show 19≠4∧19≠5 by decide),(show 20≠4∧20≠5 by decide),(show 21≠4∧21≠5 by decide),(show 22≠4∧22≠5 by decide),(show 23≠4∧23≠5 by decide),(show 24≠4∧24≠5 by decide),(show 25≠4∧25≠5 by decide),(show 26≠4∧26≠5 by decide),(show 27≠4∧27≠5 by decide),(show 28≠4∧28≠5 by decide),(show 29≠4∧29≠5 by decide),(show 30≠4∧30≠5 by decide),(show 31≠4∧31≠5 by decide),(show 32≠4∧32≠5 by decide),(show 8≠4∧8≠5 by decide),(show 6≠4∧6≠5 by decide),(show 2≠4∧2≠5 by decide),trivial⟩
 have hrqe :∀i,rq [(35,4),(36,5)] i=if i=35 then 4 else if i=36 then 5 else i:=fun i=>by
  unfold rq
  rw[qP]
  by_cases e:i=35
  ·rw[if_pos e.symm,if_pos e]
  ·rw[if_neg (Ne.symm e),if_neg e,qP]
   by_cases e:i=36
   ·rw[if_pos e.symm,if_pos e]
   ·rw[if_neg (Ne.symm e),if_neg e];rfl
 refine Run.less (s':=⟨[(1,.opq 2),(3,.opq 35),(4,.opq 36),(13,.ptr 8 0),(15,.ptr 9 0),(20,.opq 34),(60,ii (K:Int)),(61,ii ((0:Nat):Int))],((34,.row 2 (trO x l p 0).length ((trO x l p 0).flatMap Evt.cells) 62)::(35,.rwin 2 (evR l 0).length ((evR l 0).flatMap Evt.vals))::(36,.rwin 3 (pzR p 0).length ((pzR p 0).flatMap Prz.vals))::(9,.cells [ii ((0:Nat):Int),.opq 10,ii x.n.inp,.opq 11,.opq 12,.mp 17,.mp 18,.mp 19,.mp 20,.mp 21,.mp 22,.mp 23,.mp 24,.mp 25,.mp 26,.mp 27,.mp 28,.mp 29,.mp 30,.mp 31,.mp 32,.opq 13,.opq 14,.opq 15,.mp 16] 96)::(10,.row 8 x.n.N.length ((x.n.N.flatMap Prm.vals).map .v) 60)::(11,.row 4 x.n.S.length ((x.n.S.flatMap Syn.vals).map .v) 55)::(12,.row 2 x.n.N.length ((trS x l p 0).st.flatMap Ste.cells) 139)::(13,.row 10 x.rs.length ((x.rs.flatMap Rul.vals).map .v) 36)::(14,.row 1 x.pl.length ((qD x.pl).map .v) 3)::(15,.row 4 x.pl.length ((trS x l p 0).m.flatMap Mrk.cells) 84)::(16,.kmap true true x.tot)::(17,.kmap false false (qA ((trS x l p 0).sm 0)))::(18,.kmap false false (qA ((trS x l p 0).sm 1)))::(19,.kmap false false (qA ((trS x l p 0).sm 2)))::(20,.kmap false false (qA ((trS x l p 0).sm 3)))::(21,.kmap false false (qA ((trS x l p 0).sm 4)))::(22,.kmap false false (qA ((trS x l p 0).sm 5)))::(23,.kmap false false (qA ((trS x l p 0).sm 6)))::(24,.kmap false false (qA ((trS x l p 0).sm 7)))::(25,.kmap false false (qA ((trS x l p 0).sm 8)))::(26,.kmap false false (qA ((trS x l p 0).sm 9)))::(27,.kmap false false (qA ((trS x l p 0).sm 10)))::(28,.kmap false false (qA ((trS x l p 0).sm 11)))::(29,.kmap false false (qA ((trS x l p 0).sm 12)))::(30,.kmap false false (qA ((trS x l p 0).sm 13)))::(31,.kmap false false (qA ((trS x l p 0).sm 14)))::(32,.kmap false false (qA ((trS x l p 0).sm 15)))::(8,.cells [nq,ii 0,nq] 25)::(6,.pin plp)::(2,.rwin 10 x.rs.length (x.rs.flatMap Rul.vals))::[]),37,[],_⟩) (rq [(35,4),(36,5)]) ⟨AllP.mem (by repeat first|exact trivial|refine⟨⟨rfl,ltb rfl⟩,?_⟩|refine⟨⟨rfl,trivial⟩,?_⟩),AllP.mem (by repeat first|exact trivial|refine⟨⟨rfl,ltb rfl,trivial⟩,?_⟩|refine⟨⟨rfl,ltb rfl,qE _ rfl⟩,?_⟩|refine⟨⟨congrArg some (ofx (o:=.row 2 (trO x l p 0).length ((trO x l p 0).flatMap Evt.cells) 62) (zT _ _)).symm,(show 34<37 by decide),zT _ _⟩,?_⟩|refine⟨⟨congrArg some (ofx (o:=.row 8 x.n.N.length ((x.n.N.flatMap Prm.vals).map .v) 60) (qL _ _)).symm,(show 10<37 by decide),qL _ _⟩,?_⟩|refine⟨⟨congrArg some (ofx (o:=.row 4 x.n.S.length ((x.n.S.flatMap Syn.vals).map .v) 55) (qL _ _)).symm,(show 11<37 by decide),qL _ _⟩,?_⟩|refine⟨⟨by rw[ofx (o:=.row 2 x.n.N.length ((trS x l p 0).st.flatMap Ste.cells) 139) (qS _ _)];rfl,(show 12<37 by decide),qS _ _⟩,?_⟩|refine⟨⟨congrArg some (ofx (o:=.row 10 x.rs.length ((x.rs.flatMap Rul.vals).map .v) 36) (qL _ _)).symm,(show 13<37 by decide),qL _ _⟩,?_⟩|refine⟨⟨congrArg some (ofx (o:=.row 1 x.pl.length ((qD x.pl).map .v) 3) (qL _ _)).symm,(show 14<37 by decide),qL _ _⟩,?_⟩|refine⟨⟨congrArg some (ofx (o:=.row 4 x.pl.length ((trS x l p 0).m.flatMap Mrk.cells) 84) (qN _ _)).symm,(show 15<37 by decide),qN _ _⟩,?_⟩|refine⟨⟨congrArg some (jK hcov (fun i hi=>zG (zA (B:=6) rfl hi))).symm,(show 6<37 by decide),pnx hcov rfl⟩,?_⟩),(fun x hx y hy h=> ?_),(fun p hp=>by have:=hLB p hp;exact⟨zG (zA (B:=6) rfl this),(show p.1<37 by omega)⟩),rfl,rfl⟩ ?_
 ·have h1:=hne45 x hx
  have h2:=hne45 y hy
  rw[hrqe,hrqe]
  split<;>split<;>(try split)<;>(try split)<;>omega
 refine Run.rD (T:=fun i=>[(1,.opq 2),(3,.opq 35),(4,.opq 36),(13,.ptr 8 0),(15,.ptr 9 0),(20,.opq 34),(60,ii (K:Int)),(61,ii ((i:Nat):Int))]) (M:=fun i=>((34,.row 2 (trO x l p i).length ((trO x l p i).flatMap Evt.cells) 62)::(35,.rwin 2 (evR l i).length ((evR l i).flatMap Evt.vals))::(36,.rwin 3 (pzR p i).length ((pzR p i).flatMap Prz.vals))::(9,.cells [ii ((i:Nat):Int),.opq 10,ii x.n.inp,.opq 11,.opq 12,.mp 17,.mp 18,.mp 19,.mp 20,.mp 21,.mp 22,.mp 23,.mp 24,.mp 25,.mp 26,.mp 27,.mp 28,.mp 29,.mp 30,.mp 31,.mp 32,.opq 13,.opq 14,.opq 15,.mp 16] 96)::(10,.row 8 x.n.N.length ((x.n.N.flatMap Prm.vals).map .v) 60)::(11,.row 4 x.n.S.length ((x.n.S.flatMap Syn.vals).map .v) 55)::(12,.row 2 x.n.N.length ((trS x l p i).st.flatMap Ste.cells) 139)::(13,.row 10 x.rs.length ((x.rs.flatMap Rul.vals).map .v) 36)::(14,.row 1 x.pl.length ((qD x.pl).map .v) 3)::(15,.row 4 x.pl.length ((trS x l p i).m.flatMap Mrk.cells) 84)::(16,.kmap true true x.tot)::(17,.kmap false false (qA ((trS x l p i).sm 0)))::(18,.kmap false false (qA ((trS x l p i).sm 1)))::(19,.kmap false false (qA ((trS x l p i).sm 2)))::(20,.kmap false false (qA ((trS x l p i).sm 3)))::(21,.kmap false false (qA ((trS x l p i).sm 4)))::(22,.kmap false false (qA ((trS x l p i).sm 5)))::(23,.kmap false false (qA ((trS x l p i).sm 6)))::(24,.kmap false false (qA ((trS x l p i).sm 7)))::(25,.kmap false false (qA ((trS x l p i).sm 8)))::(26,.kmap false false (qA ((trS x l p i).sm 9)))::(27,.kmap false false (qA ((trS x l p i).sm 10)))::(28,.kmap false false (qA ((trS x l p i).sm 11)))::(29,.kmap false false (qA ((trS x l p i).sm 12)))::(30,.kmap false false (qA ((trS x l p i).sm 13)))::(31,.kmap false false (qA ((trS x l p i).sm 14)))::(32,.kmap false false (qA ((trS x l p i).sm 15)))::(8,.cells [nq,ii 0,nq] 25)::(6,.pin plp)::(2,.rwin 10 x.rs.length (x.rs.flatMap Rul.vals))::[])) (fun _=>True) K trivial ?_ ?_
 ·intro i hi hJ ih
  refine Run.W2 hc ?_
  conv=>whnf
  obtain⟨X,hX⟩ :∃X,evR l i=X:=⟨_,rfl⟩
  obtain⟨Y,hY⟩ :∃Y,pzR p i=Y:=⟨_,rfl⟩
  obtain⟨O,hO⟩ :∃O,trO x l p i=O:=⟨_,rfl⟩
  obtain⟨s,hs⟩ :∃s,trS x l p i=s:=⟨_,rfl⟩
  have hXl:X.length≤65536:=by rw[←hX];exact Nat.le_trans (w9 l i) hll
  have hYl:Y.length≤65536:=by rw[←hY];exact Nat.le_trans (pzR_len p i) hpl
  have hYr :∀z∈Y,0≤z.id∧z.id<(x.rs.length:Int) ∧ -128≤z.val∧z.val≤127:=fun z hz=>hpz z (pzR_mem p i z (by rw[hY];exact hz))
  have hst:s.tick=(i:Int):=by rw[←hs];exact tB x l p i (by omega)
  have hinv:LInv x s:=by rw[←hs];exact gD hx l p i (by omega)
  have hnl:=nAt_le ((i:Nat):Int) X
  have hnp:=nPz_le ((i:Nat):Int) Y
  rw[hX,hY,hO,hs]
  rw[decide_eq_true (show((i:Nat):Int)<(K:Int)by omega)]
  conv=>whnf
  refine Run.nils (T':=[(1,.opq 2),(3,.opq 35),(4,.opq 36),(13,.ptr 8 0),(15,.ptr 9 0),(20,.opq 34),(60,ii (K:Int)),(61,ii ((i:Nat):Int)),(21,ii ((i:Nat):Int)),(22,.opq 37)]) (M':=((37,.row 1 (zF X 0).length ((zF X 0).map fun x=>ii x) 3)::(34,.row 2 O.length (O.flatMap Evt.cells) 62)::(35,.rwin 2 (X.drop 0).length ((X.drop 0).flatMap Evt.vals))::(36,.rwin 3 Y.length (Y.flatMap Prz.vals))::(9,.cells [ii ((i:Nat):Int),.opq 10,ii x.n.inp,.opq 11,.opq 12,.mp 17,.mp 18,.mp 19,.mp 20,.mp 21,.mp 22,.mp 23,.mp 24,.mp 25,.mp 26,.mp 27,.mp 28,.mp 29,.mp 30,.mp 31,.mp 32,.opq 13,.opq 14,.opq 15,.mp 16] 96)::(10,.row 8 x.n.N.length ((x.n.N.flatMap Prm.vals).map .v) 60)::(11,.row 4 x.n.S.length ((x.n.S.flatMap Syn.vals).map .v) 55)::(12,.row 2 x.n.N.length (s.st.flatMap Ste.cells) 139)::(13,.row 10 x.rs.length ((x.rs.flatMap Rul.vals).map .v) 36)::(14,.row 1 x.pl.length ((qD x.pl).map .v) 3)::(15,.row 4 x.pl.length (s.m.flatMap Mrk.cells) 84)::(16,.kmap true true x.tot)::(17,.kmap false false (qA (s.sm 0)))::(18,.kmap false false (qA (s.sm 1)))::(19,.kmap false false (qA (s.sm 2)))::(20,.kmap false false (qA (s.sm 3)))::(21,.kmap false false (qA (s.sm 4)))::(22,.kmap false false (qA (s.sm 5)))::(23,.kmap false false (qA (s.sm 6)))::(24,.kmap false false (qA (s.sm 7)))::(25,.kmap false false (qA (s.sm 8)))::(26,.kmap false false (qA (s.sm 9)))::(27,.kmap false false (qA (s.sm 10)))::(28,.kmap false false (qA (s.sm 11)))::(29,.kmap false false (qA (s.sm 12)))::(30,.kmap false false (qA (s.sm 13)))::(31,.kmap false false (qA (s.sm 14)))::(32,.kmap false false (qA (s.sm 15)))::(8,.cells [nq,ii 0,nq] 25)::(6,.pin plp)::(2,.rwin 10 x.rs.length (x.rs.flatMap Rul.vals))::[])) 1 (fun _=>.row 1 0 [] 3) (fun _ _=>.inl ⟨_,_,rfl⟩) (by repeat first|exact trivial|refine⟨⟨_,rfl,.inl rfl⟩,?_⟩|refine⟨⟨_,rfl,.inr (.inl ⟨rfl,0,by decide,rfl⟩)⟩,?_⟩) (by repeat first|exact trivial|refine⟨.inl ⟨0,by decide,rfl⟩,?_⟩|refine⟨.inr ⟨_,rfl,.inl rfl⟩,?_⟩) ?_
  refine Run.rD (T:=fun _=>[(1,.opq 2),(3,.opq 35),(4,.opq 36),(13,.ptr 8 0),(15,.ptr 9 0),(20,.opq 34),(60,ii (K:Int)),(61,ii ((i:Nat):Int)),(21,ii ((i:Nat):Int)),(22,.opq 37)]) (M:=fun j=>((37,.row 1 (zF X j).length ((zF X j).map fun x=>ii x) 3)::(34,.row 2 O.length (O.flatMap Evt.cells) 62)::(35,.rwin 2 (X.drop j).length ((X.drop j).flatMap Evt.vals))::(36,.rwin 3 Y.length (Y.flatMap Prz.vals))::(9,.cells [ii ((i:Nat):Int),.opq 10,ii x.n.inp,.opq 11,.opq 12,.mp 17,.mp 18,.mp 19,.mp 20,.mp 21,.mp 22,.mp 23,.mp 24,.mp 25,.mp 26,.mp 27,.mp 28,.mp 29,.mp 30,.mp 31,.mp 32,.opq 13,.opq 14,.opq 15,.mp 16] 96)::(10,.row 8 x.n.N.length ((x.n.N.flatMap Prm.vals).map .v) 60)::(11,.row 4 x.n.S.length ((x.n.S.flatMap Syn.vals).map .v) 55)::(12,.row 2 x.n.N.length (s.st.flatMap Ste.cells) 139)::(13,.row 10 x.rs.length ((x.rs.flatMap Rul.vals).map .v) 36)::(14,.row 1 x.pl.length ((qD x.pl).map .v) 3)::(15,.row 4 x.pl.length (s.m.flatMap Mrk.cells) 84)::(16,.kmap true true x.tot)::(17,.kmap false false (qA (s.sm 0)))::(18,.kmap false false (qA (s.sm 1)))::(19,.kmap false false (qA (s.sm 2)))::(20,.kmap false false (qA (s.sm 3)))::(21,.kmap false false (qA (s.sm 4)))::(22,.kmap false false (qA (s.sm 5)))::(23,.kmap false false (qA (s.sm 6)))::(24,.kmap false false (qA (s.sm 7)))::(25,.kmap false false (qA (s.sm 8)))::(26,.kmap false false (qA (s.sm 9)))::(27,.kmap false false (qA (s.sm 10)))::(28,.kmap false false (qA (s.sm 11)))::(29,.kmap false false (qA (s.sm 12)))::(30,.kmap false false (qA (s.sm 13)))::(31,.kmap false false (qA (s.sm 14)))::(32,.kmap false false (qA (s.sm 15)))::(8,.cells [nq,ii 0,nq] 25)::(6,.pin plp)::(2,.rwin 10 x.rs.length (x.rs.flatMap Rul.vals))::[])) (fun _=>True) (nAt ((i:Nat):Int) X) trivial ?_ ?_
  ·intro j hj _ ih2
   obtain⟨hj1,hj2⟩:=nAt_lt hj
   have h0:0<(X.drop j).length:=by rw[List.length_drop];omega
   have e0:(X.drop j)[0]=X[j]:=by simp
   have hil:=vI (show j≤X.length by omega)
   refine Run.W2 hc ?_
   conv=>whnf
   rw[decide_eq_true (show(0:Int)<((X.drop j).length:Int)by omega)]
   conv=>whnf
   refine⟨by omega,?_⟩
   conv=>whnf
   rw[q9 (f:=Evt.vals) (l:=X.drop j) (c:=.int .i64 (X.drop j)[0].tick) 0 0 rfl rfl rfl rfl Evt.vlen rfl h0 (by decide) rfl]
   conv=>whnf
   rw[e0,hj2,show(((i:Nat):Int)==((i:Nat):Int))=true by simp]
   conv=>whnf
   refine Run.draw (hc w L0 none nofun) 11 ?_
   rw[show qG 0 11=qG 0 3++(qG 3 2++(qG 5 2++(qG 7 2++qG 9 2)))from rfl]
   simp only[qV]
   conv=>whnf
   refine⟨by omega,?_⟩
   conv=>whnf
   rw[q9 (f:=Evt.vals) (l:=X.drop j) (c:=.int .i64 (X.drop j)[0].id) 0 1 rfl rfl rfl rfl Evt.vlen rfl h0 (by decide) rfl]
   conv=>whnf
   rw[e0]
   conv=>whnf
   refine⟨by omega,?_⟩
   conv=>whnf
   rw[u0 1 rfl rfl rfl rfl rfl rfl (by omega),yQ Evt.vlen,List.drop_drop,show(X.drop j).length-1=(X.drop (j+1)).length by simp;omega]
   conv=>whnf
   refine⟨by kernel_rfl,?_⟩
   refine Run.W2 hc ?_
   conv=>whnf
   refine Run.rC (T':=[(1,.opq 2),(3,.opq 35),(4,.opq 36),(13,.ptr 8 0),(15,.ptr 9 0),(20,.opq 34),(60,ii (K:Int)),(61,ii ((i:Nat):Int)),(21,ii ((i:Nat):Int)),(22,.opq 37)]) (M':=((37,.row 1 (zF X (j+1)).length ((zF X (j+1)).map fun x=>ii x) 3)::(34,.row 2 O.length (O.flatMap Evt.cells) 62)::(35,.rwin 2 (X.drop (j+1)).length ((X.drop (j+1)).flatMap Evt.vals))::(36,.rwin 3 Y.length (Y.flatMap Prz.vals))::(9,.cells [ii ((i:Nat):Int),.opq 10,ii x.n.inp,.opq 11,.opq 12,.mp 17,.mp 18,.mp 19,.mp 20,.mp 21,.mp 22,.mp 23,.mp 24,.mp 25,.mp 26,.mp 27,.mp 28,.mp 29,.mp 30,.mp 31,.mp 32,.opq 13,.opq 14,.opq 15,.mp 16] 96)::(10,.row 8 x.n.N.length ((x.n.N.flatMap Prm.vals).map .v) 60)::(11,.row 4 x.n.S.length ((x.n.S.flatMap Syn.vals).map .v) 55)::(12,.row 2 x.n.N.length (s.st.flatMap Ste.cells) 139)::(13,.row 10 x.rs.length ((x.rs.flatMap Rul.vals).map .v) 36)::(14,.row 1 x.pl.length ((qD x.pl).map .v) 3)::(15,.row 4 x.pl.length (s.m.flatMap Mrk.cells) 84)::(16,.kmap true true x.tot)::(17,.kmap false false (qA (s.sm 0)))::(18,.kmap false false (qA (s.sm 1)))::(19,.kmap false false (qA (s.sm 2)))::(20,.kmap false false (qA (s.sm 3)))::(21,.kmap false false (qA (s.sm 4)))::(22,.kmap false false (qA (s.sm 5)))::(23,.kmap false false (qA (s.sm 6)))::(24,.kmap false false (qA (s.sm 7)))::(25,.kmap false false (qA (s.sm 8)))::(26,.kmap false false (qA (s.sm 9)))::(27,.kmap false false (qA (s.sm 10)))::(28,.kmap false false (qA (s.sm 11)))::(29,.kmap false false (qA (s.sm 12)))::(30,.kmap false false (qA (s.sm 13)))::(31,.kmap false false (qA (s.sm 14)))::(32,.kmap false false (qA (s.sm 15)))::(8,.cells [nq,ii 0,nq] 25)::(6,.pin plp)::(2,.rwin 10 x.rs.length (x.rs.flatMap Rul.vals))::[])) (rq [(37,44),(44,37),(35,46),(46,35)]) 38 ?_ ?_ ?_ ?_ (ih2 trivial)
   ·intro i hi j hj hne he
    have inv :∀i,i<38→rq [(37,44),(44,37),(35,46),(46,35)] (rq [(37,44),(44,37),(35,46),(46,35)] i)=i:=by decide
    exact hne (by rw[←inv i hi,he,inv j hj])
   ·exact(by repeat first|exact trivial|refine⟨⟨rfl,ltb rfl⟩,?_⟩|refine⟨⟨rfl,trivial⟩,?_⟩)
   ·exact(by repeat first|exact trivial|refine⟨⟨rfl,by omega,Os.h _⟩,?_⟩|refine⟨⟨rfl,by omega,qE _ rfl⟩,?_⟩|refine⟨⟨by rw[ofx (o:=.row 1 (zF X (j+1)).length ((zF X (j+1)).map fun x=>ii x) 3) (qB _ _),tM hj1,List.length_append,List.map_append];rfl,by omega,Os.h _⟩,?_⟩|refine⟨⟨congrArg some (ofx (o:=.row 2 O.length (O.flatMap Evt.cells) 62) (zT _ _)).symm,by omega,Os.h _⟩,?_⟩|refine⟨⟨congrArg some (ofx (o:=.row 8 x.n.N.length ((x.n.N.flatMap Prm.vals).map .v) 60) (qL _ _)).symm,by omega,Os.h _⟩,?_⟩|refine⟨⟨congrArg some (ofx (o:=.row 4 x.n.S.length ((x.n.S.flatMap Syn.vals).map .v) 55) (qL _ _)).symm,by omega,Os.h _⟩,?_⟩|refine⟨⟨congrArg some (ofx (o:=.row 2 x.n.N.length (s.st.flatMap Ste.cells) 139) (qS _ _)).symm,by omega,Os.h _⟩,?_⟩|refine⟨⟨congrArg some (ofx (o:=.row 10 x.rs.length ((x.rs.flatMap Rul.vals).map .v) 36) (qL _ _)).symm,by omega,Os.h _⟩,?_⟩|refine⟨⟨congrArg some (ofx (o:=.row 1 x.pl.length ((qD x.pl).map .v) 3) (qL _ _)).symm,by omega,Os.h _⟩,?_⟩|refine⟨⟨congrArg some (ofx (o:=.row 4 x.pl.length (s.m.flatMap Mrk.cells) 84) (qN _ _)).symm,by omega,Os.h _⟩,?_⟩|refine⟨⟨congrArg some (jK hcov (fun i hi=>zG (zA (B:=6) rfl hi))).symm,by omega,pnx hcov rfl⟩,?_⟩)
   ·intro p hp
    have:=hLB p hp;exact⟨zG (zA (B:=6) rfl this),by omega⟩
  ·intro _
   apply joinL [(1,.opq 2),(3,.opq 35),(4,.opq 36),(13,.ptr 8 0),(15,.ptr 9 0),(20,.opq 34),(60,ii (K:Int)),(61,ii ((i:Nat):Int)),(21,ii ((i:Nat):Int)),(22,.opq 37)] ((37,.row 1 (zF X (nAt ((i:Nat):Int) X)).length ((zF X (nAt ((i:Nat):Int) X)).map fun x=>ii x) 3)::(34,.row 2 O.length (O.flatMap Evt.cells) 62)::(35,.rwin 2 (X.drop (nAt ((i:Nat):Int) X)).length ((X.drop (nAt ((i:Nat):Int) X)).flatMap Evt.vals))::(36,.rwin 3 Y.length (Y.flatMap Prz.vals))::(9,.cells [ii ((i:Nat):Int),.opq 10,ii x.n.inp,.opq 11,.opq 12,.mp 17,.mp 18,.mp 19,.mp 20,.mp 21,.mp 22,.mp 23,.mp 24,.mp 25,.mp 26,.mp 27,.mp 28,.mp 29,.mp 30,.mp 31,.mp 32,.opq 13,.opq 14,.opq 15,.mp 16] 96)::(10,.row 8 x.n.N.length ((x.n.N.flatMap Prm.vals).map .v) 60)::(11,.row 4 x.n.S.length ((x.n.S.flatMap Syn.vals).map .v) 55)::(12,.row 2 x.n.N.length (s.st.flatMap Ste.cells) 139)::(13,.row 10 x.rs.length ((x.rs.flatMap Rul.vals).map .v) 36)::(14,.row 1 x.pl.length ((qD x.pl).map .v) 3)::(15,.row 4 x.pl.length (s.m.flatMap Mrk.cells) 84)::(16,.kmap true true x.tot)::(17,.kmap false false (qA (s.sm 0)))::(18,.kmap false false (qA (s.sm 1)))::(19,.kmap false false (qA (s.sm 2)))::(20,.kmap false false (qA (s.sm 3)))::(21,.kmap false false (qA (s.sm 4)))::(22,.kmap false false (qA (s.sm 5)))::(23,.kmap false false (qA (s.sm 6)))::(24,.kmap false false (qA (s.sm 7)))::(25,.kmap false false (qA (s.sm 8)))::(26,.kmap false false (qA (s.sm 9)))::(27,.kmap false false (qA (s.sm 10)))::(28,.kmap false false (qA (s.sm 11)))::(29,.kmap false false (qA (s.sm 12)))::(30,.kmap false false (qA (s.sm 13)))::(31,.kmap false false (qA (s.sm 14)))::(32,.kmap false false (qA (s.sm 15)))::(8,.cells [nq,ii 0,nq] 25)::(6,.pin plp)::(2,.rwin 10 x.rs.length (x.rs.flatMap Rul.vals))::[]) 38
   ·intro tail
    refine Run.s0 (hc w L0 none nofun) 18 _ ?_
    conv=>whnf
    by_cases hlt:(nAt ((i:Nat):Int) X)<X.length
    ·have h0:0<(X.drop (nAt ((i:Nat):Int) X)).length:=by rw[List.length_drop];omega
     have e0:(X.drop (nAt ((i:Nat):Int) X))[0]=X[(nAt ((i:Nat):Int) X)]:=by simp
     have hne:=nAt_end hlt
     rw[decide_eq_true (show(0:Int)<((X.drop (nAt ((i:Nat):Int) X)).length:Int)by omega)]
     conv=>whnf
     refine⟨by omega,?_⟩
     conv=>whnf
     rw[q9 (f:=Evt.vals) (l:=X.drop (nAt ((i:Nat):Int) X)) (c:=.int .i64 (X.drop (nAt ((i:Nat):Int) X))[0].tick) 0 0 rfl rfl rfl rfl Evt.vlen rfl h0 (by decide) rfl]
     conv=>whnf
     rw[e0,show(X[(nAt ((i:Nat):Int) X)].tick==((i:Nat):Int))=false by simpa using hne]
     conv=>whnf
     exact Run.tH tail (by repeat first|exact trivial|refine⟨⟨rfl,ltb rfl⟩,?_⟩|refine⟨⟨rfl,trivial⟩,?_⟩) (by repeat first|exact trivial|refine⟨⟨rfl,by omega,Os.h _⟩,?_⟩|refine⟨⟨rfl,by omega,qE _ rfl⟩,?_⟩|refine⟨⟨rfl,by omega,pnx hcov rfl⟩,?_⟩) (lbx hLB rfl)
    ·have h0:(X.drop (nAt ((i:Nat):Int) X)).length=0:=by rw[List.length_drop];omega
     rw[decide_eq_false (show ¬(0:Int)<((X.drop (nAt ((i:Nat):Int) X)).length:Int)by omega)]
     conv=>whnf
     exact Run.tH tail (by repeat first|exact trivial|refine⟨⟨rfl,ltb rfl⟩,?_⟩|refine⟨⟨rfl,trivial⟩,?_⟩) (by repeat first|exact trivial|refine⟨⟨rfl,by omega,Os.h _⟩,?_⟩|refine⟨⟨rfl,by omega,qE _ rfl⟩,?_⟩|refine⟨⟨rfl,by omega,pnx hcov rfl⟩,?_⟩) (lbx hLB rfl)
   ·refine Run.W2 hc ?_
    conv=>whnf
    rw[gN (m:=x.rs.length) rfl rfl rfl rfl rfl rfl (by omega) (by omega),show List.replicate x.rs.length (SV.v (.int .i64 0))=(rwY x.rs.length Y 0).map fun x=>ii x by simp[rwY,ii]]
    conv=>whnf
    refine Run.lJ (T:=fun _=>[(1,.opq 2),(3,.opq 35),(4,.opq 36),(13,.ptr 8 0),(15,.ptr 9 0),(20,.opq 34),(60,ii (K:Int)),(61,ii ((i:Nat):Int)),(21,ii ((i:Nat):Int)),(22,.opq 37),(23,.opq 38)]) (M:=fun j=>((38,.row 1 x.rs.length ((rwY x.rs.length Y j).map fun x=>ii x) 3)::(37,.row 1 (zF X (nAt ((i:Nat):Int) X)).length ((zF X (nAt ((i:Nat):Int) X)).map fun x=>ii x) 3)::(34,.row 2 O.length (O.flatMap Evt.cells) 62)::(35,.rwin 2 (X.drop (nAt ((i:Nat):Int) X)).length ((X.drop (nAt ((i:Nat):Int) X)).flatMap Evt.vals))::(36,.rwin 3 (Y.drop j).length ((Y.drop j).flatMap Prz.vals))::(9,.cells [ii ((i:Nat):Int),.opq 10,ii x.n.inp,.opq 11,.opq 12,.mp 17,.mp 18,.mp 19,.mp 20,.mp 21,.mp 22,.mp 23,.mp 24,.mp 25,.mp 26,.mp 27,.mp 28,.mp 29,.mp 30,.mp 31,.mp 32,.opq 13,.opq 14,.opq 15,.mp 16] 96)::(10,.row 8 x.n.N.length ((x.n.N.flatMap Prm.vals).map .v) 60)::(11,.row 4 x.n.S.length ((x.n.S.flatMap Syn.vals).map .v) 55)::(12,.row 2 x.n.N.length (s.st.flatMap Ste.cells) 139)::(13,.row 10 x.rs.length ((x.rs.flatMap Rul.vals).map .v) 36)::(14,.row 1 x.pl.length ((qD x.pl).map .v) 3)::(15,.row 4 x.pl.length (s.m.flatMap Mrk.cells) 84)::(16,.kmap true true x.tot)::(17,.kmap false false (qA (s.sm 0)))::(18,.kmap false false (qA (s.sm 1)))::(19,.kmap false false (qA (s.sm 2)))::(20,.kmap false false (qA (s.sm 3)))::(21,.kmap false false (qA (s.sm 4)))::(22,.kmap false false (qA (s.sm 5)))::(23,.kmap false false (qA (s.sm 6)))::(24,.kmap false false (qA (s.sm 7)))::(25,.kmap false false (qA (s.sm 8)))::(26,.kmap false false (qA (s.sm 9)))::(27,.kmap false false (qA (s.sm 10)))::(28,.kmap false false (qA (s.sm 11)))::(29,.kmap false false (qA (s.sm 12)))::(30,.kmap false false (qA (s.sm 13)))::(31,.kmap false false (qA (s.sm 14)))::(32,.kmap false false (qA (s.sm 15)))::(8,.cells [nq,ii 0,nq] 25)::(6,.pin plp)::(2,.rwin 10 x.rs.length (x.rs.flatMap Rul.vals))::[])) 39 (fun _=>True) (nPz ((i:Nat):Int) Y) (by repeat first|exact trivial|refine⟨⟨rfl,ltb rfl⟩,?_⟩|refine⟨⟨rfl,trivial⟩,?_⟩) (by repeat first|exact trivial|refine⟨⟨rfl,by omega,Os.h _⟩,?_⟩|refine⟨⟨rfl,by omega,qE _ rfl⟩,?_⟩|refine⟨⟨rfl,by omega,pnx hcov rfl⟩,?_⟩) (lbx hLB rfl) trivial ?_ ?_
    ·intro j hj _ ih2
     obtain⟨hj1,hj2⟩:=nPz_lt hj
     have h0:0<(Y.drop j).length:=by rw[List.length_drop];omega
     have e0:(Y.drop j)[0]=Y[j]:=by simp
     obtain⟨hr0,hr1,hv0,hv1⟩:=hYr Y[j] (List.getElem_mem hj1)
     have hrl:=rwY_len x.rs.length Y j
     refine Run.W2 hc ?_
     conv=>whnf
     rw[decide_eq_true (show(0:Int)<((Y.drop j).length:Int)by omega)]
     conv=>whnf
     refine⟨by omega,?_⟩
     conv=>whnf
     rw[q9 (f:=Prz.vals) (l:=Y.drop j) (c:=.int .i64 (Y.drop j)[0].tick) 0 0 rfl rfl rfl rfl Prz.vlen rfl h0 (by decide) rfl]
     conv=>whnf
     rw[e0,hj2,show(((i:Nat):Int)==((i:Nat):Int))=true by simp]
     conv=>whnf
     refine Run.draw (hc w L0 none nofun) 14 ?_
     rw[show qG 0 14=qG 0 3++(qG 3 2++(qG 5 2++(qG 7 2++(qG 9 2++(qG 11 1++(qG 12 1++qG 13 1))))))from rfl]
     simp only[qV]
     conv=>whnf
     refine⟨by omega,?_⟩
     conv=>whnf
     rw[q9 (f:=Prz.vals) (l:=Y.drop j) (c:=.int .i64 (Y.drop j)[0].id) 0 1 rfl rfl rfl rfl Prz.vlen rfl h0 (by decide) rfl]
     conv=>whnf
     rw[e0]
     conv=>whnf
     refine⟨by omega,?_⟩
     conv=>whnf
     rw[q9 (f:=Prz.vals) (l:=Y.drop j) (c:=.int .i64 (Y.drop j)[0].val) 0 2 rfl rfl rfl rfl Prz.vlen rfl h0 (by decide) rfl]
     conv=>whnf
     rw[e0]
     conv=>whnf
     rw[u0 1 rfl rfl rfl rfl rfl rfl (by omega),yQ Prz.vlen,List.drop_drop,show(Y.drop j).length-1=(Y.drop (j+1)).length by simp;omega]
     conv=>whnf
     refine⟨by omega,?_⟩
     conv=>whnf
     rw[uJ (v:=ii Y[j].val) Y[j].id.toNat rfl rfl rfl rfl rfl (by rw[j9,Nat.mul_one]) (by rw[List.length_map];omega) rfl rfl,show((rwY x.rs.length Y j).map fun x=>ii x).set Y[j].id.toNat (ii Y[j].val)=(rwY x.rs.length Y (j+1)).map fun x=>ii x by rw[rwY_succ hj1,List.map_set]]
     conv=>whnf
     refine⟨by kernel_rfl,?_⟩
     refine Run.W2 hc ?_
     conv=>whnf
     refine Run.rC (T':=[(1,.opq 2),(3,.opq 35),(4,.opq 36),(13,.ptr 8 0),(15,.ptr 9 0),(20,.opq 34),(60,ii (K:Int)),(61,ii ((i:Nat):Int)),(21,ii ((i:Nat):Int)),(22,.opq 37),(23,.opq 38)]) (M':=((38,.row 1 x.rs.length ((rwY x.rs.length Y (j+1)).map fun x=>ii x) 3)::(37,.row 1 (zF X (nAt ((i:Nat):Int) X)).length ((zF X (nAt ((i:Nat):Int) X)).map fun x=>ii x) 3)::(34,.row 2 O.length (O.flatMap Evt.cells) 62)::(35,.rwin 2 (X.drop (nAt ((i:Nat):Int) X)).length ((X.drop (nAt ((i:Nat):Int) X)).flatMap Evt.vals))::(36,.rwin 3 (Y.drop (j+1)).length ((Y.drop (j+1)).flatMap Prz.vals))::(9,.cells [ii ((i:Nat):Int),.opq 10,ii x.n.inp,.opq 11,.opq 12,.mp 17,.mp 18,.mp 19,.mp 20,.mp 21,.mp 22,.mp 23,.mp 24,.mp 25,.mp 26,.mp 27,.mp 28,.mp 29,.mp 30,.mp 31,.mp 32,.opq 13,.opq 14,.opq 15,.mp 16] 96)::(10,.row 8 x.n.N.length ((x.n.N.flatMap Prm.vals).map .v) 60)::(11,.row 4 x.n.S.length ((x.n.S.flatMap Syn.vals).map .v) 55)::(12,.row 2 x.n.N.length (s.st.flatMap Ste.cells) 139)::(13,.row 10 x.rs.length ((x.rs.flatMap Rul.vals).map .v) 36)::(14,.row 1 x.pl.length ((qD x.pl).map .v) 3)::(15,.row 4 x.pl.length (s.m.flatMap Mrk.cells) 84)::(16,.kmap true true x.tot)::(17,.kmap false false (qA (s.sm 0)))::(18,.kmap false false (qA (s.sm 1)))::(19,.kmap false false (qA (s.sm 2)))::(20,.kmap false false (qA (s.sm 3)))::(21,.kmap false false (qA (s.sm 4)))::(22,.kmap false false (qA (s.sm 5)))::(23,.kmap false false (qA (s.sm 6)))::(24,.kmap false false (qA (s.sm 7)))::(25,.kmap false false (qA (s.sm 8)))::(26,.kmap false false (qA (s.sm 9)))::(27,.kmap false false (qA (s.sm 10)))::(28,.kmap false false (qA (s.sm 11)))::(29,.kmap false false (qA (s.sm 12)))::(30,.kmap false false (qA (s.sm 13)))::(31,.kmap false false (qA (s.sm 14)))::(32,.kmap false false (qA (s.sm 15)))::(8,.cells [nq,ii 0,nq] 25)::(6,.pin plp)::(2,.rwin 10 x.rs.length (x.rs.flatMap Rul.vals))::[])) (rq [(36,49),(49,36)]) 39 ?_ ?_ ?_ ?_ (ih2 trivial)
     ·intro i hi j hj hne he
      have inv :∀i,i<39→rq [(36,49),(49,36)] (rq [(36,49),(49,36)] i)=i:=by decide
      exact hne (by rw[←inv i hi,he,inv j hj])
     ·exact(by repeat first|exact trivial|refine⟨⟨rfl,ltb rfl⟩,?_⟩|refine⟨⟨rfl,trivial⟩,?_⟩)
     ·exact(by repeat first|exact trivial|refine⟨⟨rfl,by omega,Os.h _⟩,?_⟩|refine⟨⟨rfl,by omega,qE _ rfl⟩,?_⟩|refine⟨⟨congrArg some (ofx (o:=.row 1 x.rs.length ((rwY x.rs.length Y (j+1)).map fun x=>ii x) 3) (qB _ _)).symm,by omega,Os.h _⟩,?_⟩|refine⟨⟨congrArg some (ofx (o:=.row 1 (zF X (nAt ((i:Nat):Int) X)).length ((zF X (nAt ((i:Nat):Int) X)).map fun x=>ii x) 3) (qB _ _)).symm,by omega,Os.h _⟩,?_⟩|refine⟨⟨congrArg some (ofx (o:=.row 2 O.length (O.flatMap Evt.cells) 62) (zT _ _)).symm,by omega,Os.h _⟩,?_⟩|refine⟨⟨congrArg some (ofx (o:=.row 8 x.n.N.length ((x.n.N.flatMap Prm.vals).map .v) 60) (qL _ _)).symm,by omega,Os.h _⟩,?_⟩|refine⟨⟨congrArg some (ofx (o:=.row 4 x.n.S.length ((x.n.S.flatMap Syn.vals).map .v) 55) (qL _ _)).symm,by omega,Os.h _⟩,?_⟩|refine⟨⟨congrArg some (ofx (o:=.row 2 x.n.N.length (s.st.flatMap Ste.cells) 139) (qS _ _)).symm,by omega,Os.h _⟩,?_⟩|refine⟨⟨congrArg some (ofx (o:=.row 10 x.rs.length ((x.rs.flatMap Rul.vals).map .v) 36) (qL _ _)).symm,by omega,Os.h _⟩,?_⟩|refine⟨⟨congrArg some (ofx (o:=.row 1 x.pl.length ((qD x.pl).map .v) 3) (qL _ _)).symm,by omega,Os.h _⟩,?_⟩|refine⟨⟨congrArg some (ofx (o:=.row 4 x.pl.length (s.m.flatMap Mrk.cells) 84) (qN _ _)).symm,by omega,Os.h _⟩,?_⟩|refine⟨⟨congrArg some (jK hcov (fun i hi=>zG (zA (B:=6) rfl hi))).symm,by omega,pnx hcov rfl⟩,?_⟩)
     ·intro p hp
      have:=hLB p hp;exact⟨zG (zA (B:=6) rfl this),by omega⟩
    ·intro _
     apply joinL [(1,.opq 2),(3,.opq 35),(4,.opq 36),(13,.ptr 8 0),(15,.ptr 9 0),(20,.opq 34),(60,ii (K:Int)),(61,ii ((i:Nat):Int)),(21,ii ((i:Nat):Int)),(22,.opq 37),(23,.opq 38)] ((38,.row 1 x.rs.length ((rwY x.rs.length Y (nPz ((i:Nat):Int) Y)).map fun x=>ii x) 3)::(37,.row 1 (zF X (nAt ((i:Nat):Int) X)).length ((zF X (nAt ((i:Nat):Int) X)).map fun x=>ii x) 3)::(34,.row 2 O.length (O.flatMap Evt.cells) 62)::(35,.rwin 2 (X.drop (nAt ((i:Nat):Int) X)).length ((X.drop (nAt ((i:Nat):Int) X)).flatMap Evt.vals))::(36,.rwin 3 (Y.drop (nPz ((i:Nat):Int) Y)).length ((Y.drop (nPz ((i:Nat):Int) Y)).flatMap Prz.vals))::(9,.cells [ii ((i:Nat):Int),.opq 10,ii x.n.inp,.opq 11,.opq 12,.mp 17,.mp 18,.mp 19,.mp 20,.mp 21,.mp 22,.mp 23,.mp 24,.mp 25,.mp 26,.mp 27,.mp 28,.mp 29,.mp 30,.mp 31,.mp 32,.opq 13,.opq 14,.opq 15,.mp 16] 96)::(10,.row 8 x.n.N.length ((x.n.N.flatMap Prm.vals).map .v) 60)::(11,.row 4 x.n.S.length ((x.n.S.flatMap Syn.vals).map .v) 55)::(12,.row 2 x.n.N.length (s.st.flatMap Ste.cells) 139)::(13,.row 10 x.rs.length ((x.rs.flatMap Rul.vals).map .v) 36)::(14,.row 1 x.pl.length ((qD x.pl).map .v) 3)::(15,.row 4 x.pl.length (s.m.flatMap Mrk.cells) 84)::(16,.kmap true true x.tot)::(17,.kmap false false (qA (s.sm 0)))::(18,.kmap false false (qA (s.sm 1)))::(19,.kmap false false (qA (s.sm 2)))::(20,.kmap false false (qA (s.sm 3)))::(21,.kmap false false (qA (s.sm 4)))::(22,.kmap false false (qA (s.sm 5)))::(23,.kmap false false (qA (s.sm 6)))::(24,.kmap false false (qA (s.sm 7)))::(25,.kmap false false (qA (s.sm 8)))::(26,.kmap false false (qA (s.sm 9)))::(27,.kmap false false (qA (s.sm 10)))::(28,.kmap false false (qA (s.sm 11)))::(29,.kmap false false (qA (s.sm 12)))::(30,.kmap false false (qA (s.sm 13)))::(31,.kmap false false (qA (s.sm 14)))::(32,.kmap false false (qA (s.sm 15)))::(8,.cells [nq,ii 0,nq] 25)::(6,.pin plp)::(2,.rwin 10 x.rs.length (x.rs.flatMap Rul.vals))::[]) 39
     ·intro tail
      refine Run.s0 (hc w L0 none nofun) 18 _ ?_
      conv=>whnf
      by_cases hlt:(nPz ((i:Nat):Int) Y)<Y.length
      ·have h0:0<(Y.drop (nPz ((i:Nat):Int) Y)).length:=by rw[List.length_drop];omega
       have e0:(Y.drop (nPz ((i:Nat):Int) Y))[0]=Y[(nPz ((i:Nat):Int) Y)]:=by simp
       have hne:=nPz_end hlt
       rw[decide_eq_true (show(0:Int)<((Y.drop (nPz ((i:Nat):Int) Y)).length:Int)by omega)]
       conv=>whnf
       refine⟨by omega,?_⟩
       conv=>whnf
       rw[q9 (f:=Prz.vals) (l:=Y.drop (nPz ((i:Nat):Int) Y)) (c:=.int .i64 (Y.drop (nPz ((i:Nat):Int) Y))[0].tick) 0 0 rfl rfl rfl rfl Prz.vlen rfl h0 (by decide) rfl]
       conv=>whnf
       rw[e0,show(Y[(nPz ((i:Nat):Int) Y)].tick==((i:Nat):Int))=false by simpa using hne]
       conv=>whnf
       exact Run.tH tail (by repeat first|exact trivial|refine⟨⟨rfl,ltb rfl⟩,?_⟩|refine⟨⟨rfl,trivial⟩,?_⟩) (by repeat first|exact trivial|refine⟨⟨rfl,by omega,Os.h _⟩,?_⟩|refine⟨⟨rfl,by omega,qE _ rfl⟩,?_⟩|refine⟨⟨rfl,by omega,pnx hcov rfl⟩,?_⟩) (lbx hLB rfl)
      ·have h0:(Y.drop (nPz ((i:Nat):Int) Y)).length=0:=by rw[List.length_drop];omega
       rw[decide_eq_false (show ¬(0:Int)<((Y.drop (nPz ((i:Nat):Int) Y)).length:Int)by omega)]
       conv=>whnf
       exact Run.tH tail (by repeat first|exact trivial|refine⟨⟨rfl,ltb rfl⟩,?_⟩|refine⟨⟨rfl,trivial⟩,?_⟩) (by repeat first|exact trivial|refine⟨⟨rfl,by omega,Os.h _⟩,?_⟩|refine⟨⟨rfl,by omega,qE _ rfl⟩,?_⟩|refine⟨⟨rfl,by omega,pnx hcov rfl⟩,?_⟩) (lbx hLB rfl)
     ·refine Run.W2 hc ?_
      conv=>whnf
      have hstep:=lstep_spec hx hinv (by rw[hst];omega) (zF X (nAt ((i:Nat):Int) X)) (rwY x.rs.length Y (nPz ((i:Nat):Int) Y)) (by rw[vI hnl];omega) (rwY_len ..)
      unfold lM lC at hstep
      rw[hst,rwY_len,show W (((i:Nat):Int)+1)=((i+1:Nat):Int)from z8 (by omega)]at hstep
      obtain⟨k,hk⟩ :∃k,zE ((i:Nat):Int)=k:=⟨_,rfl⟩
      have hk16:k<16:=hk▸yI
      rw[hk]at hstep
      have es:trS x l p (i+1)=lN x s (zF X (nAt ((i:Nat):Int) X)) (rwY x.rs.length Y (nPz ((i:Nat):Int) Y)):=by
       show lN x (trS x l p i) (trIn l i) (trRw x.rs.length p i)=_
       unfold trIn trRw
       rw[hX,hY,hs]
      have eO:trO x l p (i+1)=O++spk ((i:Nat):Int) ((lOut x s).take (lOut x s).length):=by
       show trO x l p i++spk i (lOut x (trS x l p i))=_
       rw[hO,hs,List.take_length]
      have hev:evR l (i+1)=X.drop (nAt ((i:Nat):Int) X):=by show(evR l i).drop (nAt i (evR l i))=_;rw[hX]
      have hpev:pzR p (i+1)=Y.drop (nPz ((i:Nat):Int) Y):=by show(pzR p i).drop (nPz i (pzR p i))=_;rw[hY]
      obtain⟨s2,hs2⟩ :∃s2,trS x l p (i+1)=s2:=⟨_,rfl⟩
      obtain⟨S2,hS2⟩ :∃S2,x9 (lB x s).2.2 (zF X (nAt ((i:Nat):Int) X))=S2:=⟨_,rfl⟩
      have hsst:(lB x s).1=s2.st:=by rw[←hs2,es];rfl
      have hsmm:lR x s (rwY x.rs.length Y (nPz ((i:Nat):Int) Y))=s2.m:=by rw[←hs2,es];rfl
      have hssm :∀j,s2.sm j=if j=k then S2 else s.sm j:=fun j=>by
       rw[←hs2,es]
       show(if j=zE s.tick then x9 (lB x s).2.2 (zF X (nAt ((i:Nat):Int) X))else s.sm j)=_
       rw[hst,hk,hS2]
      have hol0:=lOut_len x s
      obtain⟨o,ho⟩ :∃o,lOut x s=o:=⟨_,rfl⟩
      have hOl:O.length≤65536:=by
       rw[←hO]
       exact Nat.le_trans (trO_len x l p i) (Nat.le_trans (Nat.mul_le_mul_right _ (by omega)) hK)
      rw[hsst,hsmm,ho,hS2]at hstep
      rw[ho]at hol0 eO
      have hisn :∀k:Nat,(k≠9∧k≠12∧k≠15) → ∀q∈([0,3,6]:List Nat),(fun q=>if q<24 then 9+q else 13+q) q≠k:=by
       intro k hk q hq
       have hq2:q=0∨q=3∨q=6:=by simpa using hq
       show(if q<24 then 9+q else 13+q)≠k
       rw[if_pos (by omega)];omega
      refine Run.rI (vs:=[.ptr 0 0,.opq 24,.opq 25]) (caps:=[]) (caps2:=[]) hstep (ent _ _ Try.func52 (by kernel_rfl) rfl) rfl rfl rfl rfl rfl rfl [.ptr 9 0,.opq 37,.opq 38] rfl (fun q=>if q<24 then 9+q else 13+q) rfl (fun q hq=>by show(if q<24 then 9+q else 13+q)<39;split<;>omega) (fun q hq j hj hne=>by show(if q<24 then 9+q else 13+q)≠(if j<24 then 9+j else 13+j);split<;>split<;>omega) (by decide) (by repeat first|exact trivial|refine⟨⟨by omega,trivial,⟨_,rfl,Conv.row (by decide) rfl⟩,.inl rfl,fun _=>by simp⟩,?_⟩|refine⟨⟨by omega,qS _ _,⟨_,rfl,by rw[ofx (o:=.row 2 x.n.N.length (s.st.flatMap Ste.cells) 139) (qS _ _)];exact Conv.refl _⟩,.inr (by simp),fun h=>by cases h⟩,?_⟩|refine⟨⟨by omega,qN _ _,⟨_,rfl,by rw[ofx (o:=.row 4 x.pl.length (s.m.flatMap Mrk.cells) 84) (qN _ _)];exact Conv.refl _⟩,.inr (by simp),fun h=>by cases h⟩,?_⟩|refine⟨⟨by omega,trivial,⟨_,rfl,Conv.map⟩,.inl rfl,fun _=>by simp⟩,?_⟩|refine⟨⟨by omega,trivial,⟨_,rfl,Conv.row (by decide) (ints_iv _)⟩,.inl rfl,fun _=>by simp⟩,?_⟩|refine⟨⟨by omega,by simp[qJ,SObj.sc,SV.scs,SV.sc],⟨_,rfl,Conv.refl _⟩,.inr (by simp),fun h=>by cases h⟩,?_⟩) (fun q hq=>by
        have hq2:q=0∨q=3∨q=6:=by simpa using hq
        rcases hq2 with rfl|rfl|rfl<;>exact⟨by omega,_,rfl⟩) (.opq 40) ((39,.kmap false true (qA S2))::(40,.row 1 o.length (o.map fun x=>ii x) 3)::(34,.row 2 O.length (O.flatMap Evt.cells) 62)::(35,.rwin 2 (X.drop (nAt ((i:Nat):Int) X)).length ((X.drop (nAt ((i:Nat):Int) X)).flatMap Evt.vals))::(36,.rwin 3 (Y.drop (nPz ((i:Nat):Int) Y)).length ((Y.drop (nPz ((i:Nat):Int) Y)).flatMap Prz.vals))::(9,(SObj.cells (qJ (ii ((i+1:Nat):Int)) x.n.inp (fun j=>.mp (if j=k then 26 else 8+j)) (.mp 7)) 96).ren (shR (fun q=>if q<24 then 9+q else 13+q) 26 39))::(10,.row 8 x.n.N.length ((x.n.N.flatMap Prm.vals).map .v) 60)::(11,.row 4 x.n.S.length ((x.n.S.flatMap Syn.vals).map .v) 55)::(12,(.row 2 x.n.N.length (s2.st.flatMap Ste.cells) 139))::(13,.row 10 x.rs.length ((x.rs.flatMap Rul.vals).map .v) 36)::(14,.row 1 x.pl.length ((qD x.pl).map .v) 3)::(15,(.row 4 x.pl.length (s2.m.flatMap Mrk.cells) 84))::(16,.kmap true true x.tot)::(17,.kmap false false (qA (s.sm 0)))::(18,.kmap false false (qA (s.sm 1)))::(19,.kmap false false (qA (s.sm 2)))::(20,.kmap false false (qA (s.sm 3)))::(21,.kmap false false (qA (s.sm 4)))::(22,.kmap false false (qA (s.sm 5)))::(23,.kmap false false (qA (s.sm 6)))::(24,.kmap false false (qA (s.sm 7)))::(25,.kmap false false (qA (s.sm 8)))::(26,.kmap false false (qA (s.sm 9)))::(27,.kmap false false (qA (s.sm 10)))::(28,.kmap false false (qA (s.sm 11)))::(29,.kmap false false (qA (s.sm 12)))::(30,.kmap false false (qA (s.sm 13)))::(31,.kmap false false (qA (s.sm 14)))::(32,.kmap false false (qA (s.sm 15)))::(8,.cells [nq,ii 0,nq] 25)::(6,.pin plp)::(2,.rwin 10 x.rs.length (x.rs.flatMap Rul.vals))::[]) 41 rfl rfl
       ⟨.inr ⟨26,_,rfl,rfl,rfl,rfl⟩,.inr ⟨27,_,rfl,rfl,by rw[ofx (o:=.row 1 o.length (o.map fun x=>ii x) 3) (qB _ _)],rfl⟩,.inl ⟨rfl,hisn 34 (by decide)⟩,.inl ⟨rfl,hisn 35 (by decide)⟩,.inl ⟨rfl,hisn 36 (by decide)⟩,.inr ⟨0,_,rfl,rfl,rfl,rfl⟩,.inl ⟨rfl,hisn 10 (by decide)⟩,.inl ⟨rfl,hisn 11 (by decide)⟩,.inr ⟨3,_,rfl,rfl,by rw[ofx (o:=(.row 2 x.n.N.length (s2.st.flatMap Ste.cells) 139)) (qS _ _)],rfl⟩,.inl ⟨rfl,hisn 13 (by decide)⟩,.inl ⟨rfl,hisn 14 (by decide)⟩,.inr ⟨6,_,rfl,rfl,by rw[ofx (o:=(.row 4 x.pl.length (s2.m.flatMap Mrk.cells) 84)) (qN _ _)],rfl⟩,.inl ⟨rfl,hisn 16 (by decide)⟩,.inl ⟨rfl,hisn 17 (by decide)⟩,.inl ⟨rfl,hisn 18 (by decide)⟩,.inl ⟨rfl,hisn 19 (by decide)⟩,.inl ⟨rfl,hisn 20 (by decide)⟩,.inl ⟨rfl,hisn 21 (by decide)⟩,.inl ⟨rfl,hisn 22 (by decide)⟩,.inl ⟨rfl,hisn 23 (by decide)⟩,.inl ⟨rfl,hisn 24 (by decide)⟩,.inl ⟨rfl,hisn 25 (by decide)⟩,.inl ⟨rfl,hisn 26 (by decide)⟩,.inl ⟨rfl,hisn 27 (by decide)⟩,.inl ⟨rfl,hisn 28 (by decide)⟩,.inl ⟨rfl,hisn 29 (by decide)⟩,.inl ⟨rfl,hisn 30 (by decide)⟩,.inl ⟨rfl,hisn 31 (by decide)⟩,.inl ⟨rfl,hisn 32 (by decide)⟩,.inl ⟨rfl,hisn 8 (by decide)⟩,.inl ⟨rfl,hisn 6 (by decide)⟩,.inl ⟨rfl,hisn 2 (by decide)⟩,trivial⟩ ?_
      refine Run.weak (M':=((39,.kmap false false (qA S2))::(40,.row 1 o.length (o.map fun x=>ii x) 3)::(34,.row 2 O.length (O.flatMap Evt.cells) 62)::(35,.rwin 2 (X.drop (nAt ((i:Nat):Int) X)).length ((X.drop (nAt ((i:Nat):Int) X)).flatMap Evt.vals))::(36,.rwin 3 (Y.drop (nPz ((i:Nat):Int) Y)).length ((Y.drop (nPz ((i:Nat):Int) Y)).flatMap Prz.vals))::(9,(SObj.cells (qJ (ii ((i+1:Nat):Int)) x.n.inp (fun j=>.mp (if j=k then 26 else 8+j)) (.mp 7)) 96).ren (shR (fun q=>if q<24 then 9+q else 13+q) 26 39))::(10,.row 8 x.n.N.length ((x.n.N.flatMap Prm.vals).map .v) 60)::(11,.row 4 x.n.S.length ((x.n.S.flatMap Syn.vals).map .v) 55)::(12,(.row 2 x.n.N.length (s2.st.flatMap Ste.cells) 139))::(13,.row 10 x.rs.length ((x.rs.flatMap Rul.vals).map .v) 36)::(14,.row 1 x.pl.length ((qD x.pl).map .v) 3)::(15,(.row 4 x.pl.length (s2.m.flatMap Mrk.cells) 84))::(16,.kmap true true x.tot)::(17,.kmap false false (qA (s.sm 0)))::(18,.kmap false false (qA (s.sm 1)))::(19,.kmap false false (qA (s.sm 2)))::(20,.kmap false false (qA (s.sm 3)))::(21,.kmap false false (qA (s.sm 4)))::(22,.kmap false false (qA (s.sm 5)))::(23,.kmap false false (qA (s.sm 6)))::(24,.kmap false false (qA (s.sm 7)))::(25,.kmap false false (qA (s.sm 8)))::(26,.kmap false false (qA (s.sm 9)))::(27,.kmap false false (qA (s.sm 10)))::(28,.kmap false false (qA (s.sm 11)))::(29,.kmap false false (qA (s.sm 12)))::(30,.kmap false false (qA (s.sm 13)))::(31,.kmap false false (qA (s.sm 14)))::(32,.kmap false false (qA (s.sm 15)))::(8,.cells [nq,ii 0,nq] 25)::(6,.pin plp)::(2,.rwin 10 x.rs.length (x.rs.flatMap Rul.vals))::[])) (by repeat first|exact trivial|refine⟨⟨_,rfl,.inr ⟨_,_,rfl,rfl⟩⟩,?_⟩|refine⟨⟨_,rfl,.inl rfl⟩,?_⟩) ?_
      refine Run.rC (T':=[(1,.opq 2),(3,.opq 35),(4,.opq 36),(13,.ptr 8 0),(15,.ptr 9 0),(20,.opq 34),(60,ii (K:Int)),(61,ii ((i:Nat):Int)),(21,ii ((i:Nat):Int)),(113,.opq 40)]) (M':=((40,.row 1 o.length (o.map fun x=>ii x) 3)::(34,.row 2 O.length (O.flatMap Evt.cells) 62)::(35,.rwin 2 (X.drop (nAt ((i:Nat):Int) X)).length ((X.drop (nAt ((i:Nat):Int) X)).flatMap Evt.vals))::(36,.rwin 3 (Y.drop (nPz ((i:Nat):Int) Y)).length ((Y.drop (nPz ((i:Nat):Int) Y)).flatMap Prz.vals))::(9,.cells [ii ((i+1:Nat):Int),.opq 10,ii x.n.inp,.opq 11,.opq 12,.mp 17,.mp 18,.mp 19,.mp 20,.mp 21,.mp 22,.mp 23,.mp 24,.mp 25,.mp 26,.mp 27,.mp 28,.mp 29,.mp 30,.mp 31,.mp 32,.opq 13,.opq 14,.opq 15,.mp 16] 96)::(10,.row 8 x.n.N.length ((x.n.N.flatMap Prm.vals).map .v) 60)::(11,.row 4 x.n.S.length ((x.n.S.flatMap Syn.vals).map .v) 55)::(12,.row 2 x.n.N.length (s2.st.flatMap Ste.cells) 139)::(13,.row 10 x.rs.length ((x.rs.flatMap Rul.vals).map .v) 36)::(14,.row 1 x.pl.length ((qD x.pl).map .v) 3)::(15,.row 4 x.pl.length (s2.m.flatMap Mrk.cells) 84)::(16,.kmap true true x.tot)::(17,.kmap false false (qA (s2.sm 0)))::(18,.kmap false false (qA (s2.sm 1)))::(19,.kmap false false (qA (s2.sm 2)))::(20,.kmap false false (qA (s2.sm 3)))::(21,.kmap false false (qA (s2.sm 4)))::(22,.kmap false false (qA (s2.sm 5)))::(23,.kmap false false (qA (s2.sm 6)))::(24,.kmap false false (qA (s2.sm 7)))::(25,.kmap false false (qA (s2.sm 8)))::(26,.kmap false false (qA (s2.sm 9)))::(27,.kmap false false (qA (s2.sm 10)))::(28,.kmap false false (qA (s2.sm 11)))::(29,.kmap false false (qA (s2.sm 12)))::(30,.kmap false false (qA (s2.sm 13)))::(31,.kmap false false (qA (s2.sm 14)))::(32,.kmap false false (qA (s2.sm 15)))::(8,.cells [nq,ii 0,nq] 25)::(6,.pin plp)::(2,.rwin 10 x.rs.length (x.rs.flatMap Rul.vals))::[])) (rq [(17+k,39),(39,17+k)]) 41 ?_ ?_ ?_ ?_ ?_
      ·intro q hq j hj hne he
       have inv :∀q,q<41→rq [(17+k,39),(39,17+k)] (rq [(17+k,39),(39,17+k)] q)=q:=by rcases lt16 hk16 with rfl|rfl|rfl|rfl|rfl|rfl|rfl|rfl|rfl|rfl|rfl|rfl|rfl|rfl|rfl|rfl<;>decide
       exact hne (by rw[←inv q hq,he,inv j hj])
      ·rcases lt16 hk16 with rfl|rfl|rfl|rfl|rfl|rfl|rfl|rfl|rfl|rfl|rfl|rfl|rfl|rfl|rfl|rfl<;>exact(by repeat first|exact trivial|refine⟨⟨rfl,ltb rfl⟩,?_⟩|refine⟨⟨rfl,trivial⟩,?_⟩)
      ·rcases lt16 hk16 with rfl|rfl|rfl|rfl|rfl|rfl|rfl|rfl|rfl|rfl|rfl|rfl|rfl|rfl|rfl|rfl<;>exact(by repeat first|exact trivial|refine⟨⟨rfl,by omega,Os.h _⟩,?_⟩|refine⟨⟨rfl,by omega,qE _ rfl⟩,?_⟩|refine⟨⟨congrArg some (ofx (o:=.row 1 o.length (o.map fun x=>ii x) 3) (qB _ _)).symm,by omega,Os.h _⟩,?_⟩|refine⟨⟨congrArg some (ofx (o:=.row 2 O.length (O.flatMap Evt.cells) 62) (zT _ _)).symm,by omega,Os.h _⟩,?_⟩|refine⟨⟨congrArg some (ofx (o:=.row 8 x.n.N.length ((x.n.N.flatMap Prm.vals).map .v) 60) (qL _ _)).symm,by omega,Os.h _⟩,?_⟩|refine⟨⟨congrArg some (ofx (o:=.row 4 x.n.S.length ((x.n.S.flatMap Syn.vals).map .v) 55) (qL _ _)).symm,by omega,Os.h _⟩,?_⟩|refine⟨⟨congrArg some (ofx (o:=.row 2 x.n.N.length (s2.st.flatMap Ste.cells) 139) (qS _ _)).symm,by omega,Os.h _⟩,?_⟩|refine⟨⟨congrArg some (ofx (o:=.row 10 x.rs.length ((x.rs.flatMap Rul.vals).map .v) 36) (qL _ _)).symm,by omega,Os.h _⟩,?_⟩|refine⟨⟨congrArg some (ofx (o:=.row 1 x.pl.length ((qD x.pl).map .v) 3) (qL _ _)).symm,by omega,Os.h _⟩,?_⟩|refine⟨⟨congrArg some (ofx (o:=.row 4 x.pl.length (s2.m.flatMap Mrk.cells) 84) (qN _ _)).symm,by omega,Os.h _⟩,?_⟩|refine⟨⟨by rw[hssm];rfl,by omega,trivial⟩,?_⟩|refine⟨⟨congrArg some (jK hcov (fun i hi=>zG (zA (B:=6) rfl hi))).symm,by omega,pnx hcov rfl⟩,?_⟩)
      ·intro p hp
       have:=hLB p hp
       rcases lt16 hk16 with rfl|rfl|rfl|rfl|rfl|rfl|rfl|rfl|rfl|rfl|rfl|rfl|rfl|rfl|rfl|rfl<;>exact⟨zG (zA (B:=6) rfl this),by omega⟩
      refine Run.W2 hc ?_
      conv=>whnf
      refine Run.lJ (T:=fun j=>[(1,.opq 2),(3,.opq 35),(4,.opq 36),(13,.ptr 8 0),(15,.ptr 9 0),(20,.opq 34),(60,ii (K:Int)),(61,ii ((i:Nat):Int)),(21,ii ((i:Nat):Int)),(113,.opq 40),(114,ii (o.length:Int)),(115,ii ((j:Nat):Int))]) (M:=fun j=>((40,.row 1 o.length (o.map fun x=>ii x) 3)::(34,.row 2 (O++spk ((i:Nat):Int) (o.take j)).length ((O++spk ((i:Nat):Int) (o.take j)).flatMap Evt.cells) 62)::(35,.rwin 2 (X.drop (nAt ((i:Nat):Int) X)).length ((X.drop (nAt ((i:Nat):Int) X)).flatMap Evt.vals))::(36,.rwin 3 (Y.drop (nPz ((i:Nat):Int) Y)).length ((Y.drop (nPz ((i:Nat):Int) Y)).flatMap Prz.vals))::(9,.cells [ii ((i+1:Nat):Int),.opq 10,ii x.n.inp,.opq 11,.opq 12,.mp 17,.mp 18,.mp 19,.mp 20,.mp 21,.mp 22,.mp 23,.mp 24,.mp 25,.mp 26,.mp 27,.mp 28,.mp 29,.mp 30,.mp 31,.mp 32,.opq 13,.opq 14,.opq 15,.mp 16] 96)::(10,.row 8 x.n.N.length ((x.n.N.flatMap Prm.vals).map .v) 60)::(11,.row 4 x.n.S.length ((x.n.S.flatMap Syn.vals).map .v) 55)::(12,.row 2 x.n.N.length (s2.st.flatMap Ste.cells) 139)::(13,.row 10 x.rs.length ((x.rs.flatMap Rul.vals).map .v) 36)::(14,.row 1 x.pl.length ((qD x.pl).map .v) 3)::(15,.row 4 x.pl.length (s2.m.flatMap Mrk.cells) 84)::(16,.kmap true true x.tot)::(17,.kmap false false (qA (s2.sm 0)))::(18,.kmap false false (qA (s2.sm 1)))::(19,.kmap false false (qA (s2.sm 2)))::(20,.kmap false false (qA (s2.sm 3)))::(21,.kmap false false (qA (s2.sm 4)))::(22,.kmap false false (qA (s2.sm 5)))::(23,.kmap false false (qA (s2.sm 6)))::(24,.kmap false false (qA (s2.sm 7)))::(25,.kmap false false (qA (s2.sm 8)))::(26,.kmap false false (qA (s2.sm 9)))::(27,.kmap false false (qA (s2.sm 10)))::(28,.kmap false false (qA (s2.sm 11)))::(29,.kmap false false (qA (s2.sm 12)))::(30,.kmap false false (qA (s2.sm 13)))::(31,.kmap false false (qA (s2.sm 14)))::(32,.kmap false false (qA (s2.sm 15)))::(8,.cells [nq,ii 0,nq] 25)::(6,.pin plp)::(2,.rwin 10 x.rs.length (x.rs.flatMap Rul.vals))::[])) 41 (fun _=>True) o.length (by repeat first|exact trivial|refine⟨⟨rfl,ltb rfl⟩,?_⟩|refine⟨⟨rfl,trivial⟩,?_⟩) (by repeat first|exact trivial|refine⟨⟨rfl,by omega,Os.h _⟩,?_⟩|refine⟨⟨rfl,by omega,qE _ rfl⟩,?_⟩|refine⟨⟨rfl,by omega,pnx hcov rfl⟩,?_⟩|refine⟨⟨by rw[show spk ((i:Nat):Int) (o.take 0)=[]from rfl,List.append_nil];rfl,by omega,Os.h _⟩,?_⟩) (lbx hLB rfl) trivial ?_ ?_
      ·intro j hj _ ih2
       have hol:(O++spk ((i:Nat):Int) (o.take j)).length≤131072:=by
        simp only[spk,List.length_append,List.length_map,List.length_take]
        omega
       refine Run.W2 hc ?_
       conv=>whnf
       rw[decide_eq_true (show((j:Nat):Int)<(o.length:Int)by omega)]
       conv=>whnf
       refine⟨by omega,?_⟩
       conv=>whnf
       rw[tZ j rfl rfl rfl rfl (by rw[qQ,Nat.mul_one]) hj]
       conv=>whnf
       refine⟨by omega,?_⟩
       conv=>whnf
       refine Run.rC (T':=[(1,.opq 2),(3,.opq 35),(4,.opq 36),(13,.ptr 8 0),(15,.ptr 9 0),(20,.opq 34),(60,ii (K:Int)),(61,ii ((i:Nat):Int)),(21,ii ((i:Nat):Int)),(113,.opq 40),(114,ii (o.length:Int)),(115,ii ((j+1:Nat):Int))]) (M':=((40,.row 1 o.length (o.map fun x=>ii x) 3)::(34,.row 2 (O++spk ((i:Nat):Int) (o.take (j+1))).length ((O++spk ((i:Nat):Int) (o.take (j+1))).flatMap Evt.cells) 62)::(35,.rwin 2 (X.drop (nAt ((i:Nat):Int) X)).length ((X.drop (nAt ((i:Nat):Int) X)).flatMap Evt.vals))::(36,.rwin 3 (Y.drop (nPz ((i:Nat):Int) Y)).length ((Y.drop (nPz ((i:Nat):Int) Y)).flatMap Prz.vals))::(9,.cells [ii ((i+1:Nat):Int),.opq 10,ii x.n.inp,.opq 11,.opq 12,.mp 17,.mp 18,.mp 19,.mp 20,.mp 21,.mp 22,.mp 23,.mp 24,.mp 25,.mp 26,.mp 27,.mp 28,.mp 29,.mp 30,.mp 31,.mp 32,.opq 13,.opq 14,.opq 15,.mp 16] 96)::(10,.row 8 x.n.N.length ((x.n.N.flatMap Prm.vals).map .v) 60)::(11,.row 4 x.n.S.length ((x.n.S.flatMap Syn.vals).map .v) 55)::(12,.row 2 x.n.N.length (s2.st.flatMap Ste.cells) 139)::(13,.row 10 x.rs.length ((x.rs.flatMap Rul.vals).map .v) 36)::(14,.row 1 x.pl.length ((qD x.pl).map .v) 3)::(15,.row 4 x.pl.length (s2.m.flatMap Mrk.cells) 84)::(16,.kmap true true x.tot)::(17,.kmap false false (qA (s2.sm 0)))::(18,.kmap false false (qA (s2.sm 1)))::(19,.kmap false false (qA (s2.sm 2)))::(20,.kmap false false (qA (s2.sm 3)))::(21,.kmap false false (qA (s2.sm 4)))::(22,.kmap false false (qA (s2.sm 5)))::(23,.kmap false false (qA (s2.sm 6)))::(24,.kmap false false (qA (s2.sm 7)))::(25,.kmap false false (qA (s2.sm 8)))::(26,.kmap false false (qA (s2.sm 9)))::(27,.kmap false false (qA (s2.sm 10)))::(28,.kmap false false (qA (s2.sm 11)))::(29,.kmap false false (qA (s2.sm 12)))::(30,.kmap false false (qA (s2.sm 13)))::(31,.kmap false false (qA (s2.sm 14)))::(32,.kmap false false (qA (s2.sm 15)))::(8,.cells [nq,ii 0,nq] 25)::(6,.pin plp)::(2,.rwin 10 x.rs.length (x.rs.flatMap Rul.vals))::[])) (rq [(34,42),(42,34)]) 41 ?_ ?_ ?_ ?_ (ih2 trivial)
       ·intro i hi j hj hne he
        have inv :∀i,i<41→rq [(34,42),(42,34)] (rq [(34,42),(42,34)] i)=i:=by decide
        exact hne (by rw[←inv i hi,he,inv j hj])
       ·exact(by repeat first|exact trivial|refine⟨⟨rfl,ltb rfl⟩,?_⟩|refine⟨⟨rfl,trivial⟩,?_⟩|refine⟨⟨wsx (by omega),trivial⟩,?_⟩)
       ·exact(by repeat first|exact trivial|refine⟨⟨rfl,by omega,Os.h _⟩,?_⟩|refine⟨⟨rfl,by omega,qE _ rfl⟩,?_⟩|refine⟨⟨congrArg some (ofx (o:=.row 1 o.length (o.map fun x=>ii x) 3) (qB _ _)).symm,by omega,Os.h _⟩,?_⟩|refine⟨⟨by rw[ofx (o:=.row 2 (O++spk ((i:Nat):Int) (o.take (j+1))).length ((O++spk ((i:Nat):Int) (o.take (j+1))).flatMap Evt.cells) 62) (zT _ _),spk_take hj,←List.append_assoc];generalize O++spk _ (o.take j)=Z;rw[List.length_append,List.flatMap_append];rfl,by omega,Os.h _⟩,?_⟩|refine⟨⟨congrArg some (ofx (o:=.row 8 x.n.N.length ((x.n.N.flatMap Prm.vals).map .v) 60) (qL _ _)).symm,by omega,Os.h _⟩,?_⟩|refine⟨⟨congrArg some (ofx (o:=.row 4 x.n.S.length ((x.n.S.flatMap Syn.vals).map .v) 55) (qL _ _)).symm,by omega,Os.h _⟩,?_⟩|refine⟨⟨congrArg some (ofx (o:=.row 2 x.n.N.length (s2.st.flatMap Ste.cells) 139) (qS _ _)).symm,by omega,Os.h _⟩,?_⟩|refine⟨⟨congrArg some (ofx (o:=.row 10 x.rs.length ((x.rs.flatMap Rul.vals).map .v) 36) (qL _ _)).symm,by omega,Os.h _⟩,?_⟩|refine⟨⟨congrArg some (ofx (o:=.row 1 x.pl.length ((qD x.pl).map .v) 3) (qL _ _)).symm,by omega,Os.h _⟩,?_⟩|refine⟨⟨congrArg some (ofx (o:=.row 4 x.pl.length (s2.m.flatMap Mrk.cells) 84) (qN _ _)).symm,by omega,Os.h _⟩,?_⟩|refine⟨⟨congrArg some (jK hcov (fun i hi=>zG (zA (B:=6) rfl hi))).symm,by omega,pnx hcov rfl⟩,?_⟩)
       ·intro p hp
        have:=hLB p hp;exact⟨zG (zA (B:=6) rfl this),by omega⟩
      ·intro _
       have hol:(O++spk ((i:Nat):Int) (o.take o.length)).length≤65536:=by
        rw[←eO]
        refine Nat.le_trans (trO_len x l p (i+1)) (Nat.le_trans (Nat.mul_le_mul_right _ (by omega)) hK)
       refine Run.W2 hc ?_
       conv=>whnf
       rw[decide_eq_false (show ¬((o.length:Nat):Int)<(o.length:Int)by omega)]
       conv=>whnf
       rw[decide_eq_false (show ¬(65536:Int)<((O++spk ((i:Nat):Int) (o.take o.length)).length:Int)by omega)]
       conv=>whnf
       rw[eO,hev,hpev,hs2]at ih
       exact Run.tH (ih trivial) (by repeat first|exact trivial|refine⟨⟨rfl,ltb rfl⟩,?_⟩|refine⟨⟨rfl,trivial⟩,?_⟩|refine⟨⟨wsx (by omega),trivial⟩,?_⟩) (by repeat first|exact trivial|refine⟨⟨rfl,by omega,Os.h _⟩,?_⟩|refine⟨⟨rfl,by omega,qE _ rfl⟩,?_⟩|refine⟨⟨rfl,by omega,pnx hcov rfl⟩,?_⟩) (lbx hLB rfl)
 ·intro _
  refine Run.W2 hc ?_
  conv=>whnf
  rw[decide_eq_false (show ¬((K:Nat):Int)<(K:Int)by omega)]
  conv=>whnf
  have hinvK:=gD hx l p K hK2
  obtain⟨sK,hsK⟩ :∃sK,trS x l p K=sK:=⟨_,rfl⟩
  rw[hsK]at hinvK ⊢
  have hmK:sK.m.length=x.pl.length:=by rw[hinvK.lm,hx4]
  have hnow:=now_spec (ii (K:Int)) x.n.inp (fun k=>.mp (8+k)) (.mp 7) x.n.N x.n.S sK.m (by simp[qJ,SV.scs,SV.sc]) (by rw[hmK,hx4]) hx2 hx1
  unfold nowM at hnow
  rw[hmK]at hnow
  refine Run.rI (vs:=[.ptr 0 0]) (caps:=[]) (caps2:=[]) hnow (ent _ _ Try.func53 (by kernel_rfl) rfl) rfl rfl rfl rfl rfl rfl [.ptr 9 0] rfl (fun q=>9+q) rfl (fun q hq=>by show 9+q<37;omega) (fun q hq j hj hne=>by show 9+q≠9+j;omega) (by decide)
   ⟨⟨by omega,by simp[qJ,SObj.sc,SV.scs,SV.sc],⟨_,rfl,Conv.refl _⟩,.inr (by simp),fun h=>by cases h⟩,⟨by omega,trivial,⟨_,rfl,Conv.row (by decide) rfl⟩,.inl rfl,fun _=>by simp⟩,⟨by omega,trivial,⟨_,rfl,Conv.row (by decide) rfl⟩,.inl rfl,fun _=>by simp⟩,⟨by omega,trivial,⟨_,rfl,Conv.row (by decide) (uF _)⟩,.inl rfl,fun _=>by simp⟩,trivial⟩ (fun q hq=>by simp at hq;subst hq;exact⟨by omega,_,rfl⟩) (.agg [.opq 37,ii x.n.inp,.opq 38]) [(37,.row 8 x.n.N.length ((x.n.N.flatMap Prm.vals).map .v) 60),(38,.row 4 x.n.S.length ((nowL x.n.S sK.m).flatMap Syn.cells) 55),(34,.row 2 (trO x l p K).length ((trO x l p K).flatMap Evt.cells) 62),(8,.cells [nq,ii 0,nq] 25),(6,.pin plp)] 39 rfl rfl
   ⟨.inr ⟨24,_,rfl,rfl,by rw[ofx (o:=.row 8 x.n.N.length ((x.n.N.flatMap Prm.vals).map .v) 60) (qL _ _)],rfl⟩,.inr ⟨25,_,rfl,rfl,by rw[ofx (o:=.row 4 x.n.S.length ((nowL x.n.S sK.m).flatMap Syn.cells) 55) (yH _ _)],rfl⟩,.inl ⟨rfl,fun q hq=>by simp at hq;subst hq;exact(show 9+0≠34 by decide)⟩,.inl ⟨rfl,fun q hq=>by simp at hq;subst hq;exact(show 9+0≠8 by decide)⟩,.inl ⟨rfl,fun q hq=>by simp at hq;subst hq;exact(show 9+0≠6 by decide)⟩,trivial⟩ ?_
  refine Run.W2 hc ?_
  conv=>whnf
  refine SpecR.rT (rq [(6,34),(7,37),(8,38)]) (fun i hi=>zG (zA (B:=6) rfl hi)) ?_ (Widens.refl _ _) hLB (by decide) hcov rfl rfl (by simp[SV.sc,SV.scs]) ?_
  ·intro i hi j hj hne
   have inj :∀i,i<9 → ∀j,j<9→i≠j→rq [(6,34),(7,37),(8,38)] i≠rq [(6,34),(7,37),(8,38)] j:=by decide
   exact inj i hi j hj hne
  ·exact⟨⟨congrArg some (ofx (o:=.row 2 (trO x l p K).length ((trO x l p K).flatMap Evt.cells) 62) (zT _ _)).symm,by omega,Os.h _⟩,⟨congrArg some (ofx (o:=.row 8 x.n.N.length ((x.n.N.flatMap Prm.vals).map .v) 60) (qL _ _)).symm,by omega,Os.h _⟩,⟨congrArg some (ofx (o:=.row 4 x.n.S.length ((nowL x.n.S sK.m).flatMap Syn.cells) 55) (yH _ _)).symm,by omega,Os.h _⟩,trivial⟩
end Go.Proofs.Ytnnlpdgnlccbjaa
namespace Go.Sx
def Lin (ops:Array Oper)(un:List Nat)(l:List Nat):Prop:=
 ∃fuel t listed,l=Region.linearise.go .any ops fuel t listed []∧listed.size=ops.size∧(∀i,i<ops.size→(listed.getD i true=false↔i∈un))∧Down ops listed∧un.length≤fuel
def readyB (ops:List Oper)(un:List Nat)(i:Nat):Bool:=
 match get ops i with
 |some o=>o.after.toList.all fun e=> !Region.binds .any e || !memB e.on un
 |none=>false
theorem memB_iff :∀{l:List Nat} {i:Nat},memB i l=true↔i∈l:=by
 intro l
 induction l with
 |nil=>intro i;simp[memB]
 |cons a l ih=>
  intro i
  unfold memB
  constructor
  ·intro h
   split at h
   ·rename_i e
    have:=Nat.eq_of_beq_eq_true e
    simp[this]
   ·exact List.mem_cons_of_mem _ (ih.1 h)
  ·intro h
   split
   ·rfl
   ·rename_i e
    rcases List.mem_cons.1 h with rfl|h
    ·rw[Nat.beq_refl]at e;cases e
    ·exact ih.2 h
theorem exMin :∀(l:List Nat),l≠[] → ∃m∈l,∀x∈l,m≤x
 | [],h=>absurd rfl h
 | [a],_=>⟨a,by simp,by simp⟩
 |a::b::l,_=>by
  obtain⟨m,h1,h2⟩:=exMin (b::l) (by simp)
  rcases Nat.lt_or_ge a m with h|h
  ·refine⟨a,by simp,fun x hx=> ?_⟩
   rcases List.mem_cons.1 hx with rfl|hx
   ·exact Nat.le_refl _
   ·have:=h2 x hx;omega
  ·refine⟨m,List.mem_cons_of_mem _ h1,fun x hx=> ?_⟩
   rcases List.mem_cons.1 hx with rfl|hx
   ·exact h
   ·exact h2 x hx
theorem getD_tf {listed:Array Bool}{i:Nat}(hi:i<listed.size)(h:listed.getD i false≠true):listed.getD i true=false:=by
 simp only[Array.getD_eq_getD_getElem?,Array.getElem?_eq_getElem hi,Option.getD_some]at h ⊢
 cases hb:listed[i]with
 |true=>exact absurd hb h
 |false=>rfl
theorem due_ready {ops:Array Oper}{listed:Array Bool}{un:List Nat}{i:Nat}(hs:listed.size=ops.size)(hU :∀i,i<ops.size→(listed.getD i true=false↔i∈un))(h:Due ops listed i){o:Oper}(ho:ops[i]? = some o) :∀e∈o.after,Region.binds .any e=true→e.on∉un:=by
 intro e he hb hm
 have h1:=h o e ho he hb
 have hlt:e.on<listed.size:=by
  rcases Nat.lt_or_ge e.on listed.size with h|h
  ·exact h
  ·simp[Array.getD_eq_getD_getElem?,Array.getElem?_eq_none h]at h1
 have h2:=(hU e.on (by omega)).2 hm
 have:=(kN h2).2
 rw[h1]at this;cases this
theorem Lin.next {ops:Array Oper}{un l:List Nat}(cand:List Nat)(h:Lin ops un l)(he:(un.any fun j=>readyB ops.toList un j)=true)(hr:(un.all fun i=> !readyB ops.toList un i||memB i cand)=true)(hlo:(un.all fun j=>match get ops.toList j with
  |some o=>o.after.toList.all fun e=>Nat.blt e.on (jT ops.toList)
  |none=>true)=true) :∃i l',l=i::l'∧i∈cand∧i∈un∧Lin ops (un.filter (fun j=> !Nat.beq j i)) l':=by
 obtain⟨fuel,t,listed,rfl,hs,hU,hD,hf⟩:=h
 obtain⟨j,hj,hjr⟩:=List.any_eq_true.1 he
 unfold readyB at hjr
 cases ho:get ops.toList j with
 |none=>rw[ho]at hjr;cases hjr
 |some o=>
  rw[ho]at hjr
  simp only at hjr
  have ho':ops[j]? = some o:=by rw[q8,Array.getElem?_toList]at ho;exact ho
  have hjlt:j<ops.size:=(Array.getElem?_eq_some_iff.1 ho').1
  have hloj:=List.all_eq_true.1 hlo j hj
  rw[ho]at hloj
  simp only at hloj
  have hready:j∈Region.ready .any ops listed:=by
   refine mem_ready.2 ⟨hjlt,(hU j hjlt).2 hj,fun o2 e ho2 he2 hb=> ?_⟩
   rw[ho']at ho2
   obtain rfl:=Option.some.inj ho2
   have h1:=List.all_eq_true.1 hjr e (by simpa using he2)
   have h2:=List.all_eq_true.1 hloj e (by simpa using he2)
   rw[Nat.blt_eq,j6,Array.length_toList]at h2
   rw[hb]at h1
   simp only[Bool.not_true,Bool.false_or,Bool.not_eq_true']at h1
   have h3:e.on∉un:=fun hm=>by rw[memB_iff.2 hm]at h1;cases h1
   cases hc:listed.getD e.on false with
   |true=>rfl
   |false=>exact absurd ((hU e.on h2).1 (getD_tf (by omega) (by rw[hc];decide))) h3
  cases fuel with
  |zero=>
   have:un=[]:=List.length_eq_zero_iff.1 (by omega)
   rw[this]at hj;cases hj
  |succ fuel=>
   obtain⟨i,hi,hir⟩:=kQ (ops:=ops) (listed:=listed) t (by intro h;rw[h]at hready;cases hready)
   obtain⟨h1,h2,h3⟩:=mem_ready.1 hir
   have hiu:=(hU i h1).1 h2
   have hoi:ops[i]? = some ops[i]:=Array.getElem?_eq_getElem h1
   have hri:readyB ops.toList un i=true:=by
    unfold readyB
    rw[q8,Array.getElem?_toList,hoi]
    simp only
    refine List.all_eq_true.2 fun e he=> ?_
    cases hb:Region.binds .any e with
    |false=>rfl
    |true=>
     have h4:=due_ready hs hU h3 hoi e (by simpa using he) hb
     cases hm:memB e.on un with
     |false=>rfl
     |true=>exact absurd (memB_iff.1 hm) h4
   have hci:=List.all_eq_true.1 hr i hiu
   rw[hri]at hci
   simp only[Bool.not_true,Bool.false_or]at hci
   refine⟨i,Region.linearise.go .any ops fuel (t / (Region.ready .any ops listed).length) (listed.setIfInBounds i true) [],?_,memB_iff.1 hci,hiu,fuel,_,_,rfl,by simpa using hs,fun q hq=> ?_,hD.set h3,?_⟩
   ·rw[vO,hi]
   ·rw[yW,List.mem_filter]
    by_cases e:i=q
    ·subst e
     rw[if_pos ⟨rfl,by omega⟩]
     simp[Nat.beq_refl]
    ·rw[if_neg (fun hh=>e hh.1),hU q hq]
     have:Nat.beq q i=false:=by
      cases hb:Nat.beq q i with
      |false=>rfl
      |true=>exact absurd (Nat.eq_of_beq_eq_true hb).symm e
     simp[this]
   ·have:(un.filter fun j=> !Nat.beq j i).length<un.length:=List.length_filter_lt_length_iff_exists.2 ⟨i,hiu,by simp[Nat.beq_refl]⟩
    omega
theorem Lin.nil {ops:Array Oper}{l:List Nat}(h:Lin ops [] l):l=[]:=by
 obtain⟨fuel,t,listed,rfl,hs,hU,hD,hf⟩:=h
 cases fuel with
 |zero=>rfl
 |succ fuel=>
  have:Region.ready .any ops listed=[]:=by
   apply List.eq_nil_iff_forall_not_mem.2
   intro i hi
   obtain⟨h1,h2,_⟩:=mem_ready.1 hi
   exact absurd ((hU i h1).1 h2) (by simp)
  rw[vO,this];rfl
theorem Lin.ofGo {ops:Array Oper}{l:List Nat}(un:List Nat)(h:LinGo ops 0 l)(h1:(qG 0 ops.size).all (fun i=>memB i un)=true)(h2:un.length≤ops.size):Lin ops un l:=by
 obtain⟨fuel,t,listed,rfl,hs,hU,hD,hf⟩:=h
 refine⟨fuel,t,listed,rfl,hs,fun i hi=> ?_,hD,by omega⟩
 rw[hU i hi]
 refine⟨fun _=>memB_iff.1 (List.all_eq_true.1 h1 i ?_),fun _=>Nat.zero_le _⟩
 rw[upto_eq]
 exact List.mem_range'_1.2 (by omega)
theorem gameQ {c:Cx}(hc:c.ok){ops:Array Oper}{n0:Nat}{T':Tm}{M':Mem}{D:List Deferred}{R:Ending→World→Prop}{k:List Item}(ns fl rest:List Nat)(L0:List (Tr×Option Eff))
  (hcl :∀i∈ns,∀o e,ops[i]? = some o→e∈o.after→Region.binds .any e=true→e.on∉fl∧e.on∉rest∧e.on<i) (hns :∀i∈ns,i<ops.size∧i∉rest)
  (htail :∀i∈rest,∀j∈ns,TP ops j i)
  (hfin :∀l l1,(∀x∈l,x∈L0∧x.1.i∉ns)→(l.map (·.1.i)).Nodup→Lin ops (l.map (·.1.i)++rest) l1 → ∀T M S ρ a w,Runs c ops.toList n0 l T M T' M'→a.tmps.size=c.fn.ntmps→TmOk ρ T S a→a.defers=D→WI c.w0 c.L ρ M S w→(∀x,S x→x<n0+ops.size)→TW c.P c.f c.rr a (.inRegion ops l1::k) w R) :
  ∀(fuel:Nat) (l:List (Tr×Option Eff)) (t:Nat) (listed:Array Bool) (T:Tm) (M:Mem) (S:Nat→Prop) (ρ:Env) (a:Act) (w:World),
   listed.size=ops.size→(∀i,i<ops.size→(listed.getD i true=false↔i∈l.map (·.1.i)++rest))→Down ops listed→l.length+rest.length≤fuel →
   (∀x∈l,x∈L0)→(∀x∈l,x.1.i<ops.size∧(x.1.i∈ns∨x.1.i∈fl))→(l.map (·.1.i)).Nodup→l.Pairwise (fun a b=>TP ops a.1.i b.1.i∨Apart a.1 b.1)→Runs c ops.toList n0 l T M T' M' →
   a.tmps.size=c.fn.ntmps→TmOk ρ T S a→a.defers=D→WI c.w0 c.L ρ M S w→(∀x,S x→x<n0+ops.size)→(∀x∈l,¬S (n0+x.1.i)) →
   TW c.P c.f c.rr a (.inRegion ops (Region.linearise.go .any ops fuel t listed [])::k) w R:=by
 intro fuel
 induction fuel with
 |zero=>
  intro l t listed T M S ρ a w hls hU hD hcount hL0 hlt hnd hap hrun hsz hT hdf hW hS hfresh
  have hl:l=[]:=List.length_eq_zero_iff.1 (by omega)
  subst hl
  exact hfin [] _ (by simp) .nil ⟨0,t,listed,rfl,hls,hU,hD,by simpa using hcount⟩ T M S ρ a w hrun hsz hT hdf hW hS
 |succ fuel ih=>
  intro l t listed T M S ρ a w hls hU hD hcount hL0 hlt hnd hap hrun hsz hT hdf hW hS hfresh
  by_cases hex :∃x∈l,x.1.i∈ns
  case neg=>
   exact hfin l _ (fun x hx=>⟨hL0 x hx,fun h=>hex ⟨x,hx,h⟩⟩) hnd ⟨fuel+1,t,listed,rfl,hls,hU,hD,by simpa using hcount⟩ T M S ρ a w hrun hsz hT hdf hW hS
  obtain⟨x1,hx1,hx1n⟩:=hex
  obtain⟨j0,hj0,hmin⟩:=exMin ((l.map (·.1.i)).filter fun i=>memB i ns) (List.ne_nil_of_mem (List.mem_filter.2 ⟨List.mem_map.2 ⟨x1,hx1,rfl⟩,memB_iff.2 hx1n⟩))
  obtain⟨hj0l,hj0n⟩:=List.mem_filter.1 hj0
  have hj0n:=memB_iff.1 hj0n
  obtain⟨x0,hx0,rfl⟩:=List.mem_map.1 hj0l
  have hx0lt:=(hns _ hj0n).1
  have hx0un:listed.getD x0.1.i true=false:=(hU _ hx0lt).2 (List.mem_append_left _ hj0l)
  have hready:x0.1.i∈Region.ready .any ops listed:=by
   refine mem_ready.2 ⟨hx0lt,hx0un,fun o e ho he hb=> ?_⟩
   obtain⟨q1,q2,q3⟩:=hcl _ hj0n o e ho he hb
   cases hcx:listed.getD e.on false with
   |true=>rfl
   |false=>
    have:listed.getD e.on true=false:=getD_tf (by omega) (by rw[hcx];decide)
    rcases List.mem_append.1 ((hU e.on (by omega)).1 this)with h|h
    ·obtain⟨y,hy,hye⟩:=List.mem_map.1 h
     rcases(hlt y hy).2 with h5|h5
     ·have:=hmin y.1.i (List.mem_filter.2 ⟨List.mem_map.2 ⟨y,hy,rfl⟩,memB_iff.2 h5⟩)
      omega
     ·rw[hye]at h5;exact absurd h5 q1
    ·exact absurd h q2
  obtain⟨i,hi,hir⟩:=kQ (ops:=ops) (listed:=listed) t (by intro h;rw[h]at hready;cases hready)
  obtain⟨h1,h2,h3⟩:=mem_ready.1 hir
  have him:i∉rest:=by
   intro hge
   have:=TP.listed hD (htail i hge x0.1.i hj0n) h3
   have:=(kN hx0un).2
   simp_all
  obtain⟨⟨b,x⟩,hbl,hbi⟩ :∃y∈l,y.1.i=i:=by
   rcases List.mem_append.1 ((hU i h1).1 h2)with h|h
   ·obtain⟨y,hy,hye⟩:=List.mem_map.1 h
    exact⟨y,hy,hye⟩
   ·exact absurd h him
  simp only at hbi
  subst hbi
  obtain⟨p,q,hpq⟩:=List.append_of_mem hbl
  rw[hpq]at hrun hap
  have hapart :∀y∈p,Apart y.1 b:=by
   intro y hy
   rcases(List.pairwise_append.1 hap).2.2 y hy (b,x) (by simp)with htp|h
   ·exfalso
    have e1:=TP.listed hD htp h3
    have hyl:y∈l:=by rw[hpq];simp[hy]
    have e2:=(kN ((hU y.1.i (hlt y hyl).1).2 (List.mem_append_left _ (List.mem_map.2 ⟨y,hyl,rfl⟩)))).2
    simp_all
   ·exact h
  obtain⟨hstep,hrest⟩:=hrun.front hc.pf hapart
  have hbS :¬S (n0+b.i):=hfresh (b,x) hbl
  have hap':(p++q).Pairwise (fun a b=>TP ops a.1.i b.1.i∨Apart a.1 b.1):=by
   rw[List.pairwise_append]at hap ⊢
   exact⟨hap.1,(List.pairwise_cons.1 hap.2.1).2,fun y hy z hz=>hap.2.2 y hy z (by simp[hz])⟩
  have hnd2:(p.map (·.1.i)++b.i::q.map (·.1.i)).Nodup:=by rw[hpq]at hnd;simpa using hnd
  have hnd':((p++q).map (·.1.i)).Nodup:=by
   rw[List.map_append]
   rw[List.nodup_append]at hnd2 ⊢
   exact⟨hnd2.1,(List.nodup_cons.1 hnd2.2.1).2,fun u hu v hv=>hnd2.2.2 u hu v (List.mem_cons_of_mem _ hv)⟩
  have hne :∀y∈p++q,y.1.i≠b.i:=by
   intro y hy e
   rw[List.nodup_append]at hnd2
   rcases List.mem_append.1 hy with hy|hy
   ·exact hnd2.2.2 _ (List.mem_map.2 ⟨y,hy,rfl⟩) b.i (by simp) e
   ·exact(List.nodup_cons.1 hnd2.2.1).1 (by rw[←e];exact List.mem_map.2 ⟨y,hy,rfl⟩)
  have hmem :∀y,y∈l↔y=(b,x)∨y∈p++q:=by intro y;rw[hpq];simp;constructor<;>(rintro(h|h|h)<;>simp[h])
  have hU' :∀j,j<ops.size→((listed.setIfInBounds b.i true).getD j true=false↔j∈(p++q).map (·.1.i)++rest):=by
   intro j hj
   rw[yW]
   constructor
   ·intro h
    split at h
    ·cases h
    ·rename_i hnej
     rcases List.mem_append.1 ((hU j hj).1 h)with h|h
     ·obtain⟨y,hy,hyj⟩:=List.mem_map.1 h
      rcases(hmem y).1 hy with rfl|hy
      ·exact absurd ⟨hyj,by omega⟩ hnej
      ·exact List.mem_append_left _ (List.mem_map.2 ⟨y,hy,hyj⟩)
     ·exact List.mem_append_right _ h
   ·intro h
    rcases List.mem_append.1 h with h|h
    ·obtain⟨y,hy,hyj⟩:=List.mem_map.1 h
     rw[if_neg (fun hh=>hne y hy (hyj.trans hh.1.symm))]
     exact(hU j hj).2 (List.mem_append_left _ (List.mem_map.2 ⟨y,(hmem y).2 (.inr hy),hyj⟩))
    ·rw[if_neg (fun hh:b.i=j∧j<listed.size=>him (by rw[hh.1];exact h))]
     exact(hU j hj).2 (List.mem_append_right _ h)
  have hlt' :∀y∈p++q,y.1.i<ops.size∧(y.1.i∈ns∨y.1.i∈fl):=fun y hy=>hlt y ((hmem y).2 (.inr hy))
  have hlen:(p++q).length+rest.length≤fuel:=by
   have:l.length=(p++q).length+1:=by rw[hpq];simp;omega
   omega
  rw[vO,hi]
  simp only
  obtain⟨o,s1,s2,s3,s4,s5⟩:=hstep
  rw[q8,Array.getElem?_toList]at s1
  cases x with
  |none=>
   refine TW.pass s1 (zI hT s5.1) ?_
   refine ih (p++q) _ _ _ _ S ρ _ w (by simpa using hls) hU' (hD.set h3) hlen (fun y hy=>hL0 y ((hmem y).2 (.inr hy))) hlt' hnd' hap' hrest (by rw[Act.put_size];exact hsz) ?_ (by rw[Act.put_defers];exact hdf) hW hS (fun y hy=>hfresh y ((hmem y).2 (.inr hy)))
   rw[s3]
   exact hT.updD hsz (Env.agree.refl S ρ) (fun _ h=>h) s2 (v:=.v undef) trivial
  |some e=>
   obtain⟨g1,g2,g3,g4,g5⟩:=s5
   refine TW.op s1 (zI hT g1) ?_
   refine(opF_ok hc.tab hc.pf hT hW hbS g2 g3).mono fun v w' hp=> ?_
   obtain⟨ρ',r1,rfl,r3,r4⟩:=hp
   have hdom :∀j,S j→e.dom S (n0+b.i) j:=fun j hj=>by cases e<;>first|exact hj|exact .inl hj
   have hdom' :∀j,e.dom S (n0+b.i) j→S j∨j=n0+b.i:=fun j hj=>by cases e<;>first|exact .inl hj|exact hj
   refine ih (p++q) _ _ _ _ (e.dom S (n0+b.i)) ρ' _ w' (by simpa using hls) hU' (hD.set h3) hlen (fun y hy=>hL0 y ((hmem y).2 (.inr hy))) hlt' hnd' hap' hrest (by rw[Act.put_size];exact hsz) ?_ (by rw[Act.put_defers];exact hdf) r4 ?_ ?_
   ·rw[s3]
    exact hT.updD hsz r1 hdom s2 r3
   ·intro j hj
    rcases hdom' j hj with hj|rfl
    ·exact hS j hj
    ·omega
   ·intro y hy hj
    rcases hdom' _ hj with hj|hj
    ·exact hfresh y ((hmem y).2 (.inr hy)) hj
    ·exact hne y hy (by omega)
def onsB (ops:List Oper)(ns fl rest:List Nat):Bool:=ns.all fun i=>match get ops i with
 |some o=> !memB i rest&&o.after.toList.all fun e=> !Region.binds .any e||(!memB e.on fl&&(!memB e.on rest&&Nat.blt e.on i))
 |none=>false
def waitB (mk:List Nat)(ns rest:List Nat):Bool:=rest.all fun i=>ns.all fun j=>(jJ mk i).testBit j
def nodupB:List Nat→Bool
 | []=>true
 |a::l=> !memB a l&&nodupB l
theorem nodupB_ok :∀{l:List Nat},nodupB l=true→l.Nodup
 | [],_=>.nil
 |a::l,h=>by
  unfold nodupB at h
  simp only[Bool.and_eq_true,Bool.not_eq_true']at h
  exact List.nodup_cons.2 ⟨(fun hm=>by rw[memB_iff.2 hm]at h;exact absurd h.1 (by decide)),nodupB_ok h.2⟩
def chkQ (ops:List Oper)(un ns fl rest:List Nat)(l:List Tr):Bool:=
 onsB ops ns fl rest&&(nodupB (ns++fl)&&(Nat.ble (jT fl) 1&&(((ns++fl).all fun i=>Nat.blt i (jT ops))&&((un.all fun i=>memB i (ns++fl++rest))&&(((ns++fl++rest).all fun i=>memB i un)&&(Nat.ble (jT ns+jT fl+jT rest) (jT un) &&
  (let mk:=v6 ops [];waitB mk ns rest&&pairsB mk l)))))))
theorem WI.sub {w0:World}{L:List (Nat×Nat)}{ρ:Env}{M M1:Mem}{S:Nat→Prop}{w:World}(h:WI w0 L ρ M S w)(hs :∀i o,M1 i=some o→M i=some o):WI w0 L ρ M1 S w:=
 ⟨fun i o hi=>h.mem i o (hs i o hi),fun i j oi oj hi hj=>h.dist i j oi oj (hs i oi hi) (hs j oj hj),fun i o hi=>h.new i o (hs i o hi),h.lid,h.keep,h.size,h.os,h.tape,h.output⟩
def chkF (fl:List Nat)(l:List Tr)(ts ms:List Nat):Bool:=
 l.all fun y=> !memB y.i fl||((ts.all fun t=>match y.dst with
  |some d=> !Nat.beq d t
  |none=>true)&&ms.all fun m=> !memB m y.wr)
theorem Run.drawQ {c:Cx}(hc:c.ok){T:List (Nat×SV)}{M:List (Nat×SObj)}{n:Nat}{D:List Deferred}{ops:Array Oper}{un l0:List Nat}{k:List Item}{R:Ending→World→Prop}(ns fl rest:List Nat)(hl0:Lin ops un l0)
  (h:jP c ops.toList n False (fun T' M' l=>chkQ ops.toList un ns fl rest l=true∧(∀l1,Lin ops rest l1→Run c ⟨T',M',n+jT ops.toList,D,.inRegion ops l1::k⟩ R) ∧
   (fl=[] ∨ ∃Tn Mn,chkF fl l (Tn.map (·.1)) (Mn.map (·.1))=true∧AllP (fun x=>look T' x.1=some x.2) Tn∧AllP (fun x=>look M' x.1=some x.2) Mn ∧ ∀l1,Lin ops (fl++rest) l1→Run c ⟨Tn,Mn,n+jT ops.toList,D,.inRegion ops l1::k⟩ R)) (ns++fl) T M []) :
  Run c ⟨T,M,n,D,.inRegion ops l0::k⟩ R:=by
 rcases u4 _ _ _ _ h with h|⟨l,T',M',h1,h2,h3,h4,h5⟩
 ·exact h.elim
 simp only[List.nil_append]at h3 h5
 unfold chkQ at h3
 simp only[Bool.and_eq_true]at h3
 obtain⟨c1,c2,c3,c4,c5,c6,c7,c8,c9⟩:=h3
 have hmk :∀k j,(jJ (v6 ops.toList []) k).testBit j=true→TP ops j k:=uG ops.toList [] (by simp) (by simp[jJ])
 have hidx:l.map (·.1.i)=ns++fl:=h1
 have hnd:(ns++fl).Nodup:=nodupB_ok c2
 have hap:l.Pairwise (fun a b=>TP ops a.1.i b.1.i∨Apart a.1 b.1):=List.pairwise_map.1 (wM hmk c9)
 have hsz :∀i∈ns++fl,i<ops.size:=fun i hi=>by
  have:=List.all_eq_true.1 c4 i hi
  rwa [Nat.blt_eq,j6,Array.length_toList]at this
 have hunm :∀i,i∈un↔i∈ns++fl++rest:=fun i=>⟨fun hi=>memB_iff.1 (List.all_eq_true.1 c5 i hi),fun hi=>memB_iff.1 (List.all_eq_true.1 c6 i hi)⟩
 have hcl :∀i∈ns,∀o e,ops[i]? = some o→e∈o.after→Region.binds .any e=true→e.on∉fl∧e.on∉rest∧e.on<i:=fun i hi o e ho he hb=>by
  have:=List.all_eq_true.1 c1 i hi
  rw[q8,Array.getElem?_toList,ho]at this
  simp only[Bool.and_eq_true]at this
  have h6:=List.all_eq_true.1 this.2 e (by simpa using he)
  rw[hb]at h6
  simp only[Bool.not_true,Bool.false_or,Bool.and_eq_true,Bool.not_eq_true']at h6
  refine⟨fun hm=> ?_,fun hm=> ?_,by simpa[Nat.blt_eq]using h6.2.2⟩
  ·rw[memB_iff.2 hm]at h6;cases h6.1
  ·rw[memB_iff.2 hm]at h6;cases h6.2.1
 have hns :∀i∈ns,i<ops.size∧i∉rest:=fun i hi=>⟨hsz i (List.mem_append_left _ hi),fun hm=>by
  have:=List.all_eq_true.1 c1 i hi
  split at this
  ·rw[memB_iff.2 hm]at this;simp at this
  ·cases this⟩
 have htail :∀i∈rest,∀j∈ns,TP ops j i:=fun i hi j hj=>hmk _ _ (List.all_eq_true.1 (List.all_eq_true.1 c8 i hi) j hj)
 obtain⟨fuel,t,listed,rfl,g1,g2,g3,g4⟩:=hl0
 refine⟨fun ρ a w hi=> ?_⟩
 have hlt :∀x,(x<n)→x<n+ops.size:=fun x hx=>by omega
 have hnl:n+jT ops.toList=n+ops.size:=by rw[j6,Array.length_toList]
 have hmono :∀{S:Nat→Prop},(∀x,S x→x<n+ops.size) → ∀x,S x→x<n+jT ops.toList:=fun hS x hx=>by rw[hnl];exact hS x hx
 refine gameQ hc ns fl rest l hcl hns htail (fun l2 l1 hl2 hnd2 hlin T2 M2 S ρ a w hr q1 q2 q3 q4 hS=> ?_) fuel l t listed _ _ (· < n) ρ a w g1 (fun i hi2=> ?_) g3 ?_ (fun x hx=>hx) (fun x hx=> ?_) (by rw[hidx];exact hnd) hap h2 hi.sz hi.tm hi.df hi.wi hlt (fun x hx hlt'=>by omega)
 ·cases l2 with
  |nil=>
   obtain⟨rfl,rfl⟩:=hr
   exact(h4 l1 (by simpa using hlin)).go ρ a w ⟨q1,q2.mono (hmono hS),q3,q4.mono (hmono hS)⟩
  |cons x l3=>
   have hxf :∀y∈x::l3,y.1.i∈fl:=fun y hy=>by
    have h6:=hl2 y hy
    have:y.1.i∈ns++fl:=by rw[←hidx];exact List.mem_map.2 ⟨y,h6.1,rfl⟩
    rcases List.mem_append.1 this with h7|h7
    ·exact absurd h7 h6.2
    ·exact h7
   have hfl1 :∃f,fl=[f]:=by
    have h6:=Nat.le_of_ble_eq_true c3
    rw[j6]at h6
    cases fl with
    |nil=>have:=hxf x (by simp);cases this
    |cons f fl'=>
     have:fl'=[]:=List.length_eq_zero_iff.1 (by simp only[List.length_cons]at h6;omega)
     exact⟨f,by rw[this]⟩
   obtain⟨f,rfl⟩:=hfl1
   have hl3:l3=[]:=by
    cases l3 with
    |nil=>rfl
    |cons y l4=>
     exfalso
     have e1:x.1.i=f:=by simpa using hxf x (by simp)
     have e2:y.1.i=f:=by simpa using hxf y (by simp)
     have:=(List.nodup_cons.1 hnd2).1
     exact this (by simp[e1,e2])
   subst hl3
   rcases h5 with h5|⟨Tn,Mn,k0,k1,k2,k3⟩
   ·cases h5
   have hxi:x.1.i=f:=by simpa using hxf x (by simp)
   obtain⟨hst,rfl',rfl''⟩:=hr
   have hxl:=(hl2 x (by simp)).1
   have hxm:x.1∈l.map (·.1):=List.mem_map.2 ⟨x,hxl,rfl⟩
   have k0':=List.all_eq_true.1 k0 x.1 hxm
   rw[memB_iff.2 (by simp[hxi])]at k0'
   simp only[Bool.not_true,Bool.false_or,Bool.and_eq_true]at k0'
   have e1 :∀t v,look Tn t=some v→T2 t=some v:=fun t v ht=>by
    have m1:=k1.mem _ (qF ht)
    simp only at m1
    rw[←m1,←rfl']
    refine(vX fun u hu e=> ?_).symm
    have:=List.all_eq_true.1 k0'.1 t (List.mem_map.2 ⟨_,qF ht,rfl⟩)
    rw[hu]at this
    subst e
    simp[Nat.beq_refl]at this
   have e2 :∀i o,look Mn i=some o→M2 i=some o:=fun i o hi=>by
    have m1:=k2.mem _ (qF hi)
    simp only at m1
    rw[←m1,←rfl'']
    refine(hst.memOther fun hw=> ?_).symm
    have:=List.all_eq_true.1 k0'.2 i (List.mem_map.2 ⟨_,qF hi,rfl⟩)
    rw[memB_iff.2 hw]at this
    cases this
   refine(k3 l1 (by simpa[hxi]using hlin)).go ρ a w ⟨q1,fun t v ht=> ?_,q3,(q4.mono (hmono hS)).sub e2⟩
   exact(q2.mono (hmono hS)) t v (e1 t v ht)
 ·rw[g2 i hi2,hidx,hunm]
 ·have:l.length=(ns++fl).length:=by rw[←hidx,List.length_map]
  have h6:=Nat.le_of_ble_eq_true c7
  rw[j6,j6,j6,j6]at h6
  simp only[List.length_append]at this
  omega
 ·have:x.1.i∈ns++fl:=by rw[←hidx];exact List.mem_map.2 ⟨x,hx,rfl⟩
  exact⟨hsz _ this,List.mem_append.1 this⟩
theorem joinA {G:Prop}{c:Cx}{R:Ending→World→Prop}{k:List Item}{ops:Array Oper}(T:List (Nat×SV))(M:List (Nat×SObj))(n:Nat)(un:List Nat)(h1:(∀l1,Lin ops un l1→Run c ⟨T,M,n,[],.inRegion ops l1::k⟩ R)→G)
  (h2 :∀l1,Lin ops un l1→Run c ⟨T,M,n,[],.inRegion ops l1::k⟩ R):G:=h1 h2
theorem tF {P:Program}{t e ty:TypeId}{i:TypeInfo}(w:World)(ht:P.underlying t=some (.slice e))(hi:P.info? e=some i)(a:Addr)(len cap cap2:Nat)(hle:len≤cap) :
  (Builtin.append_ #[t,t] ty #[.slice (some a) len cap,.slice none 0 cap2]).run P w = .ok (.slice (some a) len cap) w:=by
 simp[Builtin.append_,run_underlying ht,sizeOf,typeInfo,hi,Builtin.lenOf,hle,run_firstCells_none,storeCells]
theorem Run.appendNil {c:Cx}(hc:c.ok){T:List (Nat×SV)}{M:List (Nat×SObj)}{n:Nat}{D:List Deferred}{ops:Array Oper}{i:Nat}{r:List Nat}{k:List Item}{R:Ending→World→Prop}{o:Oper}{x y:Operand}{t:TypeId}
  (ho:get ops.toList i=some o) (hop:o.op = .call { callee:=.builtin .append,args:= #[x,y],argTypes:= #[t,t] }) (hw:zQ ops.toList (look T) o=some true) (hd:okD c.fn.ntmps o.dst=true)
  {j off len cap:Nat} (hx:ev (look T) x=some (.slc j off len cap)) {cap2:Nat} (hle:len≤cap) (hy:ev (look T) y=some (.v (.slice none 0 cap2))) {ti:TI} {te:TypeId} {e bytes:Nat} (hti:look c.tab t=some ti) (hsh:ti.sh = .slc te e bytes)
  (h:Run c ⟨z5 T o.dst (.slc j off len cap),M,n,D,.inRegion ops r::k⟩ R):Run c ⟨T,M,n,D,.inRegion ops (i::r)::k⟩ R:=by
 refine⟨fun ρ a w hi=> ?_⟩
 rw[q8,Array.getElem?_toList]at ho
 refine TW.op ho (zI hi.tm hw) ?_
 obtain⟨h1,hs1⟩:=qO hi.tm hx
 obtain⟨h2,_⟩:=qO hi.tm hy
 have hti:=Tab.ok_look hc.tab hti
 obtain⟨d,hd1,hd2⟩:=hti.desc
 obtain⟨inf,rfl,g2,g3,g4⟩:=sh_desc.2.2.2.2.1 te e bytes (hd2.trans hsh)
 have hrun:(execOp a.eval o).run c.P w = .ok (.value ((SV.slc j off len cap).conc ρ)) w:=by
  simp only[SV.conc]at h1 h2
  simp[execOp,hop,resolve,invoke,builtin,h1,h2,tF w hd1 g2 _ len cap cap2 hle,SV.conc]
 refine Oc.value hrun ?_
 have hinv:=hi.put (ρ':=ρ) hd (Env.agree.refl _ ρ) (Nat.le_refl n) (v:=.slc j off len cap) hs1 hi.wi (.inRegion ops r::k)
 exact h.go _ _ w hinv
end Go.Sx
namespace Go.Proofs.Ytnnlpdgnlccbjaa
open Go.Sx
set_option maxRecDepth 100000
set_option maxHeartbeats 4000000
theorem sR (v:Value)(more:List Int)(w:World)(hr:RowsAt w v 1 more.length (qD more))(hn:more.length≤1000):Calls Try.prog 34 #[v] w (kB 3 1 (more.length+3) ([.int .i64 (-1),.int .i64 (-1),.int .i64 0]++qD more) w):=by
 have hc :∀f fn cuts L,Try.prog.funcs[f]? = some fn→Cx.ok ⟨Try.prog,tab,[],f,fn,cuts,w,L,none⟩:=fun f fn cuts L h=>⟨qI,trivial,h,mixed,fun _ h=>by cases h⟩
 obtain⟨hl,p,cap,rfl,hcap,hp⟩:=hr
 obtain⟨m,hm⟩ :∃m,more.length=m:=⟨_,rfl⟩
 rw[hm]at hl hcap hp hn ⊢
 refine Run.s9 (tab:=tab) (pf:=[]) (cuts:=[]) mixed qI trivial Try.func34 rfl [.v (.slice p m cap)] 100 (by simp[SV.scs,SV.sc]) rfl ?_
 conv=>whnf
 cases p with
 |none=>
  have h0:m=0:=by
   rcases hp with hp|⟨_,_,hp,_⟩
   ·exact hp
   ·cases hp
  subst h0
  have hvs:qD more=[]:=List.eq_nil_of_length_eq_zero (by simpa using hl)
  rw[hvs]
  refine Run.appendNil (hc _ _ _ _ Try.func34) rfl rfl rfl rfl rfl (by decide) rfl rfl rfl ?_
  refine Run.s0 (hc _ _ _ _ Try.func34) 1 _ ?_
  conv=>whnf
  refine Run.rJ (T':=[(2,.opq 1)]) (M':=[]) 0 1 3 [ii (-1),ii (-1),ii 0] 3 rfl rfl (by omega) (AllP.mem ⟨.inr ⟨rfl,rfl⟩,trivial⟩) (fun x hx=>by cases hx) ?_
  refine Run.s0 (hc _ _ _ _ Try.func34) 100 _ ?_
  conv=>whnf
  refine⟨fun ρ w' hW _=>⟨(SV.opq 1).conc ρ,rfl,hW.toExt,?_⟩⟩
  exact hW.ownsNew (i:=1) (e:=1) rfl (by omega)
 |some ad=>
  refine Run.rJ (T':=[(3,.opq 1),(4,.v (.slice (some ad) m cap))]) (M':=[]) 0 1 3 [ii (-1),ii (-1),ii 0] 3 rfl rfl (by omega) (AllP.mem ⟨.inr ⟨rfl,rfl⟩,.inl rfl,trivial⟩) (fun x hx=>by cases hx) ?_
  refine Run.rR (hc _ _ _ _ Try.func34) rfl rfl rfl rfl rfl rfl (qD more) rfl hl (fun ρ w1 hW jj u hu=> ?_) (one_ints _) rfl rfl rfl rfl (by omega) ⟨by omega,by omega⟩ [] (fun x hx=>by cases hx) ?_
  ·have hr2:RowsAt w (.slice (some ad) m cap) 1 m (qD more):=⟨hl,some ad,cap,rfl,hcap,hp⟩
   obtain⟨_,p2,cap2,h2,_,h3⟩:=hr2.ext hW.toExt
   simp only[Value.slice.injEq]at h2
   obtain⟨rfl,_,rfl⟩:=h2
   rcases h3 with h3|⟨blk,off,h3,h4,h5⟩
   ·subst h3
    have hvs:qD more=[]:=List.eq_nil_of_length_eq_zero (by simpa using hl)
    rw[hvs]at hu
    cases hu
   ·obtain rfl:=Option.some.inj h3
    rw[zV];exact h5 jj u hu
  refine Run.s0 (hc _ _ _ _ Try.func34) 100 _ ?_
  conv=>whnf
  refine⟨fun ρ w' hW _=>⟨(SV.opq 2).conc ρ,rfl,hW.toExt,?_⟩⟩
  have:=hW.ownsNew (i:=2) (e:=1) rfl (by omega)
  rw[zZ,zN,Nat.add_comm]at this
  exact this
def u7:List Value→Option (List Int)
 | []=>some []
 | .int .i64 x::l=>match u7 l with
  |some r=>some (x::r)
  |none=>none
 |_::_=>none
theorem sJ :∀l:List Int,u7 (qD l)=some l
 | []=>rfl
 |a::l=>by
  show u7 (.int .i64 a::qD l)=_
  unfold u7
  rw[sJ l]
theorem intsOf_eq :∀{l:List Value} {r:List Int},u7 l=some r→l=qD r
 | [],r,h=>by obtain rfl:=Option.some.inj h;rfl
 |v::l,r,h=>by
  unfold u7 at h
  split at h
  ·rename_i hv;cases hv
  ·rename_i hv
   split at h
   ·rename_i hr
    obtain rfl:=Option.some.inj h
    simp only[List.cons.injEq]at hv
    obtain⟨rfl,rfl⟩:=hv
    rw[intsOf_eq hr];rfl
   ·cases h
  ·cases h
def FPl:Mem→List SV→Option (List Nat×SV):=fun M args=>match args with
 | [.v (.slice none 0 0)]=>some ([1,3,3],.agg [ii (-1),ii (-1),ii 0])
 | [.opq j]=>match M j with
  |some (.rwin 1 n vs)=>match u7 vs with
   |some more=>if more.length=n∧n≤1000 then some ([1,n+3,3],.agg ([ii (-1),ii (-1),ii 0]++(qD more).map .v))else none
   |none=>none
  |_=>none
 |_=>none
theorem FPl_win {more:List Int}{M:Mem}{j:Nat}(hM:M j=some (.rwin 1 more.length (qD more)))(hn:more.length≤1000):FPl M [.opq j]=some ([1,more.length+3,3],.agg ([ii (-1),ii (-1),ii 0]++(qD more).map .v)):=by
 unfold FPl
 simp only[hM,sJ]
 rw[if_pos ⟨trivial,hn⟩]
theorem mk_plastic:Maker Try.prog 34 FPl where
 ent:=ent _ _ Try.func34 (by kernel_rfl) rfl
 cong M M' args hb:=by
  unfold FPl
  split
  ·rfl
  ·rename_i j
   rw[hb (.opq j) (by simp) j (by simp[yK])]
  ·rfl
 run w0 L ρ M S args e m te xs w hW hF hs:=by
  unfold FPl at hF
  split at hF
  ·simp only[Option.some.injEq,Prod.mk.injEq,List.cons.injEq,SV.agg.injEq,and_true]at hF
   obtain⟨⟨rfl,rfl,rfl⟩,rfl⟩:=hF
   exact⟨by simp[SV.scs,SV.sc],sR (.slice none 0 0) [] w ⟨rfl,none,0,rfl,Nat.le_refl _,.inl rfl⟩ (by simp)⟩
  ·rename_i j
   split at hF
   ·rename_i n vs hM
    split at hF
    ·rename_i more hmore
     split at hF
     ·rename_i hc
      obtain⟨rfl,hn⟩:=hc
      obtain rfl:=intsOf_eq hmore
      simp only[Option.some.injEq,Prod.mk.injEq,List.cons.injEq,SV.agg.injEq,and_true]at hF
      obtain⟨⟨rfl,rfl,rfl⟩,rfl⟩:=hF
      refine⟨z4 (by simp[SV.scs,SV.sc]) (qL _ _),?_⟩
      have:=sR _ more w (hW.rowsAt hM) hn
      rw[zZ,zN]
      exact this
     ·cases hF
    ·cases hF
   ·cases hF
  ·cases hF
 runM w0 L ρ M S args pk w hW hF hs:=by
  exfalso
  unfold FPl at hF
  split at hF
  ·cases hF
  ·split at hF
   ·split at hF
    ·split at hF
     ·cases hF
     ·cases hF
    ·cases hF
   ·cases hF
  ·cases hF
theorem first_run (w:World):Calls Try.prog 41 #[] w (kB 62 2 2 [.int .i64 0,.int .i64 0,.int .i64 2,.int .i64 1] w):=by
 have hc :∀f fn cuts L,Try.prog.funcs[f]? = some fn→Cx.ok ⟨Try.prog,tab,[],f,fn,cuts,w,L,none⟩:=fun f fn cuts L h=>⟨qI,trivial,h,mixed,fun _ h=>by cases h⟩
 refine Run.s9 (tab:=tab) (pf:=[]) (cuts:=[]) mixed qI trivial Try.func41 rfl [] 10 trivial rfl ?_
 conv=>whnf
 refine Run.rJ (T':=[(0,.opq 1)]) (M':=[]) 0 2 2 [ii 0,ii 0,ii 2,ii 1] 62 rfl rfl (by omega) (AllP.mem ⟨.inr ⟨rfl,rfl⟩,trivial⟩) (fun x hx=>by cases hx) ?_
 refine Run.s0 (hc _ _ _ _ Try.func41) 100 _ ?_
 conv=>whnf
 refine⟨fun ρ w' hW _=>⟨(SV.opq 1).conc ρ,rfl,hW.toExt,?_⟩⟩
 exact hW.ownsNew (i:=1) (e:=2) rfl (by omega)
def FFi:Mem→List SV→Option (List Nat×SV):=fun _ args=>match args with
 | []=>some ([2,2,62],.agg [ii 0,ii 0,ii 2,ii 1])
 |_=>none
theorem mk_first:Maker Try.prog 41 FFi where
 ent:=ent _ _ Try.func41 (by kernel_rfl) rfl
 cong M M' args hb:=rfl
 run w0 L ρ M S args e m te xs w hW hF hs:=by
  unfold FFi at hF
  split at hF
  case h_2=>cases hF
  simp only[Option.some.injEq,Prod.mk.injEq,List.cons.injEq,SV.agg.injEq,and_true]at hF
  obtain⟨⟨rfl,rfl,rfl⟩,rfl⟩:=hF
  exact⟨by simp[SV.scs,SV.sc],first_run w⟩
 runM w0 L ρ M S args pk w hW hF hs:=by
  exfalso
  unfold FFi at hF
  split at hF<;>cases hF
def exRul:Rul:=⟨1,16,8,8,64,128,0,0,9,false⟩
def z6:Prm:=⟨0,0,0,5,0,0,0,0⟩
def exS:List Syn:=[⟨-1,0,5,1⟩,⟨-2,1,5,1⟩,⟨0,1,2,1⟩]
def exNet:Net:=⟨[z6,z6],2,exS⟩
theorem example_spec:BSpec Try.prog 33 [] [] 0 [] (.tup [.agg [.opq 0,ii 2,.opq 1],.agg (exRul.vals.map .v)]) [(0,.row 8 2 (([z6,z6].flatMap Prm.vals).map .v) 60),(1,.row 4 3 ((exS.flatMap Syn.vals).map .v) 55)] 2:=by
 have hc :∀w L' rd,(∀p,rd=some p→p∈L')→Cx.ok ⟨Try.prog,tab,[],33,Try.f33,[],w,L',rd⟩:=fun w L' rd h=>⟨qI,trivial,Try.func33,mixed,h⟩
 refine BSpec.start (tab:=tab) (pf:=[]) (cuts:=[]) Try.func33 rfl trivial rfl fun w L0 plp hL hLB hcov=>Run.s0 (hc w L0 none nofun) 20 _ ?_
 conv=>whnf
 refine Run.rJ (T':=[(0,.ptr 1 0),(1,.ptr 2 0),(7,.opq 6),(11,.slc 5 0 3 3)]) (M':=[(0,.pin plp),(1,.cells [nq,ii 0,nq] 25),(2,.cells [ii 0,ii 0,ii 0,ii 0,ii 0,ii 0,ii 0,ii 0,ii 0,.v (.bool false)] 36),(5,.cells ((exS.flatMap Syn.vals).map .v) 55)]) 4 8 2 (([z6,z6].flatMap Prm.vals).map .v) 60 rfl rfl (by omega) (AllP.mem ⟨.inl rfl,.inl rfl,.inr ⟨rfl,rfl⟩,.inl rfl,trivial⟩) (AllP.mem (by repeat first|exact trivial|refine⟨⟨rfl,(neb rfl)⟩,?_⟩)) ?_
 refine Run.rJ (T':=[(0,.ptr 1 0),(1,.ptr 2 0),(7,.opq 6),(11,.opq 7)]) (M':=[(6,.row 8 2 (([z6,z6].flatMap Prm.vals).map .v) 60),(0,.pin plp),(1,.cells [nq,ii 0,nq] 25),(2,.cells [ii 0,ii 0,ii 0,ii 0,ii 0,ii 0,ii 0,ii 0,ii 0,.v (.bool false)] 36)]) 5 4 3 ((exS.flatMap Syn.vals).map .v) 55 rfl rfl (by omega) (AllP.mem ⟨.inl rfl,.inl rfl,.inl rfl,.inr ⟨rfl,rfl⟩,trivial⟩) (AllP.mem (by repeat first|exact trivial|refine⟨⟨rfl,(neb rfl)⟩,?_⟩)) ?_
 refine Run.s0 (hc w L0 none nofun) 100 _ ?_
 conv=>whnf
 refine SpecR.rT (rq [(0,6),(1,7)]) (fun i hi=>absurd hi (by omega)) ?_ (Widens.refl _ _) hLB (by decide) hcov rfl rfl (by simp[SV.sc,SV.scs,qL]) ?_
 ·intro i hi j hj hne
  have inj :∀i,i<2 → ∀j,j<2→i≠j→rq [(0,6),(1,7)] i≠rq [(0,6),(1,7)] j:=by decide
  exact inj i hi j hj hne
 ·exact⟨⟨congrArg some (ofx (o:=.row 8 2 (([z6,z6].flatMap Prm.vals).map .v) 60) (qL _ _)).symm,by omega,Os.h _⟩,⟨congrArg some (ofx (o:=.row 4 3 ((exS.flatMap Syn.vals).map .v) 55) (qL _ _)).symm,by omega,Os.h _⟩,trivial⟩
theorem same_run (vA vB : Value) (a b : List Evt) (w : World) (hA : RowsAt w vA 2 a.length (a.flatMap Evt.vals)) (hB : RowsAt w vB 2 b.length (b.flatMap Evt.vals)) (hl : a.length ≤ 1000000) :
    Calls Try.prog 22 #[vA,vB] w fun e w' => e = .returned (.bool (decide (a = b))) ∧ Ext w w' := by
  have hc : ∀ L,Cx.ok ⟨Try.prog,tab,[],22,Try.f22,[],w,L,none⟩ := fun L => ⟨qI,trivial,Try.func22,mixed,fun _ h => by cases h⟩
  have hrows : AllP (fun x : Value × Nat × Nat × List Value => RowsAt w x.1 x.2.1 x.2.2.1 x.2.2.2) [(vA,2,a.length,a.flatMap Evt.vals),(vB,2,b.length,b.flatMap Evt.vals)] := ⟨hA,hB,trivial⟩
  refine Run.rH Try.func22 rfl _ hrows [.opq 0,.opq 1] [vA,vB] [(0,.rwin 2 a.length (a.flatMap Evt.vals)),(1,.rwin 2 b.length (b.flatMap Evt.vals))] 2 rfl rfl
    (by show [(SV.opq 0).conc _,(SV.opq 1).conc _] = _; rw [qM hrows (k := 0) rfl,qM hrows (k := 1) rfl]) (by simp [SV.scs,SV.sc]) rfl (Run.s0 (hc _) 1000 _ ?_)
  conv => whnf
  cases e1 : ((a.length : Int) != (b.length : Int))
  case true =>
    conv => whnf
    have e1' : a ≠ b := fun h => by rw [h] at e1; simp at e1
    exact ⟨fun ρ w' hW _ => ⟨by rw [decide_eq_false e1']; rfl,hW.toExt⟩⟩
  have hlen : a.length = b.length := by have : (a.length : Int) = (b.length : Int) := by simpa using e1
                                        omega
  conv => whnf
  refine Run.lJ (T := fun i => [(0,.opq 0),(1,.opq 1),(5,ii (i : Int))]) (M := fun _ => [(0,.rwin 2 a.length (a.flatMap Evt.vals)),(1,.rwin 2 b.length (b.flatMap Evt.vals))]) 2 (fun i => ∀ j (h : j < a.length) (h' : j < b.length),j < i → a[j] = b[j]) a.length ⟨⟨rfl,ltb rfl⟩,⟨rfl,ltb rfl⟩,⟨rfl,trivial⟩,trivial⟩ ⟨⟨rfl,by omega,Os.h _⟩,⟨rfl,by omega,Os.h _⟩,trivial⟩ (fun q hq => by cases hq) (fun j h h' hj => absurd hj (by omega)) ?_ ?_
  · intro i hi hJ ih
    have hi2 : i < b.length := by omega
    refine Run.W1 (hc _) ?_
    conv => whnf
    rw [decide_eq_true (show (i : Int) < (a.length : Int) by omega)]
    conv => whnf
    refine Run.draw (hc _) 9 ?_
    rw [show qG 0 9 = qG 0 3 ++ (qG 3 1 ++ (qG 4 3 ++ (qG 7 1 ++ qG 8 1))) from rfl]
    simp only [qV]
    conv => whnf
    refine ⟨by omega,?_⟩
    conv => whnf
    rw [jI (f := Evt.vals) (l := a) i rfl rfl rfl rfl rfl Evt.vlen (by rw [qQ]) hi]
    conv => whnf
    refine ⟨by omega,?_⟩
    conv => whnf
    rw [jI (f := Evt.vals) (l := b) i rfl rfl rfl rfl rfl Evt.vlen (by rw [qQ]) hi2]
    conv => whnf
    refine ⟨by kernel_rfl,?_⟩
    refine Run.W1 (hc _) ?_
    conv => whnf
    cases e2 : (!(a[i].tick == b[i].tick && (a[i].id == b[i].id && true)))
    case true =>
      conv => whnf
      have hne : a ≠ b := fun h => by subst h; simp at e2
      exact ⟨fun ρ w' hW _ => ⟨by rw [decide_eq_false hne]; rfl,hW.toExt⟩⟩
    have heq : a[i] = b[i] := by
      have h1 : a[i].tick = b[i].tick ∧ a[i].id = b[i].id := by simpa using e2
      cases ha : a[i] with
      | mk t1 i1 => cases hb : b[i] with
        | mk t2 i2 => rw [ha,hb] at h1; simp only at h1; rw [h1.1,h1.2]
    conv => whnf
    exact Run.tH (ih fun j h h' hj => by
      by_cases e : j = i
      · subst e; exact heq
      · exact hJ j h h' (by omega)) ⟨⟨rfl,ltb rfl⟩,⟨rfl,ltb rfl⟩,⟨wsx (by omega),trivial⟩,trivial⟩ ⟨⟨rfl,by omega,Os.h _⟩,⟨rfl,by omega,Os.h _⟩,trivial⟩ (fun q hq => by cases hq)
  · intro hJ
    refine Run.W1 (hc _) ?_
    conv => whnf
    rw [decide_eq_false (show ¬ (a.length : Int) < (a.length : Int) by omega)]
    conv => whnf
    have hab : a = b := List.ext_getElem hlen fun i h1 h2 => hJ i h1 h2 h1
    exact ⟨fun ρ w' hW _ => ⟨by rw [decide_eq_true hab]; rfl,hW.toExt⟩⟩
set_option maxHeartbeats 8000000
def yG:List Evt:=[⟨0,0⟩,⟨2,1⟩]
abbrev pfTrd:PF:=[(34+1000,FPl),(41+1000,FFi)]
theorem gR:PF.oks Try.prog pfTrd:=⟨mk_plastic,mk_first,trivial⟩
def yP (n:Net)(r:Rul)(more:List Int):Lnt:=⟨n,[r],[-1,-1,0]++more⟩
def trdB (n:Net)(r:Rul)(pz:List Prz)(more ws:List Int):Bool:=decide (∀i,i<ws.length→((nowL n.S (trS (yP n r more) yG pz 10).m).getD (2+i) zC).w=ws.getD i 0)
theorem trained_run (vN vS:Value)(n:Net)(r:Rul)(vZ:Value)(pz:List Prz)(vM:Value)(more:List Int)(vW:Value)(ws:List Int)(w:World)(hn:xU w vN vS n)(hz:RowsAt w vZ 3 pz.length (pz.flatMap Prz.vals))(hm:RowsAt w vM 1 more.length (qD more))(hw:RowsAt w vW 1 ws.length (qD ws))
  (hml:more.length≤1000) (hS:n.S.length=2+ws.length) (h:qZ n [r] ([-1,-1,0]++more)=0) (hp:zO ⟨[zB],n.inp,[]⟩ yG 10 10000=0) (hpz:jX 1 pz=0) :
  Calls Try.prog 35 #[netV vN vS n,r.sv.conc zP,vZ,vM,vW] w fun e w'=>e = .returned (.bool (trdB n r pz more ws))∧Ext w w':=by
 have hc :∀L' rd,(∀p,rd=some p→p∈L')→Cx.ok ⟨Try.prog,tab,pfTrd,35,Try.f35,[],w,L',rd⟩:=fun L' rd h=>⟨qI,gR,Try.func35,mixed,h⟩
 obtain⟨h1,h2⟩:=hn
 obtain⟨N,inp,S⟩:=n
 simp only at h1 h2 hS hp
 have hx:NetOK (yP ⟨N,inp,S⟩ r more):=uH h
 have hrows:AllP (fun x:Value×Nat×Nat×List Value=>RowsAt w x.1 x.2.1 x.2.2.1 x.2.2.2) [(vN,8,N.length,N.flatMap Prm.vals),(vS,4,S.length,S.flatMap Syn.vals),(vZ,3,pz.length,pz.flatMap Prz.vals),(vM,1,more.length,qD more),(vW,1,ws.length,qD ws)]:=⟨h1,h2,hz,hm,hw,trivial⟩
 have hx1:N.length≤1024:=hx.N2
 have hx2:S.length≤8192:=hx.S1
 have hK:10*N.length≤65536:=by omega
 refine Run.rH Try.func35 rfl _ hrows [.agg [.opq 0,ii inp,.opq 1],.agg (r.vals.map .v),.opq 2,.opq 3,.opq 4] [netV vN vS ⟨N,inp,S⟩,r.sv.conc zP,vZ,vM,vW] [(0,.rwin 8 N.length (N.flatMap Prm.vals)),(1,.rwin 4 S.length (S.flatMap Syn.vals)),(2,.rwin 3 pz.length (pz.flatMap Prz.vals)),(3,.rwin 1 more.length (qD more)),(4,.rwin 1 ws.length (qD ws))] 5 rfl rfl
  (by show [Value.agg [(SV.opq 0).conc _,.int .i64 inp,(SV.opq 1).conc _].toArray,(SV.agg (r.vals.map .v)).conc _,(SV.opq 2).conc _,(SV.opq 3).conc _,(SV.opq 4).conc _]=_;rw[qM hrows (k:=0) rfl,qM hrows (k:=1) rfl,qM hrows (k:=2) rfl,qM hrows (k:=3) rfl,qM hrows (k:=4) rfl];rfl) (by simp[SV.scs,SV.sc,qL]) rfl (Run.s0 (hc [] none nofun) 1000 _ ?_)
 conv=>whnf
 apply joinL [(4,.opq 4),(5,.ptr 5 0),(12,.ptr 19 0),(13,ii 0)] [(19,.cells [.opq 25,ii inp,.opq 26] 25),(5,.cells [.opq 0,ii inp,.opq 1] 25),(1,.rwin 4 S.length (S.flatMap Syn.vals)),(4,.rwin 1 ws.length (qD ws)),(26,.row 4 S.length ((nowL S (trS (yP ⟨N,inp,S⟩ r more) yG pz 10).m).flatMap Syn.cells) 55)] 43
 ·intro tail
  refine Run.draw0 (hc [] none nofun) fun l0 hl0=> ?_
  have hlin:=Lin.ofGo [0,1,2,3,4,5,6,7,8,9,10,11,12,13,14,15] hl0 rfl (by decide)
  apply joinA [(12,.ptr 19 0),(4,.opq 4),(5,.ptr 5 0),(16,.agg [.opq 0,ii inp,.opq 1]),(18,.slc 9 0 1 1),(20,.opq 11),(21,.opq 12),(22,.opq 2)] [(19,.cells [nq,ii 0,nq] 25),(9,.cells (r.vals.map .v) 36),(11,.row 1 (more.length+3) ([ii (-1),ii (-1),ii 0]++(qD more).map .v) 3),(12,.row 2 2 [ii 0,ii 0,ii 2,ii 1] 62),(5,.cells [.opq 0,ii inp,.opq 1] 25),(0,.rwin 8 N.length (N.flatMap Prm.vals)),(1,.rwin 4 S.length (S.flatMap Syn.vals)),(2,.rwin 3 pz.length (pz.flatMap Prz.vals)),(3,.rwin 1 more.length (qD more)),(4,.rwin 1 ws.length (qD ws))] 23 [7,8,9,10,11,13,14,15]
  ·intro g1
   refine Run.drawQ (hc [] none nofun) [0,1,2,3,4,5,6] [12] [7,8,9,10,11,13,14,15] hlin ?_
   rw[show([0,1,2,3,4,5,6]++[12]:List Nat)=qG 0 5++[5,6,12]from rfl]
   simp only[qV]
   conv=>whnf
   rw[xT (F:=FPl) rfl rfl rfl rfl rfl (FPl_win rfl hml)]
   conv=>whnf
   refine⟨by kernel_rfl,fun l1 hl1=> ?_,.inr ⟨[(4,.opq 4),(5,.ptr 5 0),(16,.agg [.opq 0,ii inp,.opq 1]),(18,.slc 9 0 1 1),(20,.opq 11),(21,.opq 12),(22,.opq 2)],[(9,.cells (r.vals.map .v) 36),(11,.row 1 (more.length+3) ([ii (-1),ii (-1),ii 0]++(qD more).map .v) 3),(12,.row 2 2 [ii 0,ii 0,ii 2,ii 1] 62),(5,.cells [.opq 0,ii inp,.opq 1] 25),(0,.rwin 8 N.length (N.flatMap Prm.vals)),(1,.rwin 4 S.length (S.flatMap Syn.vals)),(2,.rwin 3 pz.length (pz.flatMap Prz.vals)),(3,.rwin 1 more.length (qD more)),(4,.rwin 1 ws.length (qD ws))],by kernel_rfl,⟨rfl,rfl,rfl,rfl,rfl,rfl,rfl,trivial⟩,⟨rfl,rfl,rfl,rfl,rfl,rfl,rfl,rfl,rfl,trivial⟩,fun l1 hl1=> ?_⟩⟩
   ·exact Run.tH (g1 l1 hl1) (by repeat first|exact trivial|refine⟨⟨rfl,ltb rfl⟩,?_⟩|refine⟨⟨rfl,⟨(show 0<23 by decide),trivial,ltb rfl,trivial⟩⟩,?_⟩) (by repeat first|exact trivial|refine⟨⟨rfl,by omega,qE _ rfl⟩,?_⟩|refine⟨⟨rfl,by omega,Os.h _⟩,?_⟩|refine⟨⟨rfl,by omega,z4 (by simp[SV.scs,SV.sc]) (qL _ _)⟩,?_⟩) (fun p hp=>by cases hp)
   ·obtain⟨i,l2,rfl,hi,_,hl2⟩:=hl1.next [7,12] rfl rfl rfl
    have hi2:i=7∨i=12:=by simpa using hi
    rcases hi2 with rfl|rfl
    ·refine Run.rJ (T':=[(4,.opq 4),(5,.ptr 5 0),(16,.agg [.opq 0,ii inp,.opq 1]),(18,.opq 23),(20,.opq 11),(21,.opq 12),(22,.opq 2)]) (M':=[(11,.row 1 (more.length+3) ([ii (-1),ii (-1),ii 0]++(qD more).map .v) 3),(12,.row 2 2 [ii 0,ii 0,ii 2,ii 1] 62),(5,.cells [.opq 0,ii inp,.opq 1] 25),(0,.rwin 8 N.length (N.flatMap Prm.vals)),(1,.rwin 4 S.length (S.flatMap Syn.vals)),(2,.rwin 3 pz.length (pz.flatMap Prz.vals)),(3,.rwin 1 more.length (qD more)),(4,.rwin 1 ws.length (qD ws))]) 9 10 1 (r.vals.map .v) 36 rfl rfl (by omega) (AllP.mem ⟨.inl rfl,.inl rfl,.inl rfl,.inr ⟨rfl,rfl⟩,.inl rfl,.inl rfl,.inl rfl,trivial⟩) (AllP.mem (by repeat first|exact trivial|refine⟨⟨rfl,(neb rfl)⟩,?_⟩)) ?_
     refine Run.s6 (T':=[(4,.opq 4),(5,.ptr 5 0),(16,.agg [.opq 0,ii inp,.opq 1]),(18,.opq 23),(20,.opq 11),(21,.opq 12),(22,.opq 2)]) (M':=[(23,.row 10 1 (r.vals.map .v) 36),(11,.row 1 (more.length+3) ([ii (-1),ii (-1),ii 0]++(qD more).map .v) 3),(12,.row 2 2 [ii 0,ii 0,ii 2,ii 1] 62),(5,.cells [.opq 0,ii inp,.opq 1] 25),(0,.rwin 8 N.length (N.flatMap Prm.vals)),(1,.rwin 4 S.length (S.flatMap Syn.vals)),(2,.rwin 3 pz.length (pz.flatMap Prz.vals)),(3,.rwin 1 more.length (qD more)),(4,.rwin 1 ws.length (qD ws))]) 24 (by repeat first|exact trivial|refine⟨⟨rfl,ltb rfl⟩,?_⟩|refine⟨⟨rfl,⟨(show 0<24 by decide),trivial,ltb rfl,trivial⟩⟩,?_⟩) (by repeat first|exact trivial|refine⟨⟨rfl,by omega,Os.h _⟩,?_⟩|refine⟨⟨rfl,by omega,qE _ rfl⟩,?_⟩|refine⟨⟨rfl,by omega,z4 (by simp[SV.scs,SV.sc]) (qL _ _)⟩,?_⟩) (fun p hp=>by cases hp) ?_
     refine Run.rI (vs:=[.agg [.opq 0,ii inp,.opq 1],.opq 2,.opq 3,.opq 4,.opq 5,ii 10]) (caps:=[]) (caps2:=[]) (tC (yP ⟨N,inp,S⟩ r more) yG pz 10 h hp hpz hK) (ent _ _ Try.func20 (by kernel_rfl) rfl) rfl rfl rfl rfl rfl rfl [.agg [.opq 0,ii inp,.opq 1],.opq 23,.opq 11,.opq 12,.opq 2,ii 10] rfl (rq [(2,23),(3,11),(4,12),(5,2)]) rfl (fun i hi=>by have inv :∀i,i<6→rq [(2,23),(3,11),(4,12),(5,2)] i<24:=(by decide);exact inv i hi) (fun i hi j hj hne=>by have inj :∀i,i<6 → ∀j,j<6→i≠j→rq [(2,23),(3,11),(4,12),(5,2)] i≠rq [(2,23),(3,11),(4,12),(5,2)] j:=(by decide);exact inj i hi j hj hne) (by decide) (by repeat first|exact trivial|refine⟨⟨by omega,trivial,⟨_,rfl,Conv.refl _⟩,.inl rfl,fun _=>by simp⟩,?_⟩|refine⟨⟨by omega,trivial,⟨_,rfl,Conv.row (by decide) rfl⟩,.inl rfl,fun _=>by simp⟩,?_⟩) (fun i hi=>by cases hi) (.tup [.opq 24,.agg [.opq 25,ii inp,.opq 26],ii 0]) [(24,.row 2 (trO (yP ⟨N,inp,S⟩ r more) yG pz 10).length ((trO (yP ⟨N,inp,S⟩ r more) yG pz 10).flatMap Evt.cells) 62),(25,.row 8 N.length ((N.flatMap Prm.vals).map .v) 60),(26,.row 4 S.length ((nowL S (trS (yP ⟨N,inp,S⟩ r more) yG pz 10).m).flatMap Syn.cells) 55),(5,.cells [.opq 0,ii inp,.opq 1] 25),(1,.rwin 4 S.length (S.flatMap Syn.vals)),(4,.rwin 1 ws.length (qD ws))] 27 rfl rfl
      ⟨.inr ⟨6,_,rfl,rfl,(ofx (o:=.row 2 (trO (yP ⟨N,inp,S⟩ r more) yG pz 10).length ((trO (yP ⟨N,inp,S⟩ r more) yG pz 10).flatMap Evt.cells) 62) (zT _ _)).symm,rfl⟩,.inr ⟨7,_,rfl,rfl,(ofx (o:=.row 8 N.length ((N.flatMap Prm.vals).map .v) 60) (qL _ _)).symm,rfl⟩,.inr ⟨8,_,rfl,rfl,(ofx (o:=.row 4 S.length ((nowL S (trS (yP ⟨N,inp,S⟩ r more) yG pz 10).m).flatMap Syn.cells) 55) (yH _ _)).symm,rfl⟩,.inl ⟨rfl,fun i hi=>by cases hi⟩,.inl ⟨rfl,fun i hi=>by cases hi⟩,.inl ⟨rfl,fun i hi=>by cases hi⟩,trivial⟩ ?_
     refine Run.drawQ (hc [] none nofun) [8,9,10,11,12,13,14,15] [] [] hl2 ?_
     conv=>whnf
     refine⟨by kernel_rfl,fun l3 hl3=> ?_,.inl rfl⟩
     obtain rfl:=hl3.nil
     refine Run.rC (T':=[(4,.opq 4),(5,.ptr 5 0),(12,.ptr 19 0),(13,ii 0)]) (M':=[(19,.cells [.opq 25,ii inp,.opq 26] 25),(5,.cells [.opq 0,ii inp,.opq 1] 25),(1,.rwin 4 S.length (S.flatMap Syn.vals)),(4,.rwin 1 ws.length (qD ws)),(26,.row 4 S.length ((nowL S (trS (yP ⟨N,inp,S⟩ r more) yG pz 10).m).flatMap Syn.cells) 55)]) (rq [(19,39),(39,19)]) 43 ?_ ?_ ?_ ?_ tail
     ·intro i hi j hj hne he
      have inv :∀i,i<43→rq [(19,39),(39,19)] (rq [(19,39),(39,19)] i)=i:=by decide
      exact hne (by rw[←inv i hi,he,inv j hj])
     ·exact⟨⟨rfl,ltb rfl⟩,⟨rfl,ltb rfl⟩,⟨rfl,ltb rfl⟩,⟨rfl,trivial⟩,trivial⟩
     ·exact⟨⟨rfl,by omega,qE _ rfl⟩,⟨rfl,by omega,qE _ rfl⟩,⟨rfl,by omega,Os.h _⟩,⟨rfl,by omega,Os.h _⟩,⟨congrArg some (ofx (o:=.row 4 S.length ((nowL S (trS (yP ⟨N,inp,S⟩ r more) yG pz 10).m).flatMap Syn.cells) 55) (yH _ _)).symm,by omega,Os.h _⟩,trivial⟩
     ·intro p hp;cases hp
    ·refine Run.s0 (hc [] none nofun) 1 _ ?_
     conv=>whnf
     refine Run.rC (T':=[(12,.ptr 19 0),(4,.opq 4),(5,.ptr 5 0),(16,.agg [.opq 0,ii inp,.opq 1]),(18,.slc 9 0 1 1),(20,.opq 11),(21,.opq 12),(22,.opq 2)]) (M':=[(19,.cells [nq,ii 0,nq] 25),(9,.cells (r.vals.map .v) 36),(11,.row 1 (more.length+3) ([ii (-1),ii (-1),ii 0]++(qD more).map .v) 3),(12,.row 2 2 [ii 0,ii 0,ii 2,ii 1] 62),(5,.cells [.opq 0,ii inp,.opq 1] 25),(0,.rwin 8 N.length (N.flatMap Prm.vals)),(1,.rwin 4 S.length (S.flatMap Syn.vals)),(2,.rwin 3 pz.length (pz.flatMap Prz.vals)),(3,.rwin 1 more.length (qD more)),(4,.rwin 1 ws.length (qD ws))]) (rq [(19,23),(23,19)]) 23 ?_ ?_ ?_ ?_ (g1 l2 hl2)
     ·intro i hi j hj hne he
      have inv :∀i,i<23→rq [(19,23),(23,19)] (rq [(19,23),(23,19)] i)=i:=by decide
      exact hne (by rw[←inv i hi,he,inv j hj])
     ·exact(by repeat first|exact trivial|refine⟨⟨rfl,ltb rfl⟩,?_⟩|refine⟨⟨rfl,⟨(show 0<23 by decide),trivial,ltb rfl,trivial⟩⟩,?_⟩)
     ·exact(by repeat first|exact trivial|refine⟨⟨rfl,by omega,qE _ rfl⟩,?_⟩|refine⟨⟨rfl,by omega,Os.h _⟩,?_⟩|refine⟨⟨congrArg some (ofx (o:=.cells (r.vals.map .v) 36) (qL _ _)).symm,by omega,Os.h _⟩,?_⟩|refine⟨⟨congrArg some (ofx (o:=.row 1 (more.length+3) ([ii (-1),ii (-1),ii 0]++(qD more).map .v) 3) (z4 (by simp[SV.scs,SV.sc]) (qL _ _))).symm,by omega,z4 (by simp[SV.scs,SV.sc]) (qL _ _)⟩,?_⟩)
     ·intro p hp;cases hp
  ·intro l1 hl1
   obtain⟨i,l2,rfl,hi,_,hl2⟩:=hl1.next [7] rfl rfl rfl
   obtain rfl:i=7:=by simpa using hi
   refine Run.rJ (T':=[(12,.ptr 19 0),(4,.opq 4),(5,.ptr 5 0),(16,.agg [.opq 0,ii inp,.opq 1]),(18,.opq 23),(20,.opq 11),(21,.opq 12),(22,.opq 2)]) (M':=[(19,.cells [nq,ii 0,nq] 25),(11,.row 1 (more.length+3) ([ii (-1),ii (-1),ii 0]++(qD more).map .v) 3),(12,.row 2 2 [ii 0,ii 0,ii 2,ii 1] 62),(5,.cells [.opq 0,ii inp,.opq 1] 25),(0,.rwin 8 N.length (N.flatMap Prm.vals)),(1,.rwin 4 S.length (S.flatMap Syn.vals)),(2,.rwin 3 pz.length (pz.flatMap Prz.vals)),(3,.rwin 1 more.length (qD more)),(4,.rwin 1 ws.length (qD ws))]) 9 10 1 (r.vals.map .v) 36 rfl rfl (by omega) (AllP.mem ⟨.inl rfl,.inl rfl,.inl rfl,.inl rfl,.inr ⟨rfl,rfl⟩,.inl rfl,.inl rfl,.inl rfl,trivial⟩) (AllP.mem (by repeat first|exact trivial|refine⟨⟨rfl,(neb rfl)⟩,?_⟩)) ?_
   refine Run.s6 (T':=[(12,.ptr 19 0),(4,.opq 4),(5,.ptr 5 0),(16,.agg [.opq 0,ii inp,.opq 1]),(18,.opq 23),(20,.opq 11),(21,.opq 12),(22,.opq 2)]) (M':=[(23,.row 10 1 (r.vals.map .v) 36),(19,.cells [nq,ii 0,nq] 25),(11,.row 1 (more.length+3) ([ii (-1),ii (-1),ii 0]++(qD more).map .v) 3),(12,.row 2 2 [ii 0,ii 0,ii 2,ii 1] 62),(5,.cells [.opq 0,ii inp,.opq 1] 25),(0,.rwin 8 N.length (N.flatMap Prm.vals)),(1,.rwin 4 S.length (S.flatMap Syn.vals)),(2,.rwin 3 pz.length (pz.flatMap Prz.vals)),(3,.rwin 1 more.length (qD more)),(4,.rwin 1 ws.length (qD ws))]) 24 (by repeat first|exact trivial|refine⟨⟨rfl,ltb rfl⟩,?_⟩|refine⟨⟨rfl,⟨(show 0<24 by decide),trivial,ltb rfl,trivial⟩⟩,?_⟩) (by repeat first|exact trivial|refine⟨⟨rfl,by omega,Os.h _⟩,?_⟩|refine⟨⟨rfl,by omega,qE _ rfl⟩,?_⟩|refine⟨⟨rfl,by omega,z4 (by simp[SV.scs,SV.sc]) (qL _ _)⟩,?_⟩) (fun p hp=>by cases hp) ?_
   refine Run.rI (vs:=[.agg [.opq 0,ii inp,.opq 1],.opq 2,.opq 3,.opq 4,.opq 5,ii 10]) (caps:=[]) (caps2:=[]) (tC (yP ⟨N,inp,S⟩ r more) yG pz 10 h hp hpz hK) (ent _ _ Try.func20 (by kernel_rfl) rfl) rfl rfl rfl rfl rfl rfl [.agg [.opq 0,ii inp,.opq 1],.opq 23,.opq 11,.opq 12,.opq 2,ii 10] rfl (rq [(2,23),(3,11),(4,12),(5,2)]) rfl (fun i hi=>by have inv :∀i,i<6→rq [(2,23),(3,11),(4,12),(5,2)] i<24:=(by decide);exact inv i hi) (fun i hi j hj hne=>by have inj :∀i,i<6 → ∀j,j<6→i≠j→rq [(2,23),(3,11),(4,12),(5,2)] i≠rq [(2,23),(3,11),(4,12),(5,2)] j:=(by decide);exact inj i hi j hj hne) (by decide) (by repeat first|exact trivial|refine⟨⟨by omega,trivial,⟨_,rfl,Conv.refl _⟩,.inl rfl,fun _=>by simp⟩,?_⟩|refine⟨⟨by omega,trivial,⟨_,rfl,Conv.row (by decide) rfl⟩,.inl rfl,fun _=>by simp⟩,?_⟩) (fun i hi=>by cases hi) (.tup [.opq 24,.agg [.opq 25,ii inp,.opq 26],ii 0]) [(24,.row 2 (trO (yP ⟨N,inp,S⟩ r more) yG pz 10).length ((trO (yP ⟨N,inp,S⟩ r more) yG pz 10).flatMap Evt.cells) 62),(25,.row 8 N.length ((N.flatMap Prm.vals).map .v) 60),(26,.row 4 S.length ((nowL S (trS (yP ⟨N,inp,S⟩ r more) yG pz 10).m).flatMap Syn.cells) 55),(19,.cells [nq,ii 0,nq] 25),(5,.cells [.opq 0,ii inp,.opq 1] 25),(1,.rwin 4 S.length (S.flatMap Syn.vals)),(4,.rwin 1 ws.length (qD ws))] 27 rfl rfl (by repeat first|exact trivial|refine⟨.inr ⟨6,_,rfl,rfl,(ofx (o:=.row 2 (trO (yP ⟨N,inp,S⟩ r more) yG pz 10).length ((trO (yP ⟨N,inp,S⟩ r more) yG pz 10).flatMap Evt.cells) 62) (zT _ _)).symm,rfl⟩,?_⟩|refine⟨.inr ⟨7,_,rfl,rfl,(ofx (o:=.row 8 N.length ((N.flatMap Prm.vals).map .v) 60) (qL _ _)).symm,rfl⟩,?_⟩|refine⟨.inr ⟨8,_,rfl,rfl,(ofx (o:=.row 4 S.length ((nowL S (trS (yP ⟨N,inp,S⟩ r more) yG pz 10).m).flatMap Syn.cells) 55) (yH _ _)).symm,rfl⟩,?_⟩|refine⟨.inl ⟨rfl,fun i hi=>by cases hi⟩,?_⟩) ?_
   refine Run.drawQ (hc [] none nofun) [8,9,10,11,13,14,15] [] [] hl2 ?_
   conv=>whnf
   refine⟨by kernel_rfl,fun l3 hl3=> ?_,.inl rfl⟩
   obtain rfl:=hl3.nil
   exact Run.tH tail ⟨⟨rfl,ltb rfl⟩,⟨rfl,ltb rfl⟩,⟨rfl,ltb rfl⟩,⟨rfl,trivial⟩,trivial⟩ (by repeat first|exact trivial|refine⟨⟨rfl,by omega,qE _ rfl⟩,?_⟩|refine⟨⟨rfl,by omega,Os.h _⟩,?_⟩) (fun p hp=>by cases hp)
 ·have hZl:(nowL S (trS (yP ⟨N,inp,S⟩ r more) yG pz 10).m).length=S.length:=wC ..
  obtain⟨Z,hZ⟩ :∃Z,nowL S (trS (yP ⟨N,inp,S⟩ r more) yG pz 10).m=Z:=⟨_,rfl⟩
  rw[hZ]
  rw[hZ]at hZl
  have hres:trdB ⟨N,inp,S⟩ r pz more ws=decide (∀i,i<ws.length→(Z.getD (2+i) zC).w=ws.getD i 0):=by
   unfold trdB
   simp only[hZ]
  refine Run.W1 (hc [] none nofun) ?_
  conv=>whnf
  rw[show((S.length:Int) != (S.length:Int))=false by simp]
  conv=>whnf
  rw[show((S.length:Int) != IntKind.i64.wrap (2+(ws.length:Int)))=false by rw[show IntKind.i64.wrap (2+(ws.length:Int))=2+(ws.length:Int)from zL (by omega) (by omega)];simp;omega]
  conv=>whnf
  refine Run.lJ (T:=fun i=>[(4,.opq 4),(12,.ptr 19 0),(14,ii ((i:Nat):Int))]) (M:=fun _=>[(19,.cells [.opq 25,ii inp,.opq 26] 25),(4,.rwin 1 ws.length (qD ws)),(26,.row 4 S.length (Z.flatMap Syn.cells) 55)]) 43 (fun i=> ∀j (h:j<ws.length),j<i→(Z.getD (2+j) zC).w=ws[j]) ws.length ⟨⟨rfl,ltb rfl⟩,⟨rfl,ltb rfl⟩,⟨rfl,trivial⟩,trivial⟩ ⟨⟨rfl,by omega,qE _ rfl⟩,⟨rfl,by omega,Os.h _⟩,⟨rfl,by omega,Os.h _⟩,trivial⟩ (fun p hp=>by cases hp) (fun j h hj=>absurd hj (by omega)) ?_ ?_
  ·intro i hi hJ ih
   have hi3:2+i<Z.length:=by omega
   have hgz:Z.getD (2+i) zC=Z[2+i]:=by simp[List.getD_eq_getElem?_getD,hi3]
   refine Run.W1 (hc [] none nofun) ?_
   conv=>whnf
   rw[decide_eq_true (show((i:Nat):Int)<(ws.length:Int)by omega)]
   conv=>whnf
   refine Run.draw (hc [] none nofun) 12 ?_
   rw[show qG 0 12=qG 0 5++(qG 5 2++(qG 7 3++(qG 10 1++qG 11 1)))from rfl]
   simp only[qV]
   conv=>whnf
   rw[show IntKind.i64.wrap (2+((i:Nat):Int))=((2+i:Nat):Int)by rw[show(2:Int)+(i:Int)=((2+i:Nat):Int)by omega];exact zL (by omega) (by omega)]
   conv=>whnf
   refine⟨by omega,?_⟩
   conv=>whnf
   rw[yM (f:=Syn.cells) (l:=Z) (c:=ii Z[2+i].w) (2+i) 2 rfl rfl rfl rfl Syn.clen (by rw[qQ]) hi3 (by decide) rfl]
   conv=>whnf
   refine⟨by omega,?_⟩
   conv=>whnf
   rw[yS i rfl rfl rfl rfl (by rw[qQ,Nat.mul_one]) (xL hi)]
   conv=>whnf
   refine⟨by kernel_rfl,?_⟩
   refine Run.W1 (hc [] none nofun) ?_
   conv=>whnf
   cases e2:(Z[2+i].w != ws[i])
   case true=>
    conv=>whnf
    have e3 :¬ ∀i,i<ws.length→(Z.getD (2+i) zC).w=ws.getD i 0:=fun hall=>by
     have:=hall i hi
     rw[hgz,List.getD_eq_getElem?_getD,List.getElem?_eq_getElem hi]at this
     simp only[Option.getD_some]at this
     simp[this]at e2
    exact⟨fun ρ w' hW _=>⟨by rw[hres,decide_eq_false e3];rfl,hW.toExt⟩⟩
   have e3:Z[2+i].w=ws[i]:=by simpa using e2
   conv=>whnf
   exact Run.tH (ih fun j h hj=>by
    by_cases e:j=i
    ·subst e;rw[hgz];exact e3
    ·exact hJ j h (by omega)) ⟨⟨rfl,ltb rfl⟩,⟨rfl,ltb rfl⟩,⟨wsx (by omega),trivial⟩,trivial⟩ ⟨⟨rfl,by omega,qE _ rfl⟩,⟨rfl,by omega,Os.h _⟩,⟨rfl,by omega,Os.h _⟩,trivial⟩ (fun p hp=>by cases hp)
  ·intro hJ
   refine Run.W1 (hc [] none nofun) ?_
   conv=>whnf
   rw[decide_eq_false (show ¬((ws.length:Nat):Int)<(ws.length:Int)by omega)]
   conv=>whnf
   have e3 :∀i,i<ws.length→(Z.getD (2+i) zC).w=ws.getD i 0:=fun i h=>by
    rw[hJ i h h,List.getD_eq_getElem?_getD,List.getElem?_eq_getElem h];rfl
   exact⟨fun ρ w' hW _=>⟨by rw[hres,decide_eq_true e3];rfl,hW.toExt⟩⟩
end Go.Proofs.Ytnnlpdgnlccbjaa
namespace Go.Sx
theorem WI.reenv {w0:World}{L:List (Nat×Nat)}{ρ ρ':Env}{M:Mem}{S:Nat→Prop}{w:World}{q:Nat}(h:WI w0 L ρ M S w)(ha:Env.agree (· ≠ q) ρ ρ')(hs:ρ'.s q=ρ.s q)(hM :∀i o,M i=some o→i≠q∧o.sc (· ≠ q)):WI w0 L ρ' M S w:=by
 have hss :∀j,ρ'.s j=ρ.s j:=fun j=>by
  by_cases e:j=q
  ·rw[e];exact hs
  ·exact(ha j e).1
 refine⟨fun i o hi=> ?_,fun i j oi oj hi hj hne ho ho'=> ?_,fun i o hi ho=> ?_,fun p hp=> ?_,h.keep,h.size,h.os,h.tape,h.output⟩
 ·obtain⟨g1,g2,g3⟩:=h.mem i o hi
  obtain⟨m1,m2⟩:=hM i o hi
  exact⟨g1,g2,SObj.rG ha m1 m2 (fun _=>rfl) g3⟩
 ·rw[hss,hss]
  exact h.dist i j oi oj hi hj hne ((SObj.rA ha (hM i oi hi).1).1 ho) ((SObj.rA ha (hM j oj hj).1).1 ho')
 ·rw[hss]
  exact h.new i o hi ((SObj.rA ha (hM i o hi).1).1 ho)
 ·obtain⟨h1,h2⟩:=h.lid p hp
  exact⟨h1,by rw[hss,h2]⟩
def Env.nilAt (ρ:Env)(q:Nat)(v:Option Addr×Nat×Nat):Env:=⟨ρ.s,ρ.o,fun j=>if j=q then v else ρ.h j⟩
theorem Env.nilAt_agree (ρ:Env)(q:Nat)(v:Option Addr×Nat×Nat):Env.agree (· ≠ q) ρ (ρ.nilAt q v):=fun j (hj:j≠q)=>⟨rfl,rfl,by simp[Env.nilAt,hj]⟩
theorem BSpec.nilArg {P:Program}{g:FuncId}{args args2:List SV}{Mc Mc2:List (Nat×SObj)}{B:Nat}{is:List Nat}{v:SV}{M1:List (Nat×SObj)}{n1:Nat}(q e:Nat)(h:BSpec P g args Mc B is v M1 n1)(hq:q<B)
  (hargs :∀ ρ:Env,ρ.h q=(none,0,0)→SV.concs ρ args=SV.concs ρ args2) (ha2:SV.scs (· ≠ q) args2) (hMc2:AllP (fun x=>x.1≠q∧x.2.sc (· ≠ q)) Mc2)
  (hMc:AllP (fun x=>look ((q,.rwin e 0 [])::Mc2) x.1=some x.2) Mc) (hv:v.sc (· ≠ q)) (hM1:AllP (fun x=>x.1≠q∧x.2.sc (· ≠ q)) M1):BSpec P g args2 Mc2 B is v M1 n1:=by
 intro ρ w L' hW hL
 have hW5:WI w L' (ρ.nilAt q (none,0,0)) (look Mc2) (· < B) w:=hW.reenv (ρ.nilAt_agree q _) rfl fun i o hi=>hMc2.mem _ (qF hi)
 have hh:(ρ.nilAt q (none,0,0)).h q=(none,0,0):=by simp[Env.nilAt]
 have hWq:WI w L' (ρ.nilAt q (none,0,0)) (look ((q,.rwin e 0 [])::Mc2)) (· < B) w:=by
  have hcase :∀i o,look ((q,.rwin e 0 [])::Mc2) i=some o→(i=q∧o = .rwin e 0 [])∨look Mc2 i=some o:=by
   intro i o hi
   rw[qP]at hi
   split at hi
   ·rename_i e';exact .inl ⟨e'.symm,(Option.some.inj hi).symm⟩
   ·exact .inr hi
  refine⟨fun i o hi=> ?_,fun i j oi oj hi hj hne ho ho'=> ?_,fun i o hi ho=> ?_,hW5.lid,hW5.keep,hW5.size,hW5.os,hW5.tape,hW5.output⟩
  ·rcases hcase i o hi with⟨rfl,rfl⟩|hi
   ·exact⟨hq,trivial,by simp,by rw[hh],by rw[hh];exact Nat.le_refl _,.inl rfl⟩
   ·exact hW5.mem i o hi
  ·rcases hcase i oi hi with⟨rfl,rfl⟩|hi
   ·exact ho.elim
   ·rcases hcase j oj hj with⟨rfl,rfl⟩|hj
    ·exact ho'.elim
    ·exact hW5.dist i j oi oj hi hj hne ho ho'
  ·rcases hcase i o hi with⟨rfl,rfl⟩|hi
   ·exact ho.elim
   ·exact hW5.new i o hi ho
 have hcall:=h (ρ.nilAt q (none,0,0)) w L' (hWq.sub fun i o hi=>hMc.mem _ (qF hi)) hL
 rw[hargs _ hh,jE (ρ.nilAt_agree q (none,0,0)) _ ha2]at hcall
 refine hcall.mono fun en w' ⟨ρ',he,hvs,hag,hW'⟩=>⟨ρ'.nilAt q (ρ.h q),?_,hvs,fun j hj=> ?_,hW'.reenv (ρ'.nilAt_agree q _) rfl fun i o hi=>hM1.mem _ (qF hi)⟩
 ·rw[he,zY (ρ'.nilAt_agree q (ρ.h q)) _ hv]
 ·obtain⟨a1,a2,a3⟩:=hag j hj
  refine⟨a1,a2,?_⟩
  by_cases e:j=q
  ·subst e;simp[Env.nilAt]
  ·simp only[Env.nilAt,if_neg e]at a3 ⊢
   exact a3
end Go.Sx
namespace Go.Proofs.Ytnnlpdgnlccbjaa
open Go.Sx
set_option maxRecDepth 100000
set_option maxHeartbeats 8000000
theorem ex_chk:qZ exNet [exRul] [-1,-1,0]=0:=by kernel_rfl
theorem ex_prep:zO ⟨[zB],2,[]⟩ yG 10 10000=0:=by kernel_rfl
theorem ex_win:winR exRul 1=(2,0):=by kernel_rfl
theorem ex_out:trO (yP exNet exRul []) yG [] 10=[⟨1,0⟩,⟨3,1⟩]:=by kernel_rfl
theorem ex_trd:trdB exNet exRul [] [] [4]=true:=by kernel_rfl
def trainM0 (x:Lnt)(l:List Evt):List (Nat×SObj):=newM x++[(4,.rwin 2 l.length (l.flatMap Evt.vals))]
theorem sE (x:Lnt)(l:List Evt)(K:Nat)(h:qZ x.n x.rs x.pl=0)(hp:zO ⟨[zB],x.n.inp,[]⟩ l (K:Int) 10000=0)(hK:K*x.n.N.length≤65536) :
  BSpec Try.prog 20 [.agg [.opq 0,ii x.n.inp,.opq 1],.opq 2,.opq 3,.opq 4,nq,ii (K:Int)] (trainM0 x l) 6 [] (.tup [.opq 6,.agg [.opq 7,ii x.n.inp,.opq 8],ii 0])
   [(6,.row 2 (trO x l [] K).length ((trO x l [] K).flatMap Evt.cells) 62),(7,.row 8 x.n.N.length ((x.n.N.flatMap Prm.vals).map .v) 60),(8,.row 4 x.n.S.length ((nowL x.n.S (trS x l [] K).m).flatMap Syn.cells) 55)] 9:=by
 refine BSpec.nilArg 5 3 (tC x l [] K h hp (by unfold jX;rfl) hK) (by decide) (fun ρ hρ => ?_) (by simp[SV.scs,SV.sc]) ⟨⟨(show 0≠5 by decide),trivial⟩,⟨(show 1≠5 by decide),trivial⟩,⟨(show 2≠5 by decide),trivial⟩,⟨(show 3≠5 by decide),trivial⟩,⟨(show 4≠5 by decide),trivial⟩,trivial⟩ ⟨rfl,rfl,rfl,rfl,rfl,rfl,trivial⟩ (by simp[SV.sc,SV.scs])
  ⟨⟨(show 6≠5 by decide),zT _ _⟩,⟨(show 7≠5 by decide),qL _ _⟩,⟨(show 8≠5 by decide),yH _ _⟩,trivial⟩
 simp only[SV.concs,SV.conc,hρ]
theorem works_run (w:World):Calls Try.prog 14 #[] w fun e w'=>e = .returned (.bool true)∧Ext w w':=by
 have hpf:PF.oks Try.prog pfTrd:=gR
 have hc :∀L' rd,(∀p,rd=some p→p∈L')→Cx.ok ⟨Try.prog,tab,pfTrd,14,Try.f14,[],w,L',rd⟩:=fun L' rd h=>⟨qI,gR,Try.func14,mixed,h⟩
 refine Run.s9 (tab:=tab) (pf:=pfTrd) (cuts:=[]) mixed qI gR Try.func14 rfl [] 100 trivial rfl ?_
 conv=>whnf
 refine Run.rF (vs:=[]) (caps:=[]) example_spec (ent _ _ Try.func33 (by kernel_rfl) rfl) rfl rfl rfl rfl rfl rfl rfl (by decide) (by decide)
  trivial (fun i hi=>by cases hi) (.tup [.agg [.opq 0,ii 2,.opq 1],.agg (exRul.vals.map .v)]) [(0,.row 8 2 (([z6,z6].flatMap Prm.vals).map .v) 60),(1,.row 4 3 ((exS.flatMap Syn.vals).map .v) 55)] 2 rfl rfl
  ⟨.inr ⟨0,_,rfl,rfl,rfl,rfl⟩,.inr ⟨1,_,rfl,rfl,rfl,rfl⟩,trivial⟩ ?_
 refine Run.W1 (hc [] none nofun) ?_
 conv=>whnf
 refine Run.rB (g:=18) (vs:=[.agg (exRul.vals.map .v),ii 1]) (caps:=[]) (.tup [ii 2,ii 0]) (fun ρ w1 hW=>by
  have:=Window_run exRul 1 w1
  rw[ex_win]at this
  exact this) (ent _ _ Try.func18 (by kernel_rfl) rfl) rfl rfl rfl rfl rfl rfl rfl ⟨trivial,trivial,trivial⟩ ?_
 refine Run.W1 (hc [] none nofun) ?_
 conv=>whnf
 apply joinL [(1,.ptr 2 0),(2,.ptr 3 0),(3,ii 2),(4,ii 0),(5,.opq 19),(7,ii 0)] [(19,.row 2 2 (([⟨1,0⟩,⟨3,1⟩]:List Evt).flatMap Evt.cells) 62),(2,.cells [.opq 0,ii 2,.opq 1] 25),(3,.cells (exRul.vals.map .v) 36),(0,.row 8 2 (([z6,z6].flatMap Prm.vals).map .v) 60),(1,.row 4 3 ((exS.flatMap Syn.vals).map .v) 55)] 36
 ·intro tail
  refine Run.draw0 (hc [] none nofun) fun l0 hl0=> ?_
  have hlin:=Lin.ofGo [0,1,2,3,4,5,6,7,8,9,10,11,12,13] hl0 rfl (by decide)
  apply joinA [(6,.ptr 14 0),(1,.ptr 2 0),(2,.ptr 3 0),(3,ii 2),(4,ii 0),(18,.agg [.opq 0,ii 2,.opq 1]),(20,.slc 6 0 1 1),(21,.opq 7),(22,.opq 8)] [(14,.cells [nq,ii 0,nq] 25),(6,.cells (exRul.vals.map .v) 36),(7,.row 1 3 [ii (-1),ii (-1),ii 0] 3),(8,.row 2 2 [ii 0,ii 0,ii 2,ii 1] 62),(2,.cells [.opq 0,ii 2,.opq 1] 25),(3,.cells (exRul.vals.map .v) 36),(0,.row 8 2 (([z6,z6].flatMap Prm.vals).map .v) 60),(1,.row 4 3 ((exS.flatMap Syn.vals).map .v) 55)] 18 [5,6,7,8,9,11,12,13]
  ·intro g1
   refine Run.drawQ (hc [] none nofun) [0,1,2,3,4] [10] [5,6,7,8,9,11,12,13] hlin ?_
   conv=>whnf
   refine⟨by kernel_rfl,fun l1 hl1=> ?_,.inr ⟨[(1,.ptr 2 0),(2,.ptr 3 0),(3,ii 2),(4,ii 0),(18,.agg [.opq 0,ii 2,.opq 1]),(20,.slc 6 0 1 1),(21,.opq 7),(22,.opq 8)],[(6,.cells (exRul.vals.map .v) 36),(7,.row 1 3 [ii (-1),ii (-1),ii 0] 3),(8,.row 2 2 [ii 0,ii 0,ii 2,ii 1] 62),(2,.cells [.opq 0,ii 2,.opq 1] 25),(3,.cells (exRul.vals.map .v) 36),(0,.row 8 2 (([z6,z6].flatMap Prm.vals).map .v) 60),(1,.row 4 3 ((exS.flatMap Syn.vals).map .v) 55)],by kernel_rfl,⟨rfl,rfl,rfl,rfl,rfl,rfl,rfl,rfl,trivial⟩,⟨rfl,rfl,rfl,rfl,rfl,rfl,rfl,trivial⟩,fun l1 hl1=> ?_⟩⟩
   ·exact Run.tH (g1 l1 hl1) (by repeat first|exact trivial|refine⟨⟨rfl,ltb rfl⟩,?_⟩|refine⟨⟨rfl,trivial⟩,?_⟩|refine⟨⟨rfl,⟨(show 0<18 by decide),trivial,ltb rfl,trivial⟩⟩,?_⟩) (by repeat first|exact trivial|refine⟨⟨rfl,by omega,qE _ rfl⟩,?_⟩|refine⟨⟨rfl,by omega,Os.h _⟩,?_⟩) (fun p hp=>by cases hp)
   ·obtain⟨i,l2,rfl,hi,_,hl2⟩:=hl1.next [5,10] rfl rfl rfl
    have hi2:i=5∨i=10:=by simpa using hi
    rcases hi2 with rfl|rfl
    ·refine Run.rJ (T':=[(1,.ptr 2 0),(2,.ptr 3 0),(3,ii 2),(4,ii 0),(18,.agg [.opq 0,ii 2,.opq 1]),(20,.opq 18),(21,.opq 7),(22,.opq 8)]) (M':=[(7,.row 1 3 [ii (-1),ii (-1),ii 0] 3),(8,.row 2 2 [ii 0,ii 0,ii 2,ii 1] 62),(2,.cells [.opq 0,ii 2,.opq 1] 25),(3,.cells (exRul.vals.map .v) 36),(0,.row 8 2 (([z6,z6].flatMap Prm.vals).map .v) 60),(1,.row 4 3 ((exS.flatMap Syn.vals).map .v) 55)]) 6 10 1 (exRul.vals.map .v) 36 rfl rfl (by omega) (AllP.mem ⟨.inl rfl,.inl rfl,.inl rfl,.inl rfl,.inl rfl,.inr ⟨rfl,rfl⟩,.inl rfl,.inl rfl,trivial⟩) (AllP.mem (by repeat first|exact trivial|refine⟨⟨rfl,(neb rfl)⟩,?_⟩)) ?_
     refine Run.s6 (T':=[(1,.ptr 2 0),(2,.ptr 3 0),(3,ii 2),(4,ii 0),(18,.agg [.opq 0,ii 2,.opq 1]),(20,.opq 18),(21,.opq 7),(22,.opq 8)]) (M':=[(18,.row 10 1 (exRul.vals.map .v) 36),(7,.row 1 3 [ii (-1),ii (-1),ii 0] 3),(8,.row 2 2 [ii 0,ii 0,ii 2,ii 1] 62),(2,.cells [.opq 0,ii 2,.opq 1] 25),(3,.cells (exRul.vals.map .v) 36),(0,.row 8 2 (([z6,z6].flatMap Prm.vals).map .v) 60),(1,.row 4 3 ((exS.flatMap Syn.vals).map .v) 55)]) 19 (by repeat first|exact trivial|refine⟨⟨rfl,ltb rfl⟩,?_⟩|refine⟨⟨rfl,trivial⟩,?_⟩|refine⟨⟨rfl,⟨(show 0<19 by decide),trivial,ltb rfl,trivial⟩⟩,?_⟩) (by repeat first|exact trivial|refine⟨⟨rfl,by omega,Os.h _⟩,?_⟩|refine⟨⟨rfl,by omega,qE _ rfl⟩,?_⟩) (fun p hp=>by cases hp) ?_
     have htr:=sE (yP exNet exRul []) yG 10 ex_chk ex_prep (by decide)
     rw[ex_out]at htr
     refine Run.rI (vs:=[.agg [.opq 0,ii 2,.opq 1],.opq 2,.opq 3,.opq 4,nq,ii 10]) (caps:=[]) (caps2:=[]) htr (ent _ _ Try.func20 (by kernel_rfl) rfl) rfl rfl rfl rfl rfl rfl [.agg [.opq 0,ii 2,.opq 1],.opq 18,.opq 7,.opq 8,nq,ii 10] rfl (rq [(2,18),(3,7),(4,8)]) rfl (fun i hi=>by have inv :∀i,i<6→rq [(2,18),(3,7),(4,8)] i<19:=(by decide);exact inv i hi) (fun i hi j hj hne=>by have inj :∀i,i<6 → ∀j,j<6→i≠j→rq [(2,18),(3,7),(4,8)] i≠rq [(2,18),(3,7),(4,8)] j:=(by decide);exact inj i hi j hj hne) (by decide) (by repeat first|exact trivial|refine⟨⟨by omega,trivial,⟨_,rfl,Conv.row (by decide) rfl⟩,.inl rfl,fun _=>by simp⟩,?_⟩) (fun i hi=>by cases hi) (.tup [.opq 19,.agg [.opq 20,ii 2,.opq 21],ii 0]) [(19,.row 2 2 (([⟨1,0⟩,⟨3,1⟩]:List Evt).flatMap Evt.cells) 62),(2,.cells [.opq 0,ii 2,.opq 1] 25),(3,.cells (exRul.vals.map .v) 36),(0,.row 8 2 (([z6,z6].flatMap Prm.vals).map .v) 60),(1,.row 4 3 ((exS.flatMap Syn.vals).map .v) 55)] 22 rfl rfl (by repeat first|exact trivial|refine⟨.inr ⟨6,_,rfl,rfl,(ofx (o:=.row 2 2 (([⟨1,0⟩,⟨3,1⟩]:List Evt).flatMap Evt.cells) 62) (zT _ _)).symm,rfl⟩,?_⟩|refine⟨.inl ⟨rfl,fun i hi=>by cases hi⟩,?_⟩) ?_
     refine Run.drawQ (hc [] none nofun) [6,7,8,9,10,11,12,13] [] [] hl2 ?_
     conv=>whnf
     refine⟨by kernel_rfl,fun l3 hl3=> ?_,.inl rfl⟩
     obtain rfl:=hl3.nil
     exact Run.tH tail ⟨⟨rfl,ltb rfl⟩,⟨rfl,ltb rfl⟩,⟨rfl,trivial⟩,⟨rfl,trivial⟩,⟨rfl,ltb rfl⟩,⟨rfl,trivial⟩,trivial⟩ (by repeat first|exact trivial|refine⟨⟨rfl,by omega,Os.h _⟩,?_⟩|refine⟨⟨rfl,by omega,qE _ rfl⟩,?_⟩) (fun p hp=>by cases hp)
    ·refine Run.s0 (hc [] none nofun) 1 _ ?_
     conv=>whnf
     refine Run.rC (T':=[(6,.ptr 14 0),(1,.ptr 2 0),(2,.ptr 3 0),(3,ii 2),(4,ii 0),(18,.agg [.opq 0,ii 2,.opq 1]),(20,.slc 6 0 1 1),(21,.opq 7),(22,.opq 8)]) (M':=[(14,.cells [nq,ii 0,nq] 25),(6,.cells (exRul.vals.map .v) 36),(7,.row 1 3 [ii (-1),ii (-1),ii 0] 3),(8,.row 2 2 [ii 0,ii 0,ii 2,ii 1] 62),(2,.cells [.opq 0,ii 2,.opq 1] 25),(3,.cells (exRul.vals.map .v) 36),(0,.row 8 2 (([z6,z6].flatMap Prm.vals).map .v) 60),(1,.row 4 3 ((exS.flatMap Syn.vals).map .v) 55)]) (rq [(14,18),(18,14)]) 18 ?_ ?_ ?_ ?_ (g1 l2 hl2)
     ·intro i hi j hj hne he
      have inv :∀i,i<18→rq [(14,18),(18,14)] (rq [(14,18),(18,14)] i)=i:=by decide
      exact hne (by rw[←inv i hi,he,inv j hj])
     ·exact(by repeat first|exact trivial|refine⟨⟨rfl,ltb rfl⟩,?_⟩|refine⟨⟨rfl,trivial⟩,?_⟩|refine⟨⟨rfl,⟨(show 0<18 by decide),trivial,ltb rfl,trivial⟩⟩,?_⟩)
     ·exact(by repeat first|exact trivial|refine⟨⟨rfl,by omega,qE _ rfl⟩,?_⟩|refine⟨⟨congrArg some (ofx (o:=.cells (exRul.vals.map .v) 36) (qL _ _)).symm,by omega,Os.h _⟩,?_⟩|refine⟨⟨congrArg some (ofx (o:=.row 8 2 (([z6,z6].flatMap Prm.vals).map .v) 60) (qL _ _)).symm,by omega,Os.h _⟩,?_⟩|refine⟨⟨congrArg some (ofx (o:=.row 4 3 ((exS.flatMap Syn.vals).map .v) 55) (qL _ _)).symm,by omega,Os.h _⟩,?_⟩)
     ·intro p hp;cases hp
  ·intro l1 hl1
   obtain⟨i,l2,rfl,hi,_,hl2⟩:=hl1.next [5] rfl rfl rfl
   obtain rfl:i=5:=by simpa using hi
   refine Run.rJ (T':=[(6,.ptr 14 0),(1,.ptr 2 0),(2,.ptr 3 0),(3,ii 2),(4,ii 0),(18,.agg [.opq 0,ii 2,.opq 1]),(20,.opq 18),(21,.opq 7),(22,.opq 8)]) (M':=[(14,.cells [nq,ii 0,nq] 25),(7,.row 1 3 [ii (-1),ii (-1),ii 0] 3),(8,.row 2 2 [ii 0,ii 0,ii 2,ii 1] 62),(2,.cells [.opq 0,ii 2,.opq 1] 25),(3,.cells (exRul.vals.map .v) 36),(0,.row 8 2 (([z6,z6].flatMap Prm.vals).map .v) 60),(1,.row 4 3 ((exS.flatMap Syn.vals).map .v) 55)]) 6 10 1 (exRul.vals.map .v) 36 rfl rfl (by omega) (AllP.mem ⟨.inl rfl,.inl rfl,.inl rfl,.inl rfl,.inl rfl,.inl rfl,.inr ⟨rfl,rfl⟩,.inl rfl,.inl rfl,trivial⟩) (AllP.mem (by repeat first|exact trivial|refine⟨⟨rfl,(neb rfl)⟩,?_⟩)) ?_
   refine Run.s6 (T':=[(6,.ptr 14 0),(1,.ptr 2 0),(2,.ptr 3 0),(3,ii 2),(4,ii 0),(18,.agg [.opq 0,ii 2,.opq 1]),(20,.opq 18),(21,.opq 7),(22,.opq 8)]) (M':=[(18,.row 10 1 (exRul.vals.map .v) 36),(14,.cells [nq,ii 0,nq] 25),(7,.row 1 3 [ii (-1),ii (-1),ii 0] 3),(8,.row 2 2 [ii 0,ii 0,ii 2,ii 1] 62),(2,.cells [.opq 0,ii 2,.opq 1] 25),(3,.cells (exRul.vals.map .v) 36),(0,.row 8 2 (([z6,z6].flatMap Prm.vals).map .v) 60),(1,.row 4 3 ((exS.flatMap Syn.vals).map .v) 55)]) 19 (by repeat first|exact trivial|refine⟨⟨rfl,ltb rfl⟩,?_⟩|refine⟨⟨rfl,trivial⟩,?_⟩|refine⟨⟨rfl,⟨(show 0<19 by decide),trivial,ltb rfl,trivial⟩⟩,?_⟩) (by repeat first|exact trivial|refine⟨⟨rfl,by omega,Os.h _⟩,?_⟩|refine⟨⟨rfl,by omega,qE _ rfl⟩,?_⟩) (fun p hp=>by cases hp) ?_
   have htr:=sE (yP exNet exRul []) yG 10 ex_chk ex_prep (by decide)
   rw[ex_out]at htr
   refine Run.rI (vs:=[.agg [.opq 0,ii 2,.opq 1],.opq 2,.opq 3,.opq 4,nq,ii 10]) (caps:=[]) (caps2:=[]) htr (ent _ _ Try.func20 (by kernel_rfl) rfl) rfl rfl rfl rfl rfl rfl [.agg [.opq 0,ii 2,.opq 1],.opq 18,.opq 7,.opq 8,nq,ii 10] rfl (rq [(2,18),(3,7),(4,8)]) rfl (fun i hi=>by have inv :∀i,i<6→rq [(2,18),(3,7),(4,8)] i<19:=(by decide);exact inv i hi) (fun i hi j hj hne=>by have inj :∀i,i<6 → ∀j,j<6→i≠j→rq [(2,18),(3,7),(4,8)] i≠rq [(2,18),(3,7),(4,8)] j:=(by decide);exact inj i hi j hj hne) (by decide) (by repeat first|exact trivial|refine⟨⟨by omega,trivial,⟨_,rfl,Conv.row (by decide) rfl⟩,.inl rfl,fun _=>by simp⟩,?_⟩) (fun i hi=>by cases hi) (.tup [.opq 19,.agg [.opq 20,ii 2,.opq 21],ii 0]) [(19,.row 2 2 (([⟨1,0⟩,⟨3,1⟩]:List Evt).flatMap Evt.cells) 62),(14,.cells [nq,ii 0,nq] 25),(2,.cells [.opq 0,ii 2,.opq 1] 25),(3,.cells (exRul.vals.map .v) 36),(0,.row 8 2 (([z6,z6].flatMap Prm.vals).map .v) 60),(1,.row 4 3 ((exS.flatMap Syn.vals).map .v) 55)] 22 rfl rfl (by repeat first|exact trivial|refine⟨.inr ⟨6,_,rfl,rfl,(ofx (o:=.row 2 2 (([⟨1,0⟩,⟨3,1⟩]:List Evt).flatMap Evt.cells) 62) (zT _ _)).symm,rfl⟩,?_⟩|refine⟨.inl ⟨rfl,fun i hi=>by cases hi⟩,?_⟩) ?_
   refine Run.drawQ (hc [] none nofun) [6,7,8,9,11,12,13] [] [] hl2 ?_
   conv=>whnf
   refine⟨by kernel_rfl,fun l3 hl3=> ?_,.inl rfl⟩
   obtain rfl:=hl3.nil
   exact Run.tH tail ⟨⟨rfl,ltb rfl⟩,⟨rfl,ltb rfl⟩,⟨rfl,trivial⟩,⟨rfl,trivial⟩,⟨rfl,ltb rfl⟩,⟨rfl,trivial⟩,trivial⟩ (by repeat first|exact trivial|refine⟨⟨rfl,by omega,Os.h _⟩,?_⟩|refine⟨⟨rfl,by omega,qE _ rfl⟩,?_⟩) (fun p hp=>by cases hp)
 ·refine Run.W1 (hc [] none nofun) ?_
  conv=>whnf
  refine Run.rB (g:=22) (vs:=[.opq 19,.slc 36 0 2 2]) (caps:=[]) (.v (.bool true)) (fun ρ w1 hW=>by
   have h1:=hW.rowsAtR (i:=19) rfl (by decide)
   rw[evts_v,zN]at h1
   have h2:=hW.rowsAtS (i:=36) (e:=2) (n:=2) (cap:=2) rfl rfl (by decide)
   have:=same_run _ _ [⟨1,0⟩,⟨3,1⟩] [⟨1,0⟩,⟨3,1⟩] w1 h1 h2 (by decide)
   exact this) (ent _ _ Try.func22 (by kernel_rfl) rfl) rfl rfl rfl rfl rfl rfl rfl trivial ?_
  refine Run.W1 (hc [] none nofun) ?_
  conv=>whnf
  refine Run.rB (g:=35) (vs:=[.agg [.opq 0,ii 2,.opq 1],.agg (exRul.vals.map .v),nq,nq,.slc 37 0 1 1]) (caps:=[]) (.v (.bool true)) (fun ρ w1 hW=>by
   have h1:=hW.rowsAtR (i:=0) rfl (by decide)
   rw[zN]at h1
   have h2:=hW.rowsAtR (i:=1) rfl (by decide)
   rw[zN]at h2
   have h3:=hW.rowsAtS (i:=37) (e:=1) (n:=1) (cap:=1) rfl rfl (by decide)
   have hz :∀e,RowsAt w1 (.slice none 0 0) e 0 []:=fun e=>⟨by simp,none,0,rfl,Nat.le_refl _,.inl rfl⟩
   have:=trained_run _ _ exNet exRul _ [] _ [] _ [4] w1 ⟨h1,h2⟩ (hz 3) (hz 1) h3 (by decide) rfl ex_chk ex_prep (by unfold jX;rfl)
   rw[ex_trd]at this
   exact this) (ent _ _ Try.func35 (by kernel_rfl) rfl) rfl rfl rfl rfl rfl rfl rfl trivial ?_
  refine Run.W1 (hc [] none nofun) ?_
  conv=>whnf
  exact⟨fun ρ w' hW _=>⟨rfl,hW.toExt⟩⟩
end Go.Proofs.Ytnnlpdgnlccbjaa
